import Derived.Test.YtkkkfjgagjdcoaaGreatDoorKFnExactLeansOn
namespace Go.Proofs.YtkkkfjgagjdcoaaGreatDoor.KFnExactLeansOn
open Go.Eng
set_option linter.unusedVariables false
set_option maxRecDepth 100000
noncomputable section
abbrev RW:=List (List PV)
abbrev BA:=ByteArray
def qQJ:Sg:=⟨43,[(.agg [qI,qI,qS]),aI],[],⟨aI,[],[]⟩⟩
def qHa (n:Nat) (x0 x1:Int) (x2:BA) (x3:Int):Tr (Int):=(.ask ((decide ((IntKind.i64.wrap (x3-(x2.size:Int)))<(0:Int)))) (.done (-1:Int)) (.done (IntKind.i64.wrap (x3-(x2.size:Int)))))
def qFJ:Nat→Int→Int→BA→Int→Option (Int)
 |0,_,_,_,_=>none
 |n+1,x0,x1,x2,x3=>(qHa n x0 x1 x2 x3).run
theorem qO1:∀n,Ok (Rn n) qQJ (qFJ n)
 |0=>ok0 fun _=>rfl
 |n+1=>stO (T:=qHa n) (by kernel_rfl) [] [] (fun _=>(by kernel_rfl)) fun _=>(by kernel_rfl)
def qO2:Sg:=⟨11,[aL,aI],[],⟨aI,[],[]⟩⟩
def qB1 (n:Nat) (v:RW×Int×Int):Tr ((RW×Int×Int)⊕((Int)⊕(Int))):=(.ask ((decide (v.2.2<(v.1.length:Int)))) (.ask (decide (0≤v.2.2∧v.2.2<v.1.length)) (.opt (v.1[(v.2.2).toNat]?) fun e1=>(.ask (decide (e1.length=3)) (.opt (zC .i64 e1 0) fun y2=>(.opt (zC .i64 e1 1) fun y3=>(.opt (zZ e1 2) fun y4=>(.opt (qFJ n y2 y3 y4 v.2.1) fun r5=>(.ask ((decide (r5<(0:Int)))) (.done (.inr (.inl ((-1:Int))))) (.done (.inl (v.1,r5,(IntKind.i64.wrap (v.2.2+(1:Int))))))))))) .fail)) .fail) (.done (.inr (.inr (v.2.1)))))
def qGI (n:Nat) (x0:RW) (x1:Int):Tr (Int):=(.ask ((decide ((IntKind.i64.wrap (x1-(x0.length:Int)))<(0:Int)))) (.done (-1:Int)) (.opt (zD (qB1 n) n (x0,(IntKind.i64.wrap (x1-(x0.length:Int))),(0:Int))) fun r6=>(.alt r6 (fun r7=>(.done r7)) (fun r8=>(.done r8)))))
def qEY:Nat→RW→Int→Option (Int)
 |0,_,_=>none
 |n+1,x0,x1=>(qGI n x0 x1).run
abbrev qJV (n:Nat):List (Ent (Rn n)):= [en (qO1 n)]
def qLw (n:Nat):LEnt (KB 11) (Rn n) n:=lok (zM 11) 61 ⟨⟨[(0,aL),(1,aI),(5,aI)],[],[]⟩,[(.ret,⟨[(4,aI)],[],[]⟩),(.exit 0,⟨[(1,aI)],[],[]⟩)]⟩ (qB1 n) (qJV n) [] fun _=>(by kernel_rfl)
theorem qNw:∀n,Ok (Rn n) qO2 (qEY n)
 |0=>ok0 fun _=>rfl
 |n+1=>stO (T:=qGI n) (by kernel_rfl) (qJV n) [qLw n] (fun _=>(by kernel_rfl)) fun _=>(by kernel_rfl)
def qRD:Sg:=⟨14,[(.agg [qI,qI])],[],⟨(.agg [qI,qI]),[],[]⟩⟩
def qF9 (n:Nat) (x0 x1:Int):Tr (Int×Int):=(.done (x0,x1))
def qCZ:Nat→Int→Int→Option (Int×Int)
 |0,_,_=>none
 |n+1,x0,x1=>(qF9 n x0 x1).run
theorem qK0:∀n,Ok (Rn n) qRD (qCZ n)
 |0=>ok0 fun _=>rfl
 |n+1=>stO (T:=qF9 n) (by kernel_rfl) [] [] (fun _=>(by kernel_rfl)) fun _=>(by kernel_rfl)
def qQK:Sg:=⟨46,[(.agg [qI,qI,qS])],[],⟨(.agg [qI,qI,qS]),[],[]⟩⟩
def qHb (n:Nat) (x0 x1:Int) (x2:BA):Tr (Int×Int×BA):=(.opt (qCZ n x0 x1) fun r14=>(.done (r14.1,r14.2,x2)))
def qFK:Nat→Int→Int→BA→Option (Int×Int×BA)
 |0,_,_,_=>none
 |n+1,x0,x1,x2=>(qHb n x0 x1 x2).run
abbrev qQL (n:Nat):List (Ent (Rn n)):= [en (qK0 n)]
theorem qO3:∀n,Ok (Rn n) qQK (qFK n)
 |0=>ok0 fun _=>rfl
 |n+1=>stO (T:=qHb n) (by kernel_rfl) (qQL n) [] (fun _=>(by kernel_rfl)) fun _=>(by kernel_rfl)
def qO4:Sg:=⟨13,[aL],[],⟨(.c (.own 0 0 0 0)),[],[⟨0,3,72,(.row [])⟩]⟩⟩
def qCa (n:Nat) (v:RW×Nat×Int×RW):Tr ((RW×Nat×Int×RW)⊕((Nat×RW))):=(.ask ((decide (v.2.2.1<(v.1.length:Int)))) (.ask (decide (0≤v.2.2.1∧v.2.2.1<v.1.length)) (.opt (v.1[(v.2.2.1).toNat]?) fun e10=>(.ask (decide (e10.length=3)) (.opt (zC .i64 e10 0) fun y11=>(.opt (zC .i64 e10 1) fun y12=>(.opt (zZ e10 2) fun y13=>(.opt (qFK n y11 y12 y13) fun r14=>(.ask (decide (v.2.1=v.2.2.2.length∧0≤v.2.2.1∧v.2.2.1<((v.2.1:Nat):Int))) (.opt (v.2.2.2[(v.2.2.1).toNat]?) fun e15=>(.ask (decide (0+3≤e15.length)) (.done (.inl (v.1,v.2.1,(IntKind.i64.wrap (v.2.2.1+(1:Int))),(v.2.2.2.set (v.2.2.1).toNat (zK e15 0 [(.i .i64 r14.1),(.i .i64 r14.2.1),(.s r14.2.2)]))))) .fail)) .fail))))) .fail)) .fail) (.done (.inr ((v.2.1,v.2.2.2)))))
def qGJ (n:Nat) (x0:RW):Tr (Nat×RW):=(.ask (decide (0≤(x0.length:Int)∧(x0.length:Int)=(x0.length:Int)∧32*(x0.length:Int)≤140737488355328∧(x0.length:Int)≤9223372036854775807)) (.opt (zD (qCa n) n (x0,((x0.length:Int)).toNat,(0:Int),(zAX [(.i .i64 (0:Int)),(.i .i64 (0:Int)),(.s (⟨#[]⟩:BA))] ((x0.length:Int)).toNat))) fun r16=>(.done (r16.1,r16.2))) .fail)
def qCI:Nat→RW→Option (Nat×RW)
 |0,_=>none
 |n+1,x0=>(qGJ n x0).run
abbrev qJW (n:Nat):List (Ent (Rn n)):= [en (qO3 n)]
def qLx (n:Nat):LEnt (KB 13) (Rn n) n:=lok (zM 13) 29 ⟨⟨[(0,aL),(3,(.c (.own 0 448 0 0))),(4,aI)],[(448,⟨0,3,72,(.row [])⟩)],[]⟩,[(.exit 0,⟨[(3,(.c (.own 0 448 0 0)))],[(448,⟨0,3,72,(.row [])⟩)],[]⟩)]⟩ (qCa n) (qJW n) [] fun _=>(by kernel_rfl)
theorem qNx:∀n,Ok (Rn n) qO4 (qCI n)
 |0=>ok0 fun _=>rfl
 |n+1=>stO (T:=qGJ n) (by kernel_rfl) (qJW n) [qLx n] (fun _=>(by kernel_rfl)) fun _=>(by kernel_rfl)
def qO5:Sg:=⟨92,[aS],[],⟨aB,[],[]⟩⟩
def qBR (n:Nat) (v:BA×Int):Tr ((BA×Int)⊕((Bool)⊕(BA))):=(.ask ((decide (v.2<(v.1.size:Int)))) (.ask (decide (0≤v.2)) (.opt (v.1.toList[(v.2).toNat]?) fun c21=>(.ask ((decide ((c21.toNat:Int)<(32:Int)))) (.done (.inr (.inl (false)))) (.ask (decide (0≤v.2)) (.opt (v.1.toList[(v.2).toNat]?) fun c22=>(.ask ((decide ((c22.toNat:Int)>(126:Int)))) (.done (.inr (.inl (false)))) (.done (.inl (v.1,(IntKind.i64.wrap (v.2+(1:Int)))))))) .fail))) .fail) (.done (.inr (.inr (v.1)))))
def qGK (n:Nat) (x0:BA):Tr (Bool):=(.opt (zD (qBR n) n (x0,(0:Int))) fun r23=>(.alt r23 (fun r24=>(.done r24)) (fun r25=>(.done (decide ((r25.size:Int)≤(200:Int)))))))
def qCJ:Nat→BA→Option (Bool)
 |0,_=>none
 |n+1,x0=>(qGK n x0).run
def qLy (n:Nat):LEnt (KB 92) (Rn n) n:=lok (zM 92) 13 ⟨⟨[(0,aS),(3,aI)],[],[]⟩,[(.ret,⟨[(2,aB)],[],[]⟩),(.exit 0,⟨[(0,aS)],[],[]⟩)]⟩ (qBR n) [] [] fun _=>(by kernel_rfl)
theorem qFf:∀n,Ok (Rn n) qO5 (qCJ n)
 |0=>ok0 fun _=>rfl
 |n+1=>stO (T:=qGK n) (by kernel_rfl) [] [qLy n] (fun _=>(by kernel_rfl)) fun _=>(by kernel_rfl)
def qLI:Sg:=⟨135,[(.c (.ptr 0 0 0 0 0))],[[(0,⟨0,4,175,(.box [qS,qI,qB,(.own 0 1 1 0)])⟩),(1,⟨1,14,162,(.row [])⟩)]],⟨(.tup []),[[(0,⟨0,4,175,(.box [qS,qI,qB,(.own 0 1 1 0)])⟩),(1,⟨1,14,162,(.row [])⟩)]],[]⟩⟩
def qDd (n:Nat) (v:BA×Int×Bool×Nat×RW):Tr ((BA×Int×Bool×Nat×RW)⊕((BA×Int×Bool×Nat×RW))):=(.ask ((decide (v.2.1<(v.1.size:Int)))) (.ask (decide (0≤v.2.1)) (.opt (v.1.toList[(v.2.1).toNat]?) fun c29=>(.ask (((c29.toNat:Int)==(32:Int))) (.done (.inl (v.1,(IntKind.i64.wrap (v.2.1+(1:Int))),v.2.2.1,v.2.2.2.1,v.2.2.2.2))) (.done (.inr ((v.1,v.2.1,v.2.2.1,v.2.2.2.1,v.2.2.2.2)))))) .fail) (.done (.inr ((v.1,v.2.1,v.2.2.1,v.2.2.2.1,v.2.2.2.2)))))
def qGL (n:Nat) (x0:BA) (x1:Int) (x2:Bool) (x3:Nat) (x4:RW):Tr (BA×Int×Bool×Nat×RW):=(.opt (zD (qDd n) n (x0,x1,x2,x3,x4)) fun r30=>(.done (r30.1,r30.2.1,r30.2.2.1,r30.2.2.2.1,r30.2.2.2.2)))
def qBd:Nat→BA→Int→Bool→Nat→RW→Option (BA×Int×Bool×Nat×RW)
 |0,_,_,_,_,_=>none
 |n+1,x0,x1,x2,x3,x4=>(qGL n x0 x1 x2 x3 x4).run
def qJX (n:Nat):LEnt (KB 135) (Rn n) n:=lok (zM 135) 1 ⟨⟨[(0,(.c (.ptr 0 0 0 0 0)))],[],[[(0,⟨0,4,175,(.box [qS,qI,qB,(.own 0 1 1 0)])⟩),(1,⟨1,14,162,(.row [])⟩)]]⟩,[(.exit 0,⟨[],[],[[(0,⟨0,4,175,(.box [qS,qI,qB,(.own 0 1 1 0)])⟩),(1,⟨1,14,162,(.row [])⟩)]]⟩)]⟩ (qDd n) [] [] fun _=>(by kernel_rfl)
theorem qDx:∀n,Ok (Rn n) qLI (qBd n)
 |0=>ok0 fun _=>rfl
 |n+1=>stO (T:=qGL n) (by kernel_rfl) [] [qJX n] (fun _=>(by kernel_rfl)) fun _=>(by kernel_rfl)
def qO6:Sg:=⟨208,[(.c (.ptr 0 0 0 0 0)),aS],[[(0,⟨0,4,175,(.box [qS,qI,qB,(.own 0 1 1 0)])⟩),(1,⟨1,14,162,(.row [])⟩)]],⟨aB,[[(0,⟨0,4,175,(.box [qS,qI,qB,(.own 0 1 1 0)])⟩),(1,⟨1,14,162,(.row [])⟩)]],[]⟩⟩
def qJY (n:Nat) (x0 x1:BA) (x2:Int) (x3:Bool) (x4:Nat) (x5:RW):Tr (Bool×BA×Int×Bool×Nat×RW):=(.opt (qBd n x1 x2 x3 x4 x5) fun r31=>(.ask (r31.2.2.1) (.done (false,r31.1,r31.2.1,r31.2.2.1,r31.2.2.2.1,r31.2.2.2.2)) (.ask ((decide ((IntKind.i64.wrap (r31.2.1+(x0.size:Int)))>(r31.1.size:Int)))) (.done (false,r31.1,r31.2.1,r31.2.2.1,r31.2.2.2.1,r31.2.2.2.2)) (.ask (decide (0≤r31.2.1∧r31.2.1≤(IntKind.i64.wrap (r31.2.1+(x0.size:Int)))∧(IntKind.i64.wrap (r31.2.1+(x0.size:Int)))≤r31.1.size)) (.ask ((!((r31.1.extract (r31.2.1).toNat ((IntKind.i64.wrap (r31.2.1+(x0.size:Int)))).toNat).toList==x0.toList))) (.done (false,r31.1,r31.2.1,r31.2.2.1,r31.2.2.2.1,r31.2.2.2.2)) (.done (true,r31.1,(IntKind.i64.wrap (r31.2.1+(x0.size:Int))),r31.2.2.1,r31.2.2.2.1,r31.2.2.2.2))) .fail))))
def qAE:Nat→BA→BA→Int→Bool→Nat→RW→Option (Bool×BA×Int×Bool×Nat×RW)
 |0,_,_,_,_,_,_=>none
 |n+1,x0,x1,x2,x3,x4,x5=>(qJY n x0 x1 x2 x3 x4 x5).run
abbrev qO7 (n:Nat):List (Ent (Rn n)):= [en (qDx n)]
theorem qEB:∀n,Ok (Rn n) qO6 (qAE n)
 |0=>ok0 fun _=>rfl
 |n+1=>stO (T:=qJY n) (by kernel_rfl) (qO7 n) [] (fun _=>(by kernel_rfl)) fun _=>(by kernel_rfl)
def qRp:Sg:=⟨54,[aI,aI,aI],[],⟨aB,[],[]⟩⟩
def qHH (n:Nat) (x0 x1 x2:Int):Tr (Bool):=(.ask ((decide (x0≥x1))) (.done (decide (x0≤x2))) (.done false))
def qAu:Nat→Int→Int→Int→Option (Bool)
 |0,_,_,_=>none
 |n+1,x0,x1,x2=>(qHH n x0 x1 x2).run
theorem qDp:∀n,Ok (Rn n) qRp (qAu n)
 |0=>ok0 fun _=>rfl
 |n+1=>stO (T:=qHH n) (by kernel_rfl) [] [] (fun _=>(by kernel_rfl)) fun _=>(by kernel_rfl)
def qO8:Sg:=⟨139,[(.agg [qI,qI,qS])],[],⟨aB,[],[]⟩⟩
def qGM (n:Nat) (x0 x1:Int) (x2:BA):Tr (Bool):=(.ask ((x0==(0:Int))) (.ask ((x1==(0:Int))) (.done (x2.toList==(⟨#[]⟩:BA).toList)) (.done false)) (.ask ((x0==(1:Int))) (.opt (qAu n x1 (-1000000000000000:Int) (1000000000000000:Int)) fun r34=>(.ask (r34) (.done (x2.toList==(⟨#[]⟩:BA).toList)) (.done false))) (.ask ((x0==(2:Int))) (.ask ((x1==(0:Int))) (.opt (qCJ n x2) fun r35=>(.done r35)) (.done false)) (.ask ((x0==(3:Int))) (.opt (qAu n x1 (0:Int) (1:Int)) fun r36=>(.ask (r36) (.done (x2.toList==(⟨#[]⟩:BA).toList)) (.done false))) (.ask ((x0==(4:Int))) (.opt (qAu n x1 (1:Int) (5:Int)) fun r37=>(.ask (r37) (.done (x2.toList==(⟨#[]⟩:BA).toList)) (.done false))) (.done false))))))
def qZ:Nat→Int→Int→BA→Option (Bool)
 |0,_,_,_=>none
 |n+1,x0,x1,x2=>(qGM n x0 x1 x2).run
abbrev qO9 (n:Nat):List (Ent (Rn n)):= [en (qDp n),en (qFf n)]
theorem qEC:∀n,Ok (Rn n) qO8 (qZ n)
 |0=>ok0 fun _=>rfl
 |n+1=>stO (T:=qGM n) (by kernel_rfl) (qO9 n) [] (fun _=>(by kernel_rfl)) fun _=>(by kernel_rfl)
def qRE:Sg:=⟨51,[(.agg [qI,qI])],[],⟨aB,[],[]⟩⟩
def qIU (n:Nat) (x0 x1:Int):Tr (Bool):=(.opt (qAu n x0 (1:Int) (52:Int)) fun r39=>(.ask (r39) (.opt (qAu n x1 (1:Int) (99:Int)) fun r40=>(.done r40)) (.done false)))
def qAJ:Nat→Int→Int→Option (Bool)
 |0,_,_=>none
 |n+1,x0,x1=>(qIU n x0 x1).run
abbrev qRF (n:Nat):List (Ent (Rn n)):= [en (qDp n)]
theorem qD7:∀n,Ok (Rn n) qRE (qAJ n)
 |0=>ok0 fun _=>rfl
 |n+1=>stO (T:=qIU n) (by kernel_rfl) (qRF n) [] (fun _=>(by kernel_rfl)) fun _=>(by kernel_rfl)
def qQM:Sg:=⟨214,[(.agg [qI,qI,qI,qI])],[],⟨aB,[],[]⟩⟩
def qHc (n:Nat) (x0 x1 x2 x3:Int):Tr (Bool):=(.opt (qAJ n x0 x1) fun r42=>(.ask (r42) (.opt (qAJ n x2 x3) fun r43=>(.ask (r43) (.ask ((decide (x0≤x2))) (.done (decide (x1≤x3))) (.done false)) (.done false))) (.done false)))
def qFL:Nat→Int→Int→Int→Int→Option (Bool)
 |0,_,_,_,_=>none
 |n+1,x0,x1,x2,x3=>(qHc n x0 x1 x2 x3).run
abbrev qQN (n:Nat):List (Ent (Rn n)):= [en (qD7 n)]
theorem qPA:∀n,Ok (Rn n) qQM (qFL n)
 |0=>ok0 fun _=>rfl
 |n+1=>stO (T:=qHc n) (by kernel_rfl) (qQN n) [] (fun _=>(by kernel_rfl)) fun _=>(by kernel_rfl)
def qQO:Sg:=⟨215,[aI,aI],[],⟨aB,[],[]⟩⟩
def qHd (n:Nat) (x0 x1:Int):Tr (Bool):=(.ask ((x0==(1:Int))) (.ask ((decide (x1≥(1:Int)))) (.done (decide (x1≤(10:Int)))) (.done false)) (.ask ((x0==(2:Int))) (.ask ((decide (x1≥(1:Int)))) (.done (decide (x1≤(10:Int)))) (.done false)) (.ask ((x0==(3:Int))) (.ask ((decide (x1≥(1:Int)))) (.done (decide (x1≤(10:Int)))) (.done false)) (.ask ((x0==(4:Int))) (.ask ((decide (x1≥(1:Int)))) (.done (decide (x1≤(10:Int)))) (.done false)) (.ask ((x0==(6:Int))) (.ask ((decide (x1≥(1:Int)))) (.done (decide (x1≤(10:Int)))) (.done false)) (.ask ((x0==(7:Int))) (.ask ((decide (x1≥(1:Int)))) (.done (decide (x1≤(10:Int)))) (.done false)) (.ask ((x0==(5:Int))) (.ask ((x1==(2:Int))) (.done true) (.done (x1==(3:Int)))) (.ask ((x0==(8:Int))) (.done (x1==(1:Int))) (.ask ((x0==(9:Int))) (.done (x1==(1:Int))) (.ask ((x0==(10:Int))) (.done (x1==(1:Int))) (.done false)))))))))))
def qFM:Nat→Int→Int→Option (Bool)
 |0,_,_=>none
 |n+1,x0,x1=>(qHd n x0 x1).run
theorem qPB:∀n,Ok (Rn n) qQO (qFM n)
 |0=>ok0 fun _=>rfl
 |n+1=>stO (T:=qHd n) (by kernel_rfl) [] [] (fun _=>(by kernel_rfl)) fun _=>(by kernel_rfl)
def qNy:Sg:=⟨176,[(.agg [qI,qI,qI,qI,qS,qI,qI,qB,qB,qI,qI,qB,qB,qL])],[],⟨aB,[],[]⟩⟩
def qFg (n:Nat) (x0 x1 x2 x3:Int) (x4:BA) (x5 x6:Int) (x7 x8:Bool) (x9 x10:Int) (x11 x12:Bool) (x13:RW):Tr (Bool):=(.ask ((x0==(1:Int))) (.ask ((x1==(0:Int))) (.ask (((x5==(0:Int))&&((x6==(0:Int))&&((x7==false)&&((x8==false)&&true))))) (.ask (((x9==(0:Int))&&((x10==(0:Int))&&((x11==false)&&((x12==false)&&true))))) (.ask (((x13.length:Int)==(0:Int))) (.opt (qZ n x2 x3 x4) fun r38=>(.ask (r38) (.ask ((x2 !=(0:Int))) (.ask ((x2 !=(1:Int))) (.done true) (.done (decide (x3≥(0:Int))))) (.done false)) (.done false))) (.done false)) (.done false)) (.done false)) (.done false)) (.ask ((x0==(2:Int))) (.ask ((x1==(0:Int))) (.ask (((x2==(0:Int))&&((x3==(0:Int))&&((x4.toList==(⟨#[]⟩:BA).toList)&&true)))) (.ask (((x9==(0:Int))&&((x10==(0:Int))&&((x11==false)&&((x12==false)&&true))))) (.ask (((x13.length:Int)==(0:Int))) (.opt (qAJ n x5 x6) fun r41=>(.done r41)) (.done false)) (.done false)) (.done false)) (.done false)) (.ask ((x0==(3:Int))) (.ask ((x1==(0:Int))) (.ask (((x2==(0:Int))&&((x3==(0:Int))&&((x4.toList==(⟨#[]⟩:BA).toList)&&true)))) (.ask (((x13.length:Int)==(0:Int))) (.opt (qFL n x5 x6 x9 x10) fun r44=>(.done r44)) (.done false)) (.done false)) (.done false)) (.ask ((x0==(4:Int))) (.ask ((x1==(0:Int))) (.ask (((x2==(0:Int))&&((x3==(0:Int))&&((x4.toList==(⟨#[]⟩:BA).toList)&&true)))) (.ask (((x5==(0:Int))&&((x6==(0:Int))&&((x7==false)&&((x8==false)&&true))))) (.ask (((x9==(0:Int))&&((x10==(0:Int))&&((x11==false)&&((x12==false)&&true))))) (.done ((x13.length:Int)==(1:Int))) (.done false)) (.done false)) (.done false)) (.done false)) (.ask ((x0==(5:Int))) (.opt (qAu n x1 (1:Int) (11:Int)) fun r45=>(.ask (r45) (.ask (((x2==(0:Int))&&((x3==(0:Int))&&((x4.toList==(⟨#[]⟩:BA).toList)&&true)))) (.ask (((x5==(0:Int))&&((x6==(0:Int))&&((x7==false)&&((x8==false)&&true))))) (.ask (((x9==(0:Int))&&((x10==(0:Int))&&((x11==false)&&((x12==false)&&true))))) (.done ((x13.length:Int)==(2:Int))) (.done false)) (.done false)) (.done false)) (.done false))) (.ask ((x0==(6:Int))) (.opt (qFM n x1 (x13.length:Int)) fun r46=>(.ask (r46) (.ask (((x2==(0:Int))&&((x3==(0:Int))&&((x4.toList==(⟨#[]⟩:BA).toList)&&true)))) (.ask (((x5==(0:Int))&&((x6==(0:Int))&&((x7==false)&&((x8==false)&&true))))) (.done ((x9==(0:Int))&&((x10==(0:Int))&&((x11==false)&&((x12==false)&&true))))) (.done false)) (.done false)) (.done false))) (.done false)))))))
def qB3:Nat→Int→Int→Int→Int→BA→Int→Int→Bool→Bool→Int→Int→Bool→Bool→RW→Option (Bool)
 |0,_,_,_,_,_,_,_,_,_,_,_,_,_,_=>none
 |n+1,x0,x1,x2,x3,x4,x5,x6,x7,x8,x9,x10,x11,x12,x13=>(qFg n x0 x1 x2 x3 x4 x5 x6 x7 x8 x9 x10 x11 x12 x13).run
abbrev qNz (n:Nat):List (Ent (Rn n)):= [en (qEC n),en (qD7 n),en (qPA n),en (qDp n),en (qPB n)]
theorem qH4:∀n,Ok (Rn n) qNy (qB3 n)
 |0=>ok0 fun _=>rfl
 |n+1=>stO (T:=qFg n) (by kernel_rfl) (qNz n) [] (fun _=>(by kernel_rfl)) fun _=>(by kernel_rfl)
def qN0:Sg:=⟨175,[(.c (.ptr 0 0 0 0 0)),(.agg [qI,qI,qI,qI,qS,qI,qI,qB,qB,qI,qI,qB,qB,qL])],[[(0,⟨0,4,175,(.box [qS,qI,qB,(.own 0 1 1 0)])⟩),(1,⟨1,14,162,(.row [])⟩)]],⟨aI,[[(0,⟨0,4,175,(.box [qS,qI,qB,(.own 0 1 1 0)])⟩),(1,⟨1,14,162,(.row [])⟩)]],[]⟩⟩
def qIv (n:Nat) (x0 x1 x2 x3:Int) (x4:BA) (x5 x6:Int) (x7 x8:Bool) (x9 x10:Int) (x11 x12:Bool) (x13:RW) (x14:BA) (x15:Int) (x16:Bool) (x17:Nat) (x18:RW):Tr (Int×BA×Int×Bool×Nat×RW):=(.ask (decide (1=([[(.i .i64 x0),(.i .i64 x1),(.i .i64 x2),(.i .i64 x3),(.s x4),(.i .i64 x5),(.i .i64 x6),(.b x7),(.b x8),(.i .i64 x9),(.i .i64 x10),(.b x11),(.b x12),(.ls x13)]]:RW).length)) (.ask (decide (x17=x18.length∧0<14∧0<120∧(x17+([[(.i .i64 x0),(.i .i64 x1),(.i .i64 x2),(.i .i64 x3),(.s x4),(.i .i64 x5),(.i .i64 x6),(.b x7),(.b x8),(.i .i64 x9),(.i .i64 x10),(.b x11),(.b x12),(.ls x13)]]:RW).length)*120≤140737488355328∧([[(.i .i64 x0),(.i .i64 x1),(.i .i64 x2),(.i .i64 x3),(.s x4),(.i .i64 x5),(.i .i64 x6),(.b x7),(.b x8),(.i .i64 x9),(.i .i64 x10),(.b x11),(.b x12),(.ls x13)]]:RW).all (fun e=>e.length==14)=true)) (.ask ((decide ((((x17+1):Nat):Int)>(60:Int)))) (.done ((IntKind.i64.wrap ((((x17+1):Nat):Int)-(1:Int))),x14,x15,true,(x17+1),(x18++([[(.i .i64 x0),(.i .i64 x1),(.i .i64 x2),(.i .i64 x3),(.s x4),(.i .i64 x5),(.i .i64 x6),(.b x7),(.b x8),(.i .i64 x9),(.i .i64 x10),(.b x11),(.b x12),(.ls x13)]]:RW)))) (.opt (qB3 n x0 x1 x2 x3 x4 x5 x6 x7 x8 x9 x10 x11 x12 x13) fun r47=>(.ask ((!r47)) (.done ((IntKind.i64.wrap ((((x17+1):Nat):Int)-(1:Int))),x14,x15,true,(x17+1),(x18++([[(.i .i64 x0),(.i .i64 x1),(.i .i64 x2),(.i .i64 x3),(.s x4),(.i .i64 x5),(.i .i64 x6),(.b x7),(.b x8),(.i .i64 x9),(.i .i64 x10),(.b x11),(.b x12),(.ls x13)]]:RW)))) (.done ((IntKind.i64.wrap ((((x17+1):Nat):Int)-(1:Int))),x14,x15,x16,(x17+1),(x18++([[(.i .i64 x0),(.i .i64 x1),(.i .i64 x2),(.i .i64 x3),(.s x4),(.i .i64 x5),(.i .i64 x6),(.b x7),(.b x8),(.i .i64 x9),(.i .i64 x10),(.b x11),(.b x12),(.ls x13)]]:RW))))))) .fail) .fail)
def qr:Nat→Int→Int→Int→Int→BA→Int→Int→Bool→Bool→Int→Int→Bool→Bool→RW→BA→Int→Bool→Nat→RW→Option (Int×BA×Int×Bool×Nat×RW)
 |0,_,_,_,_,_,_,_,_,_,_,_,_,_,_,_,_,_,_,_=>none
 |n+1,x0,x1,x2,x3,x4,x5,x6,x7,x8,x9,x10,x11,x12,x13,x14,x15,x16,x17,x18=>(qIv n x0 x1 x2 x3 x4 x5 x6 x7 x8 x9 x10 x11 x12 x13 x14 x15 x16 x17 x18).run
abbrev qN1 (n:Nat):List (Ent (Rn n)):= [en (qH4 n)]
theorem qCz:∀n,Ok (Rn n) qN0 (qr n)
 |0=>ok0 fun _=>rfl
 |n+1=>stO (T:=qIv n) (by kernel_rfl) (qN1 n) [] (fun _=>(by kernel_rfl)) fun _=>(by kernel_rfl)
def qMl:Sg:=⟨209,[(.c (.ptr 0 0 0 0 0))],[[(0,⟨0,4,175,(.box [qS,qI,qB,(.own 0 1 1 0)])⟩),(1,⟨1,14,162,(.row [])⟩)]],⟨aI,[[(0,⟨0,4,175,(.box [qS,qI,qB,(.own 0 1 1 0)])⟩),(1,⟨1,14,162,(.row [])⟩)]],[]⟩⟩
def qDy (n:Nat) (v:BA×BA×Int×Bool×Nat×RW):Tr ((BA×BA×Int×Bool×Nat×RW)⊕((Int×BA×Int×Bool×Nat×RW)⊕(BA×Int×Bool×Nat×RW))):=(.ask ((decide (v.2.2.1<(v.2.1.size:Int)))) (.ask (decide (0≤v.2.2.1)) (.opt (v.2.1.toList[(v.2.2.1).toNat]?) fun c53=>(.ask (((c53.toNat:Int) !=(34:Int))) (.ask (decide (0≤v.2.2.1∧v.2.2.1≤(IntKind.i64.wrap (v.2.2.1+(1:Int)))∧(IntKind.i64.wrap (v.2.2.1+(1:Int)))≤v.2.1.size)) (.ask (decide (v.1.size+(v.2.1.extract (v.2.2.1).toNat ((IntKind.i64.wrap (v.2.2.1+(1:Int)))).toNat).size≤9223372036854775807)) (.done (.inl ((v.1++(v.2.1.extract (v.2.2.1).toNat ((IntKind.i64.wrap (v.2.2.1+(1:Int)))).toNat)),v.2.1,(IntKind.i64.wrap (v.2.2.1+(1:Int))),v.2.2.2.1,v.2.2.2.2.1,v.2.2.2.2.2))) .fail) .fail) (.ask ((decide ((IntKind.i64.wrap (v.2.2.1+(1:Int)))≥(v.2.1.size:Int)))) (.opt (qr n (1:Int) (0:Int) (2:Int) (0:Int) v.1 (0:Int) (0:Int) false false (0:Int) (0:Int) false false ([]:RW) v.2.1 (IntKind.i64.wrap (v.2.2.1+(1:Int))) v.2.2.2.1 v.2.2.2.2.1 v.2.2.2.2.2) fun r54=>(.done (.inr (.inl ((r54.1,r54.2.1,r54.2.2.1,r54.2.2.2.1,r54.2.2.2.2.1,r54.2.2.2.2.2)))))) (.ask (decide (0≤(IntKind.i64.wrap (v.2.2.1+(1:Int))))) (.opt (v.2.1.toList[((IntKind.i64.wrap (v.2.2.1+(1:Int)))).toNat]?) fun c55=>(.ask (((c55.toNat:Int) !=(34:Int))) (.opt (qr n (1:Int) (0:Int) (2:Int) (0:Int) v.1 (0:Int) (0:Int) false false (0:Int) (0:Int) false false ([]:RW) v.2.1 (IntKind.i64.wrap (v.2.2.1+(1:Int))) v.2.2.2.1 v.2.2.2.2.1 v.2.2.2.2.2) fun r56=>(.done (.inr (.inl ((r56.1,r56.2.1,r56.2.2.1,r56.2.2.2.1,r56.2.2.2.2.1,r56.2.2.2.2.2)))))) (.ask (decide (v.1.size+(⟨#[34]⟩:BA).size≤9223372036854775807)) (.done (.inl ((v.1++(⟨#[34]⟩:BA)),v.2.1,(IntKind.i64.wrap ((IntKind.i64.wrap (v.2.2.1+(1:Int)))+(1:Int))),v.2.2.2.1,v.2.2.2.2.1,v.2.2.2.2.2))) .fail))) .fail)))) .fail) (.done (.inr (.inr ((v.2.1,v.2.2.1,v.2.2.2.1,v.2.2.2.2.1,v.2.2.2.2.2))))))
def qH5 (n:Nat) (x0:BA) (x1:Int) (x2:Bool) (x3:Nat) (x4:RW):Tr (Int×BA×Int×Bool×Nat×RW):=(.opt (zD (qDy n) n ((⟨#[]⟩:BA),x0,x1,x2,x3,x4)) fun r57=>(.alt r57 (fun r58=>(.done (r58.1,r58.2.1,r58.2.2.1,r58.2.2.2.1,r58.2.2.2.2.1,r58.2.2.2.2.2))) (fun r59=>(.done ((0:Int),r59.1,r59.2.1,true,r59.2.2.2.1,r59.2.2.2.2)))))
def qE6:Nat→BA→Int→Bool→Nat→RW→Option (Int×BA×Int×Bool×Nat×RW)
 |0,_,_,_,_,_=>none
 |n+1,x0,x1,x2,x3,x4=>(qH5 n x0 x1 x2 x3 x4).run
abbrev qH6 (n:Nat):List (Ent (Rn n)):= [en (qCz n)]
def qKc (n:Nat):LEnt (KB 209) (Rn n) n:=lok (zM 209) 14 ⟨⟨[(0,(.c (.ptr 0 0 0 0 0))),(3,aS)],[],[[(0,⟨0,4,175,(.box [qS,qI,qB,(.own 0 1 1 0)])⟩),(1,⟨1,14,162,(.row [])⟩)]]⟩,[(.ret,⟨[(2,aI)],[],[[(0,⟨0,4,175,(.box [qS,qI,qB,(.own 0 1 1 0)])⟩),(1,⟨1,14,162,(.row [])⟩)]]⟩),(.exit 0,⟨[(0,(.c (.ptr 0 0 0 0 0)))],[],[[(0,⟨0,4,175,(.box [qS,qI,qB,(.own 0 1 1 0)])⟩),(1,⟨1,14,162,(.row [])⟩)]]⟩)]⟩ (qDy n) (qH6 n) [] fun _=>(by kernel_rfl)
theorem qLz:∀n,Ok (Rn n) qMl (qE6 n)
 |0=>ok0 fun _=>rfl
 |n+1=>stO (T:=qH5 n) (by kernel_rfl) (qH6 n) [qKc n] (fun _=>(by kernel_rfl)) fun _=>(by kernel_rfl)
def qQP:Sg:=⟨141,[aI],[],⟨aS,[],[]⟩⟩
def qHe (n:Nat) (x0:Int):Tr (BA):=(.ask (decide (6=([[(.s (⟨#[]⟩:BA))],[(.s (⟨#[35,68,73,86,33]⟩:BA))],[(.s (⟨#[35,84,89,80,69,33]⟩:BA))],[(.s (⟨#[35,82,69,70,33]⟩:BA))],[(.s (⟨#[35,79,86,69,82,33]⟩:BA))],[(.s (⟨#[35,67,89,67,76,69,33]⟩:BA))]]:RW).length∧0≤x0∧x0<((6:Nat):Int))) (.opt (([[(.s (⟨#[]⟩:BA))],[(.s (⟨#[35,68,73,86,33]⟩:BA))],[(.s (⟨#[35,84,89,80,69,33]⟩:BA))],[(.s (⟨#[35,82,69,70,33]⟩:BA))],[(.s (⟨#[35,79,86,69,82,33]⟩:BA))],[(.s (⟨#[35,67,89,67,76,69,33]⟩:BA))]]:RW)[(x0).toNat]?) fun e62=>(.opt (zZ e62 0) fun y63=>(.done y63))) .fail)
def qBP:Nat→Int→Option (BA)
 |0,_=>none
 |n+1,x0=>(qHe n x0).run
theorem qGN:∀n,Ok (Rn n) qQP (qBP n)
 |0=>ok0 fun _=>rfl
 |n+1=>stO (T:=qHe n) (by kernel_rfl) [] [] (fun _=>(by kernel_rfl)) fun _=>(by kernel_rfl)
def qPC:Sg:=⟨210,[aI],[],⟨(.agg [qI,qI,qS]),[],[]⟩⟩
def qGO (n:Nat) (x0:Int):Tr (Int×Int×BA):=(.done ((4:Int),x0,(⟨#[]⟩:BA)))
def qC0:Nat→Int→Option (Int×Int×BA)
 |0,_=>none
 |n+1,x0=>(qGO n x0).run
theorem qN2:∀n,Ok (Rn n) qPC (qC0 n)
 |0=>ok0 fun _=>rfl
 |n+1=>stO (T:=qGO n) (by kernel_rfl) [] [] (fun _=>(by kernel_rfl)) fun _=>(by kernel_rfl)
def qMm:Sg:=⟨211,[(.c (.ptr 0 0 0 0 0))],[[(0,⟨0,4,175,(.box [qS,qI,qB,(.own 0 1 1 0)])⟩),(1,⟨1,14,162,(.row [])⟩)]],⟨aS,[[(0,⟨0,4,175,(.box [qS,qI,qB,(.own 0 1 1 0)])⟩),(1,⟨1,14,162,(.row [])⟩)]],[]⟩⟩
def qB5 (n:Nat) (v:Int×BA×Int×Bool×Nat×RW):Tr ((Int×BA×Int×Bool×Nat×RW)⊕((Int×BA×Int×Bool×Nat×RW))):=(.ask ((decide (v.2.2.1<(v.2.1.size:Int)))) (.ask (decide (0≤v.2.2.1)) (.opt (v.2.1.toList[(v.2.2.1).toNat]?) fun c68=>(.ask ((decide ((c68.toNat:Int)≥(65:Int)))) (.ask (decide (0≤v.2.2.1)) (.opt (v.2.1.toList[(v.2.2.1).toNat]?) fun c69=>(.ask ((decide ((c69.toNat:Int)≤(90:Int)))) (.done (.inl (v.1,v.2.1,(IntKind.i64.wrap (v.2.2.1+(1:Int))),v.2.2.2.1,v.2.2.2.2.1,v.2.2.2.2.2))) (.ask (decide (0≤v.2.2.1)) (.opt (v.2.1.toList[(v.2.2.1).toNat]?) fun c70=>(.ask ((decide ((c70.toNat:Int)≥(48:Int)))) (.ask (decide (0≤v.2.2.1)) (.opt (v.2.1.toList[(v.2.2.1).toNat]?) fun c71=>(.ask ((decide ((c71.toNat:Int)≤(57:Int)))) (.done (.inl (v.1,v.2.1,(IntKind.i64.wrap (v.2.2.1+(1:Int))),v.2.2.2.1,v.2.2.2.2.1,v.2.2.2.2.2))) (.ask (decide (0≤v.2.2.1)) (.opt (v.2.1.toList[(v.2.2.1).toNat]?) fun c72=>(.ask (((c72.toNat:Int)==(36:Int))) (.done (.inl (v.1,v.2.1,(IntKind.i64.wrap (v.2.2.1+(1:Int))),v.2.2.2.1,v.2.2.2.2.1,v.2.2.2.2.2))) (.done (.inr ((v.1,v.2.1,v.2.2.1,v.2.2.2.1,v.2.2.2.2.1,v.2.2.2.2.2)))))) .fail))) .fail) (.ask (decide (0≤v.2.2.1)) (.opt (v.2.1.toList[(v.2.2.1).toNat]?) fun c73=>(.ask (((c73.toNat:Int)==(36:Int))) (.done (.inl (v.1,v.2.1,(IntKind.i64.wrap (v.2.2.1+(1:Int))),v.2.2.2.1,v.2.2.2.2.1,v.2.2.2.2.2))) (.done (.inr ((v.1,v.2.1,v.2.2.1,v.2.2.2.1,v.2.2.2.2.1,v.2.2.2.2.2)))))) .fail))) .fail))) .fail) (.ask (decide (0≤v.2.2.1)) (.opt (v.2.1.toList[(v.2.2.1).toNat]?) fun c74=>(.ask ((decide ((c74.toNat:Int)≥(48:Int)))) (.ask (decide (0≤v.2.2.1)) (.opt (v.2.1.toList[(v.2.2.1).toNat]?) fun c75=>(.ask ((decide ((c75.toNat:Int)≤(57:Int)))) (.done (.inl (v.1,v.2.1,(IntKind.i64.wrap (v.2.2.1+(1:Int))),v.2.2.2.1,v.2.2.2.2.1,v.2.2.2.2.2))) (.ask (decide (0≤v.2.2.1)) (.opt (v.2.1.toList[(v.2.2.1).toNat]?) fun c76=>(.ask (((c76.toNat:Int)==(36:Int))) (.done (.inl (v.1,v.2.1,(IntKind.i64.wrap (v.2.2.1+(1:Int))),v.2.2.2.1,v.2.2.2.2.1,v.2.2.2.2.2))) (.done (.inr ((v.1,v.2.1,v.2.2.1,v.2.2.2.1,v.2.2.2.2.1,v.2.2.2.2.2)))))) .fail))) .fail) (.ask (decide (0≤v.2.2.1)) (.opt (v.2.1.toList[(v.2.2.1).toNat]?) fun c77=>(.ask (((c77.toNat:Int)==(36:Int))) (.done (.inl (v.1,v.2.1,(IntKind.i64.wrap (v.2.2.1+(1:Int))),v.2.2.2.1,v.2.2.2.2.1,v.2.2.2.2.2))) (.done (.inr ((v.1,v.2.1,v.2.2.1,v.2.2.2.1,v.2.2.2.2.1,v.2.2.2.2.2)))))) .fail))) .fail))) .fail) (.done (.inr ((v.1,v.2.1,v.2.2.1,v.2.2.2.1,v.2.2.2.2.1,v.2.2.2.2.2)))))
def qH7 (n:Nat) (x0:BA) (x1:Int) (x2:Bool) (x3:Nat) (x4:RW):Tr (BA×BA×Int×Bool×Nat×RW):=(.opt (zD (qB5 n) n (x1,x0,x1,x2,x3,x4)) fun r78=>(.ask (decide (0≤r78.1∧r78.1≤r78.2.2.1∧r78.2.2.1≤r78.2.1.size)) (.done ((r78.2.1.extract (r78.1).toNat (r78.2.2.1).toNat),r78.2.1,r78.2.2.1,r78.2.2.2.1,r78.2.2.2.2.1,r78.2.2.2.2.2)) .fail))
def qC1:Nat→BA→Int→Bool→Nat→RW→Option (BA×BA×Int×Bool×Nat×RW)
 |0,_,_,_,_,_=>none
 |n+1,x0,x1,x2,x3,x4=>(qH7 n x0 x1 x2 x3 x4).run
def qKd (n:Nat):LEnt (KB 211) (Rn n) n:=lok (zM 211) 14 ⟨⟨[(0,(.c (.ptr 0 0 0 0 0))),(3,aI)],[],[[(0,⟨0,4,175,(.box [qS,qI,qB,(.own 0 1 1 0)])⟩),(1,⟨1,14,162,(.row [])⟩)]]⟩,[(.exit 0,⟨[(0,(.c (.ptr 0 0 0 0 0))),(3,aI)],[],[[(0,⟨0,4,175,(.box [qS,qI,qB,(.own 0 1 1 0)])⟩),(1,⟨1,14,162,(.row [])⟩)]]⟩)]⟩ (qB5 n) [] [] fun _=>(by kernel_rfl)
theorem qHI:∀n,Ok (Rn n) qMm (qC1 n)
 |0=>ok0 fun _=>rfl
 |n+1=>stO (T:=qH7 n) (by kernel_rfl) [] [qKd n] (fun _=>(by kernel_rfl)) fun _=>(by kernel_rfl)
def qRq:Sg:=⟨182,[aI],[],⟨aS,[],[]⟩⟩
def qJZ (n:Nat) (x0:Int):Tr (BA):=(.ask (decide (11=([[(.s (⟨#[]⟩:BA))],[(.s (⟨#[83,85,77]⟩:BA))],[(.s (⟨#[77,73,78]⟩:BA))],[(.s (⟨#[77,65,88]⟩:BA))],[(.s (⟨#[67,79,85,78,84]⟩:BA))],[(.s (⟨#[73,70]⟩:BA))],[(.s (⟨#[65,78,68]⟩:BA))],[(.s (⟨#[79,82]⟩:BA))],[(.s (⟨#[78,79,84]⟩:BA))],[(.s (⟨#[65,66,83]⟩:BA))],[(.s (⟨#[76,69,78]⟩:BA))]]:RW).length∧0≤x0∧x0<((11:Nat):Int))) (.opt (([[(.s (⟨#[]⟩:BA))],[(.s (⟨#[83,85,77]⟩:BA))],[(.s (⟨#[77,73,78]⟩:BA))],[(.s (⟨#[77,65,88]⟩:BA))],[(.s (⟨#[67,79,85,78,84]⟩:BA))],[(.s (⟨#[73,70]⟩:BA))],[(.s (⟨#[65,78,68]⟩:BA))],[(.s (⟨#[79,82]⟩:BA))],[(.s (⟨#[78,79,84]⟩:BA))],[(.s (⟨#[65,66,83]⟩:BA))],[(.s (⟨#[76,69,78]⟩:BA))]]:RW)[(x0).toNat]?) fun e80=>(.opt (zZ e80 0) fun y81=>(.done y81))) .fail)
def qCb:Nat→Int→Option (BA)
 |0,_=>none
 |n+1,x0=>(qJZ n x0).run
theorem qL0:∀n,Ok (Rn n) qRq (qCb n)
 |0=>ok0 fun _=>rfl
 |n+1=>stO (T:=qJZ n) (by kernel_rfl) [] [] (fun _=>(by kernel_rfl)) fun _=>(by kernel_rfl)
def qPD:Sg:=⟨99,[aI],[],⟨aS,[],[]⟩⟩
def qBS (n:Nat) (v:Int×BA):Tr ((Int×BA)⊕((BA))):=(.ask ((decide (v.1>(0:Int)))) (.ask (decide (1=([[(.i .u8 (IntKind.u8.wrap (IntKind.i64.wrap ((65:Int)+(Int.tmod (IntKind.i64.wrap (v.1-(1:Int))) (26:Int))))))]]:RW).length)) (.opt (bytesOf ([[(.i .u8 (IntKind.u8.wrap (IntKind.i64.wrap ((65:Int)+(Int.tmod (IntKind.i64.wrap (v.1-(1:Int))) (26:Int))))))]]:RW)) fun l91=>(.ask (decide ((⟨l91.toArray⟩:BA).size+v.2.size≤9223372036854775807)) (.done (.inl ((IntKind.i64.wrap (Int.tdiv (IntKind.i64.wrap (v.1-(1:Int))) (26:Int))),((⟨l91.toArray⟩:BA)++v.2)))) .fail)) .fail) (.done (.inr (v.2))))
def qEZ (n:Nat) (x0:Int):Tr (BA):=(.opt (qAu n x0 (1:Int) (52:Int)) fun r90=>(.ask ((!r90)) (.done (⟨#[]⟩:BA)) (.opt (zD (qBS n) n (x0,(⟨#[]⟩:BA))) fun r92=>(.done r92))))
def qC2:Nat→Int→Option (BA)
 |0,_=>none
 |n+1,x0=>(qEZ n x0).run
abbrev qJa (n:Nat):List (Ent (Rn n)):= [en (qDp n)]
def qL1 (n:Nat):LEnt (KB 99) (Rn n) n:=lok (zM 99) 30 ⟨⟨[(0,aI),(3,aS)],[],[]⟩,[(.exit 0,⟨[(3,aS)],[],[]⟩)]⟩ (qBS n) (qJa n) [] fun _=>(by kernel_rfl)
theorem qIw:∀n,Ok (Rn n) qPD (qC2 n)
 |0=>ok0 fun _=>rfl
 |n+1=>stO (T:=qEZ n) (by kernel_rfl) (qJa n) [qL1 n] (fun _=>(by kernel_rfl)) fun _=>(by kernel_rfl)
def qPE:Sg:=⟨233,[aS],[],⟨aI,[],[]⟩⟩
def qCc (n:Nat) (v:BA×Int):Tr ((BA×Int)⊕((Int)⊕(Unit))):=(.ask ((decide (v.2≤(52:Int)))) (.opt (qC2 n v.2) fun r90=>(.ask ((r90.toList==v.1.toList)) (.done (.inr (.inl (v.2)))) (.done (.inl (v.1,(IntKind.i64.wrap (v.2+(1:Int)))))))) (.done (.inr (.inr (())))))
def qGP (n:Nat) (x0:BA):Tr (Int):=(.opt (zD (qCc n) n (x0,(1:Int))) fun r91=>(.alt r91 (fun r92=>(.done r92)) (fun r93=>(.done (0:Int)))))
def qCK:Nat→BA→Option (Int)
 |0,_=>none
 |n+1,x0=>(qGP n x0).run
abbrev qJb (n:Nat):List (Ent (Rn n)):= [en (qIw n)]
def qL2 (n:Nat):LEnt (KB 233) (Rn n) n:=lok (zM 233) 13 ⟨⟨[(0,aS),(3,aI)],[],[]⟩,[(.ret,⟨[(2,aI)],[],[]⟩),(.exit 0,⟨[],[],[]⟩)]⟩ (qCc n) (qJb n) [] fun _=>(by kernel_rfl)
theorem qN3:∀n,Ok (Rn n) qPE (qCK n)
 |0=>ok0 fun _=>rfl
 |n+1=>stO (T:=qGP n) (by kernel_rfl) (qJb n) [qL2 n] (fun _=>(by kernel_rfl)) fun _=>(by kernel_rfl)
def qRG:Sg:=⟨138,[aS,aI],[],⟨(.tup [(false,[qI]),(false,[qB])]),[],[]⟩⟩
def qBZ (n:Nat) (v:BA×Int×Int):Tr ((BA×Int×Int)⊕((Int×Bool)⊕(Int))):=(.ask ((decide (v.2.2<(v.1.size:Int)))) (.ask (decide (0≤v.2.2)) (.opt (v.1.toList[(v.2.2).toNat]?) fun c97=>(.ask ((decide ((c97.toNat:Int)<(48:Int)))) (.done (.inr (.inl (((0:Int),false))))) (.ask (decide (0≤v.2.2)) (.opt (v.1.toList[(v.2.2).toNat]?) fun c98=>(.ask ((decide ((c98.toNat:Int)>(57:Int)))) (.done (.inr (.inl (((0:Int),false))))) (.ask (decide (0≤v.2.2)) (.opt (v.1.toList[(v.2.2).toNat]?) fun c99=>(.done (.inl (v.1,(IntKind.i64.wrap ((IntKind.i64.wrap (v.2.1*(10:Int)))+(IntKind.i64.wrap (IntKind.u8.wrap ((c99.toNat:Int)-(48:Int)))))),(IntKind.i64.wrap (v.2.2+(1:Int))))))) .fail))) .fail))) .fail) (.done (.inr (.inr (v.2.1)))))
def qEa (n:Nat) (x0:BA) (x1:Int):Tr (Int×Bool):=(.ask ((decide ((x0.size:Int)<(1:Int)))) (.done ((0:Int),false)) (.ask ((decide ((x0.size:Int)>x1))) (.done ((0:Int),false)) (.ask (decide (0≤(0:Int))) (.opt (x0.toList[((0:Int)).toNat]?) fun c96=>(.ask (((c96.toNat:Int)==(48:Int))) (.ask ((decide ((x0.size:Int)>(1:Int)))) (.done ((0:Int),false)) (.opt (zD (qBZ n) n (x0,(0:Int),(0:Int))) fun r100=>(.alt r100 (fun r101=>(.done (r101.1,r101.2))) (fun r102=>(.done (r102,true)))))) (.opt (zD (qBZ n) n (x0,(0:Int),(0:Int))) fun r103=>(.alt r103 (fun r104=>(.done (r104.1,r104.2))) (fun r105=>(.done (r105,true))))))) .fail)))
def qu:Nat→BA→Int→Option (Int×Bool)
 |0,_,_=>none
 |n+1,x0,x1=>(qEa n x0 x1).run
def qN4 (n:Nat):LEnt (KB 138) (Rn n) n:=lok (zM 138) 61 ⟨⟨[(0,aS),(6,aI),(7,aI)],[],[]⟩,[(.ret,⟨[(4,aI),(5,aB)],[],[]⟩),(.exit 0,⟨[(6,aI)],[],[]⟩)]⟩ (qBZ n) [] [] fun _=>(by kernel_rfl)
theorem qHf:∀n,Ok (Rn n) qRG (qu n)
 |0=>ok0 fun _=>rfl
 |n+1=>stO (T:=qEa n) (by kernel_rfl) [] [qN4 n] (fun _=>(by kernel_rfl)) fun _=>(by kernel_rfl)
def qMn:Sg:=⟨213,[aS],[],⟨(.tup [(true,[qI,qI,qB,qB]),(false,[qB])]),[],[]⟩⟩
def qAL (n:Nat) (v:BA×Int×Int×Int×Bool×Bool×Int×Int×Bool×Bool):Tr ((BA×Int×Int×Int×Bool×Bool×Int×Int×Bool×Bool)⊕((BA×Int×Int×Int×Bool×Bool×Int×Int×Bool×Bool))):=(.ask ((decide (v.2.1<(v.1.size:Int)))) (.ask (decide (0≤v.2.1)) (.opt (v.1.toList[(v.2.1).toNat]?) fun c87=>(.ask ((decide ((c87.toNat:Int)≥(65:Int)))) (.ask (decide (0≤v.2.1)) (.opt (v.1.toList[(v.2.1).toNat]?) fun c88=>(.ask ((decide ((c88.toNat:Int)≤(90:Int)))) (.done (.inl (v.1,(IntKind.i64.wrap (v.2.1+(1:Int))),v.2.2.1,v.2.2.2.1,v.2.2.2.2.1,v.2.2.2.2.2.1,v.2.2.2.2.2.2.1,v.2.2.2.2.2.2.2.1,v.2.2.2.2.2.2.2.2.1,v.2.2.2.2.2.2.2.2.2))) (.done (.inr ((v.1,v.2.1,v.2.2.1,v.2.2.2.1,v.2.2.2.2.1,v.2.2.2.2.2.1,v.2.2.2.2.2.2.1,v.2.2.2.2.2.2.2.1,v.2.2.2.2.2.2.2.2.1,v.2.2.2.2.2.2.2.2.2)))))) .fail) (.done (.inr ((v.1,v.2.1,v.2.2.1,v.2.2.2.1,v.2.2.2.2.1,v.2.2.2.2.2.1,v.2.2.2.2.2.2.1,v.2.2.2.2.2.2.2.1,v.2.2.2.2.2.2.2.2.1,v.2.2.2.2.2.2.2.2.2)))))) .fail) (.done (.inr ((v.1,v.2.1,v.2.2.1,v.2.2.2.1,v.2.2.2.2.1,v.2.2.2.2.2.1,v.2.2.2.2.2.2.1,v.2.2.2.2.2.2.2.1,v.2.2.2.2.2.2.2.2.1,v.2.2.2.2.2.2.2.2.2)))))
def qCH (n:Nat) (x0:BA):Tr (Int×Int×Bool×Bool×Bool):=(.ask ((decide ((x0.size:Int)>(0:Int)))) (.ask (decide (0≤(0:Int))) (.opt (x0.toList[((0:Int)).toNat]?) fun c86=>(.ask (((c86.toNat:Int)==(36:Int))) (.ask (decide (0≤(1:Int)∧(1:Int)≤(x0.size:Int)∧(x0.size:Int)≤x0.size)) (.opt (zD (qAL n) n ((x0.extract ((1:Int)).toNat ((x0.size:Int)).toNat),(0:Int),(0:Int),(0:Int),false,false,(0:Int),(0:Int),true,false)) fun r89=>(.ask (decide (0≤(0:Int)∧(0:Int)≤r89.2.1∧r89.2.1≤r89.1.size)) (.opt (qCK n (r89.1.extract ((0:Int)).toNat (r89.2.1).toNat)) fun r94=>(.ask (decide (0≤r89.2.1∧r89.2.1≤(r89.1.size:Int)∧(r89.1.size:Int)≤r89.1.size)) (.ask ((decide (((r89.1.extract (r89.2.1).toNat ((r89.1.size:Int)).toNat).size:Int)>(0:Int)))) (.ask (decide (0≤(0:Int))) (.opt ((r89.1.extract (r89.2.1).toNat ((r89.1.size:Int)).toNat).toList[((0:Int)).toNat]?) fun c95=>(.ask (((c95.toNat:Int)==(36:Int))) (.ask (decide (0≤(1:Int)∧(1:Int)≤((r89.1.extract (r89.2.1).toNat ((r89.1.size:Int)).toNat).size:Int)∧((r89.1.extract (r89.2.1).toNat ((r89.1.size:Int)).toNat).size:Int)≤(r89.1.extract (r89.2.1).toNat ((r89.1.size:Int)).toNat).size)) (.opt (qu n ((r89.1.extract (r89.2.1).toNat ((r89.1.size:Int)).toNat).extract ((1:Int)).toNat (((r89.1.extract (r89.2.1).toNat ((r89.1.size:Int)).toNat).size:Int)).toNat) (2:Int)) fun r106=>(.ask ((!r106.2)) (.done ((0:Int),(0:Int),false,false,false)) (.opt (qAJ n r94 r106.1) fun r107=>(.ask ((!r107)) (.done ((0:Int),(0:Int),false,false,false)) (.done (r94,r106.1,r89.2.2.2.2.2.2.2.2.1,true,true)))))) .fail) (.opt (qu n (r89.1.extract (r89.2.1).toNat ((r89.1.size:Int)).toNat) (2:Int)) fun r108=>(.ask ((!r108.2)) (.done ((0:Int),(0:Int),false,false,false)) (.opt (qAJ n r94 r108.1) fun r109=>(.ask ((!r109)) (.done ((0:Int),(0:Int),false,false,false)) (.done (r94,r108.1,r89.2.2.2.2.2.2.2.2.1,r89.2.2.2.2.2.2.2.2.2,true)))))))) .fail) (.opt (qu n (r89.1.extract (r89.2.1).toNat ((r89.1.size:Int)).toNat) (2:Int)) fun r110=>(.ask ((!r110.2)) (.done ((0:Int),(0:Int),false,false,false)) (.opt (qAJ n r94 r110.1) fun r111=>(.ask ((!r111)) (.done ((0:Int),(0:Int),false,false,false)) (.done (r94,r110.1,r89.2.2.2.2.2.2.2.2.1,r89.2.2.2.2.2.2.2.2.2,true))))))) .fail)) .fail)) .fail) (.opt (zD (qAL n) n (x0,(0:Int),(0:Int),(0:Int),false,false,(0:Int),(0:Int),false,false)) fun r112=>(.ask (decide (0≤(0:Int)∧(0:Int)≤r112.2.1∧r112.2.1≤r112.1.size)) (.opt (qCK n (r112.1.extract ((0:Int)).toNat (r112.2.1).toNat)) fun r113=>(.ask (decide (0≤r112.2.1∧r112.2.1≤(r112.1.size:Int)∧(r112.1.size:Int)≤r112.1.size)) (.ask ((decide (((r112.1.extract (r112.2.1).toNat ((r112.1.size:Int)).toNat).size:Int)>(0:Int)))) (.ask (decide (0≤(0:Int))) (.opt ((r112.1.extract (r112.2.1).toNat ((r112.1.size:Int)).toNat).toList[((0:Int)).toNat]?) fun c114=>(.ask (((c114.toNat:Int)==(36:Int))) (.ask (decide (0≤(1:Int)∧(1:Int)≤((r112.1.extract (r112.2.1).toNat ((r112.1.size:Int)).toNat).size:Int)∧((r112.1.extract (r112.2.1).toNat ((r112.1.size:Int)).toNat).size:Int)≤(r112.1.extract (r112.2.1).toNat ((r112.1.size:Int)).toNat).size)) (.opt (qu n ((r112.1.extract (r112.2.1).toNat ((r112.1.size:Int)).toNat).extract ((1:Int)).toNat (((r112.1.extract (r112.2.1).toNat ((r112.1.size:Int)).toNat).size:Int)).toNat) (2:Int)) fun r115=>(.ask ((!r115.2)) (.done ((0:Int),(0:Int),false,false,false)) (.opt (qAJ n r113 r115.1) fun r116=>(.ask ((!r116)) (.done ((0:Int),(0:Int),false,false,false)) (.done (r113,r115.1,r112.2.2.2.2.2.2.2.2.1,true,true)))))) .fail) (.opt (qu n (r112.1.extract (r112.2.1).toNat ((r112.1.size:Int)).toNat) (2:Int)) fun r117=>(.ask ((!r117.2)) (.done ((0:Int),(0:Int),false,false,false)) (.opt (qAJ n r113 r117.1) fun r118=>(.ask ((!r118)) (.done ((0:Int),(0:Int),false,false,false)) (.done (r113,r117.1,r112.2.2.2.2.2.2.2.2.1,r112.2.2.2.2.2.2.2.2.2,true)))))))) .fail) (.opt (qu n (r112.1.extract (r112.2.1).toNat ((r112.1.size:Int)).toNat) (2:Int)) fun r119=>(.ask ((!r119.2)) (.done ((0:Int),(0:Int),false,false,false)) (.opt (qAJ n r113 r119.1) fun r120=>(.ask ((!r120)) (.done ((0:Int),(0:Int),false,false,false)) (.done (r113,r119.1,r112.2.2.2.2.2.2.2.2.1,r112.2.2.2.2.2.2.2.2.2,true))))))) .fail)) .fail)))) .fail) (.opt (zD (qAL n) n (x0,(0:Int),(0:Int),(0:Int),false,false,(0:Int),(0:Int),false,false)) fun r121=>(.ask (decide (0≤(0:Int)∧(0:Int)≤r121.2.1∧r121.2.1≤r121.1.size)) (.opt (qCK n (r121.1.extract ((0:Int)).toNat (r121.2.1).toNat)) fun r122=>(.ask (decide (0≤r121.2.1∧r121.2.1≤(r121.1.size:Int)∧(r121.1.size:Int)≤r121.1.size)) (.ask ((decide (((r121.1.extract (r121.2.1).toNat ((r121.1.size:Int)).toNat).size:Int)>(0:Int)))) (.ask (decide (0≤(0:Int))) (.opt ((r121.1.extract (r121.2.1).toNat ((r121.1.size:Int)).toNat).toList[((0:Int)).toNat]?) fun c123=>(.ask (((c123.toNat:Int)==(36:Int))) (.ask (decide (0≤(1:Int)∧(1:Int)≤((r121.1.extract (r121.2.1).toNat ((r121.1.size:Int)).toNat).size:Int)∧((r121.1.extract (r121.2.1).toNat ((r121.1.size:Int)).toNat).size:Int)≤(r121.1.extract (r121.2.1).toNat ((r121.1.size:Int)).toNat).size)) (.opt (qu n ((r121.1.extract (r121.2.1).toNat ((r121.1.size:Int)).toNat).extract ((1:Int)).toNat (((r121.1.extract (r121.2.1).toNat ((r121.1.size:Int)).toNat).size:Int)).toNat) (2:Int)) fun r124=>(.ask ((!r124.2)) (.done ((0:Int),(0:Int),false,false,false)) (.opt (qAJ n r122 r124.1) fun r125=>(.ask ((!r125)) (.done ((0:Int),(0:Int),false,false,false)) (.done (r122,r124.1,r121.2.2.2.2.2.2.2.2.1,true,true)))))) .fail) (.opt (qu n (r121.1.extract (r121.2.1).toNat ((r121.1.size:Int)).toNat) (2:Int)) fun r126=>(.ask ((!r126.2)) (.done ((0:Int),(0:Int),false,false,false)) (.opt (qAJ n r122 r126.1) fun r127=>(.ask ((!r127)) (.done ((0:Int),(0:Int),false,false,false)) (.done (r122,r126.1,r121.2.2.2.2.2.2.2.2.1,r121.2.2.2.2.2.2.2.2.2,true)))))))) .fail) (.opt (qu n (r121.1.extract (r121.2.1).toNat ((r121.1.size:Int)).toNat) (2:Int)) fun r128=>(.ask ((!r128.2)) (.done ((0:Int),(0:Int),false,false,false)) (.opt (qAJ n r122 r128.1) fun r129=>(.ask ((!r129)) (.done ((0:Int),(0:Int),false,false,false)) (.done (r122,r128.1,r121.2.2.2.2.2.2.2.2.1,r121.2.2.2.2.2.2.2.2.2,true))))))) .fail)) .fail)))
def qAm:Nat→BA→Option (Int×Int×Bool×Bool×Bool)
 |0,_=>none
 |n+1,x0=>(qCH n x0).run
abbrev qH8 (n:Nat):List (Ent (Rn n)):= [en (qN3 n),en (qHf n),en (qD7 n)]
def qKe (n:Nat):LEnt (KB 213) (Rn n) n:=lok (zM 213) 62 ⟨⟨[(0,aS),(2,(.c (.ptr 0 128 0 0 0))),(4,(.c (.ptr 0 256 0 0 0))),(5,aI)],[(128,⟨0,4,90,(.box [qI,qI,qB,qB])⟩),(256,⟨0,4,90,(.box [qI,qI,qB,qB])⟩)],[]⟩,[(.exit 0,⟨[(0,aS),(2,(.c (.ptr 0 128 0 0 0))),(4,(.c (.ptr 0 256 0 0 0))),(5,aI)],[(128,⟨0,4,90,(.box [qI,qI,qB,qB])⟩),(256,⟨0,4,90,(.box [qI,qI,qB,qB])⟩)],[]⟩)]⟩ (qAL n) (qH8 n) [] fun _=>(by kernel_rfl)
theorem qHJ:∀n,Ok (Rn n) qMn (qAm n)
 |0=>ok0 fun _=>rfl
 |n+1=>stO (T:=qCH n) (by kernel_rfl) (qH8 n) [qKe n] (fun _=>(by kernel_rfl)) fun _=>(by kernel_rfl)
def qMo:Sg:=⟨97,[aS],[],⟨(.tup [(true,[qI,qI,qS]),(false,[qB])]),[],[]⟩⟩
def qBT (n:Nat) (v:BA×Int×Int×Int×BA×Int×Int×BA):Tr ((BA×Int×Int×Int×BA×Int×Int×BA)⊕((Int×Int×BA×Int×Int×BA))):=(.ask ((decide (v.2.1≤(5:Int)))) (.opt (qBP n v.2.1) fun r93=>(.ask ((r93.toList==v.1.toList)) (.done (.inl (v.1,(IntKind.i64.wrap (v.2.1+(1:Int))),v.2.2.1,v.2.2.2.1,v.2.2.2.2.1,v.2.2.2.2.2.1,v.2.1,v.2.2.2.2.2.2.2))) (.done (.inl (v.1,(IntKind.i64.wrap (v.2.1+(1:Int))),v.2.2.1,v.2.2.2.1,v.2.2.2.2.1,v.2.2.2.2.2.1,v.2.2.2.2.2.2.1,v.2.2.2.2.2.2.2))))) (.done (.inr ((v.2.2.1,v.2.2.2.1,v.2.2.2.2.1,v.2.2.2.2.2.1,v.2.2.2.2.2.2.1,v.2.2.2.2.2.2.2)))))
def qA2 (n:Nat) (x0:BA):Tr (Int×Int×BA×Bool):=(.ask ((x0.toList==(⟨#[]⟩:BA).toList)) (.done ((0:Int),(0:Int),(⟨#[]⟩:BA),true)) (.ask (decide (0≤(0:Int))) (.opt (x0.toList[((0:Int)).toNat]?) fun c86=>(.ask (((c86.toNat:Int)==(39:Int))) (.ask (decide (0≤(1:Int)∧(1:Int)≤(x0.size:Int)∧(x0.size:Int)≤x0.size)) (.opt (qZ n (2:Int) (0:Int) (x0.extract ((1:Int)).toNat ((x0.size:Int)).toNat)) fun r87=>(.ask ((!r87)) (.done ((0:Int),(0:Int),(⟨#[]⟩:BA),false)) (.done ((2:Int),(0:Int),(x0.extract ((1:Int)).toNat ((x0.size:Int)).toNat),true)))) .fail) (.ask ((x0.toList==(⟨#[84,82,85,69]⟩:BA).toList)) (.ask ((x0.toList==(⟨#[84,82,85,69]⟩:BA).toList)) (.opt (qZ n (3:Int) (1:Int) (⟨#[]⟩:BA)) fun r88=>(.ask ((!r88)) (.done ((0:Int),(0:Int),(⟨#[]⟩:BA),false)) (.done ((3:Int),(1:Int),(⟨#[]⟩:BA),true)))) (.opt (qZ n (3:Int) (0:Int) (⟨#[]⟩:BA)) fun r89=>(.ask ((!r89)) (.done ((0:Int),(0:Int),(⟨#[]⟩:BA),false)) (.done ((3:Int),(0:Int),(⟨#[]⟩:BA),true))))) (.ask ((x0.toList==(⟨#[70,65,76,83,69]⟩:BA).toList)) (.ask ((x0.toList==(⟨#[84,82,85,69]⟩:BA).toList)) (.opt (qZ n (3:Int) (1:Int) (⟨#[]⟩:BA)) fun r90=>(.ask ((!r90)) (.done ((0:Int),(0:Int),(⟨#[]⟩:BA),false)) (.done ((3:Int),(1:Int),(⟨#[]⟩:BA),true)))) (.opt (qZ n (3:Int) (0:Int) (⟨#[]⟩:BA)) fun r91=>(.ask ((!r91)) (.done ((0:Int),(0:Int),(⟨#[]⟩:BA),false)) (.done ((3:Int),(0:Int),(⟨#[]⟩:BA),true))))) (.ask (decide (0≤(0:Int))) (.opt (x0.toList[((0:Int)).toNat]?) fun c92=>(.ask (((c92.toNat:Int)==(35:Int))) (.opt (zD (qBT n) n (x0,(1:Int),(0:Int),(0:Int),(⟨#[]⟩:BA),(4:Int),(0:Int),(⟨#[]⟩:BA))) fun r94=>(.opt (qZ n r94.2.2.2.1 r94.2.2.2.2.1 r94.2.2.2.2.2) fun r95=>(.ask ((!r95)) (.done ((0:Int),(0:Int),(⟨#[]⟩:BA),false)) (.done (r94.2.2.2.1,r94.2.2.2.2.1,r94.2.2.2.2.2,true))))) (.ask (decide (0≤(0:Int))) (.opt (x0.toList[((0:Int)).toNat]?) fun c96=>(.ask (((c96.toNat:Int)==(45:Int))) (.ask (decide (0≤(1:Int)∧(1:Int)≤(x0.size:Int)∧(x0.size:Int)≤x0.size)) (.opt (qu n (x0.extract ((1:Int)).toNat ((x0.size:Int)).toNat) (16:Int)) fun r97=>(.ask ((!r97.2)) (.done ((0:Int),(0:Int),(⟨#[]⟩:BA),false)) (.ask (((c96.toNat:Int)==(45:Int))) (.ask ((r97.1==(0:Int))) (.done ((0:Int),(0:Int),(⟨#[]⟩:BA),false)) (.ask (((c96.toNat:Int)==(45:Int))) (.opt (qZ n (1:Int) (IntKind.i64.wrap (0-r97.1)) (⟨#[]⟩:BA)) fun r98=>(.ask ((!r98)) (.done ((0:Int),(0:Int),(⟨#[]⟩:BA),false)) (.done ((1:Int),(IntKind.i64.wrap (0-r97.1)),(⟨#[]⟩:BA),true)))) (.opt (qZ n (1:Int) r97.1 (⟨#[]⟩:BA)) fun r99=>(.ask ((!r99)) (.done ((0:Int),(0:Int),(⟨#[]⟩:BA),false)) (.done ((1:Int),r97.1,(⟨#[]⟩:BA),true)))))) (.ask (((c96.toNat:Int)==(45:Int))) (.opt (qZ n (1:Int) (IntKind.i64.wrap (0-r97.1)) (⟨#[]⟩:BA)) fun r100=>(.ask ((!r100)) (.done ((0:Int),(0:Int),(⟨#[]⟩:BA),false)) (.done ((1:Int),(IntKind.i64.wrap (0-r97.1)),(⟨#[]⟩:BA),true)))) (.opt (qZ n (1:Int) r97.1 (⟨#[]⟩:BA)) fun r101=>(.ask ((!r101)) (.done ((0:Int),(0:Int),(⟨#[]⟩:BA),false)) (.done ((1:Int),r97.1,(⟨#[]⟩:BA),true)))))))) .fail) (.opt (qu n x0 (16:Int)) fun r102=>(.ask ((!r102.2)) (.done ((0:Int),(0:Int),(⟨#[]⟩:BA),false)) (.ask (((c96.toNat:Int)==(45:Int))) (.ask ((r102.1==(0:Int))) (.done ((0:Int),(0:Int),(⟨#[]⟩:BA),false)) (.ask (((c96.toNat:Int)==(45:Int))) (.opt (qZ n (1:Int) (IntKind.i64.wrap (0-r102.1)) (⟨#[]⟩:BA)) fun r103=>(.ask ((!r103)) (.done ((0:Int),(0:Int),(⟨#[]⟩:BA),false)) (.done ((1:Int),(IntKind.i64.wrap (0-r102.1)),(⟨#[]⟩:BA),true)))) (.opt (qZ n (1:Int) r102.1 (⟨#[]⟩:BA)) fun r104=>(.ask ((!r104)) (.done ((0:Int),(0:Int),(⟨#[]⟩:BA),false)) (.done ((1:Int),r102.1,(⟨#[]⟩:BA),true)))))) (.ask (((c96.toNat:Int)==(45:Int))) (.opt (qZ n (1:Int) (IntKind.i64.wrap (0-r102.1)) (⟨#[]⟩:BA)) fun r105=>(.ask ((!r105)) (.done ((0:Int),(0:Int),(⟨#[]⟩:BA),false)) (.done ((1:Int),(IntKind.i64.wrap (0-r102.1)),(⟨#[]⟩:BA),true)))) (.opt (qZ n (1:Int) r102.1 (⟨#[]⟩:BA)) fun r106=>(.ask ((!r106)) (.done ((0:Int),(0:Int),(⟨#[]⟩:BA),false)) (.done ((1:Int),r102.1,(⟨#[]⟩:BA),true)))))))))) .fail))) .fail))))) .fail))
def qAI:Nat→BA→Option (Int×Int×BA×Bool)
 |0,_=>none
 |n+1,x0=>(qA2 n x0).run
abbrev qH9 (n:Nat):List (Ent (Rn n)):= [en (qEC n),en (qGN n),en (qHf n)]
def qIV (n:Nat):LEnt (KB 97) (Rn n) n:=lok (zM 97) 15355 ⟨⟨[(0,aS),(2,(.c (.ptr 0 128 0 0 0))),(4,(.c (.ptr 0 256 0 0 0))),(5,aI)],[(128,⟨0,3,128,(.box [qI,qI,qS])⟩),(256,⟨0,3,128,(.box [qI,qI,qS])⟩)],[]⟩,[(.exit 1,⟨[(2,(.c (.ptr 0 128 0 0 0))),(4,(.c (.ptr 0 256 0 0 0)))],[(128,⟨0,3,128,(.box [qI,qI,qS])⟩),(256,⟨0,3,128,(.box [qI,qI,qS])⟩)],[]⟩)]⟩ (qBT n) (qH9 n) [] fun _=>(by kernel_rfl)
theorem qHK:∀n,Ok (Rn n) qMo (qAI n)
 |0=>ok0 fun _=>rfl
 |n+1=>stO (T:=qA2 n) (by kernel_rfl) (qH9 n) [qIV n] (fun _=>(by kernel_rfl)) fun _=>(by kernel_rfl)
def qPF:Sg:=⟨180,[aI],[],⟨aI,[],[]⟩⟩
def qGQ (n:Nat) (x0:Int):Tr (Int):=(.ask ((decide (x0≥(6:Int)))) (.done (1:Int)) (.ask ((x0==(5:Int))) (.done (2:Int)) (.ask ((decide (x0≥(3:Int)))) (.done (4:Int)) (.done (3:Int)))))
def qCL:Nat→Int→Option (Int)
 |0,_=>none
 |n+1,x0=>(qGQ n x0).run
theorem qIx:∀n,Ok (Rn n) qPF (qCL n)
 |0=>ok0 fun _=>rfl
 |n+1=>stO (T:=qGQ n) (by kernel_rfl) [] [] (fun _=>(by kernel_rfl)) fun _=>(by kernel_rfl)
def qQQ:Sg:=⟨181,[aI],[],⟨aS,[],[]⟩⟩
def qHg (n:Nat) (x0:Int):Tr (BA):=(.ask (decide (12=([[(.s (⟨#[]⟩:BA))],[(.s (⟨#[43]⟩:BA))],[(.s (⟨#[45]⟩:BA))],[(.s (⟨#[42]⟩:BA))],[(.s (⟨#[47]⟩:BA))],[(.s (⟨#[38]⟩:BA))],[(.s (⟨#[61]⟩:BA))],[(.s (⟨#[60,62]⟩:BA))],[(.s (⟨#[60]⟩:BA))],[(.s (⟨#[60,61]⟩:BA))],[(.s (⟨#[62]⟩:BA))],[(.s (⟨#[62,61]⟩:BA))]]:RW).length∧0≤x0∧x0<((12:Nat):Int))) (.opt (([[(.s (⟨#[]⟩:BA))],[(.s (⟨#[43]⟩:BA))],[(.s (⟨#[45]⟩:BA))],[(.s (⟨#[42]⟩:BA))],[(.s (⟨#[47]⟩:BA))],[(.s (⟨#[38]⟩:BA))],[(.s (⟨#[61]⟩:BA))],[(.s (⟨#[60,62]⟩:BA))],[(.s (⟨#[60]⟩:BA))],[(.s (⟨#[60,61]⟩:BA))],[(.s (⟨#[62]⟩:BA))],[(.s (⟨#[62,61]⟩:BA))]]:RW)[(x0).toNat]?) fun e120=>(.opt (zZ e120 0) fun y121=>(.done y121))) .fail)
def qCn:Nat→Int→Option (BA)
 |0,_=>none
 |n+1,x0=>(qHg n x0).run
theorem qJc:∀n,Ok (Rn n) qQQ (qCn n)
 |0=>ok0 fun _=>rfl
 |n+1=>stO (T:=qHg n) (by kernel_rfl) [] [] (fun _=>(by kernel_rfl)) fun _=>(by kernel_rfl)
def qPG:Sg:=⟨174,[(.c (.ptr 0 0 0 0 0)),aI],[[(0,⟨0,4,175,(.box [qS,qI,qB,(.own 0 1 1 0)])⟩),(1,⟨1,14,162,(.row [])⟩)]],⟨aI,[[(0,⟨0,4,175,(.box [qS,qI,qB,(.own 0 1 1 0)])⟩),(1,⟨1,14,162,(.row [])⟩)]],[]⟩⟩
def qEb (n:Nat) (v:Int×Nat×Int×RW×BA×Int×Bool×Nat×RW):Tr ((Int×Nat×Int×RW×BA×Int×Bool×Nat×RW)⊕((Int×BA×Int×Bool×Nat×RW)⊕(BA×Int×Bool×Nat×RW))):=(.ask ((decide (v.2.2.1<((v.2.1:Nat):Int)))) (.ask (decide (v.2.1=v.2.2.2.1.length∧0≤v.2.2.1∧v.2.2.1<((v.2.1:Nat):Int))) (.opt (v.2.2.2.1[(v.2.2.1).toNat]?) fun e115=>(.opt (zC .i64 e115 0) fun y116=>(.opt (qCL n y116) fun r117=>(.ask ((r117==v.1)) (.ask (decide (v.2.1=v.2.2.2.1.length∧0≤v.2.2.1∧v.2.2.1<((v.2.1:Nat):Int))) (.opt (v.2.2.2.1[(v.2.2.1).toNat]?) fun e118=>(.opt (zC .i64 e118 0) fun y119=>(.opt (qCn n y119) fun r120=>(.opt (qAE n r120 v.2.2.2.2.1 v.2.2.2.2.2.1 v.2.2.2.2.2.2.1 v.2.2.2.2.2.2.2.1 v.2.2.2.2.2.2.2.2) fun r121=>(.ask (r121.1) (.ask (decide (v.2.1=v.2.2.2.1.length∧0≤v.2.2.1∧v.2.2.1<((v.2.1:Nat):Int))) (.opt (v.2.2.2.1[(v.2.2.1).toNat]?) fun e122=>(.opt (zC .i64 e122 0) fun y123=>(.done (.inr (.inl ((y123,r121.2.1,r121.2.2.1,r121.2.2.2.1,r121.2.2.2.2.1,r121.2.2.2.2.2))))))) .fail) (.done (.inl (v.1,v.2.1,(IntKind.i64.wrap (v.2.2.1+(1:Int))),v.2.2.2.1,r121.2.1,r121.2.2.1,r121.2.2.2.1,r121.2.2.2.2.1,r121.2.2.2.2.2)))))))) .fail) (.done (.inl (v.1,v.2.1,(IntKind.i64.wrap (v.2.2.1+(1:Int))),v.2.2.2.1,v.2.2.2.2.1,v.2.2.2.2.2.1,v.2.2.2.2.2.2.1,v.2.2.2.2.2.2.2.1,v.2.2.2.2.2.2.2.2))))))) .fail) (.done (.inr (.inr ((v.2.2.2.2.1,v.2.2.2.2.2.1,v.2.2.2.2.2.2.1,v.2.2.2.2.2.2.2.1,v.2.2.2.2.2.2.2.2))))))
def qJd (n:Nat) (x0:Int) (x1:BA) (x2:Int) (x3:Bool) (x4:Nat) (x5:RW):Tr (Int×BA×Int×Bool×Nat×RW):=(.opt (zD (qEb n) n (x0,(11:Nat),(0:Int),([[(.i .i64 (7:Int))],[(.i .i64 (9:Int))],[(.i .i64 (11:Int))],[(.i .i64 (6:Int))],[(.i .i64 (8:Int))],[(.i .i64 (10:Int))],[(.i .i64 (1:Int))],[(.i .i64 (2:Int))],[(.i .i64 (3:Int))],[(.i .i64 (4:Int))],[(.i .i64 (5:Int))]]:RW),x1,x2,x3,x4,x5)) fun r124=>(.alt r124 (fun r125=>(.done (r125.1,r125.2.1,r125.2.2.1,r125.2.2.2.1,r125.2.2.2.2.1,r125.2.2.2.2.2))) (fun r126=>(.done ((0:Int),r126.1,r126.2.1,r126.2.2.1,r126.2.2.2.1,r126.2.2.2.2)))))
def qEc:Nat→Int→BA→Int→Bool→Nat→RW→Option (Int×BA×Int×Bool×Nat×RW)
 |0,_,_,_,_,_,_=>none
 |n+1,x0,x1,x2,x3,x4,x5=>(qJd n x0 x1 x2 x3 x4 x5).run
abbrev qJe (n:Nat):List (Ent (Rn n)):= [en (qIx n),en (qJc n),en (qEB n)]
def qL3 (n:Nat):LEnt (KB 174) (Rn n) n:=lok (zM 174) 29 ⟨⟨[(0,(.c (.ptr 0 0 0 0 0))),(1,aI),(5,(.c (.own 1 448 0 0))),(6,aI)],[(448,⟨0,1,2,(.row [])⟩)],[[(0,⟨0,4,175,(.box [qS,qI,qB,(.own 0 1 1 0)])⟩),(1,⟨1,14,162,(.row [])⟩)]]⟩,[(.ret,⟨[(4,aI)],[],[[(0,⟨0,4,175,(.box [qS,qI,qB,(.own 0 1 1 0)])⟩),(1,⟨1,14,162,(.row [])⟩)]]⟩),(.exit 0,⟨[],[],[[(0,⟨0,4,175,(.box [qS,qI,qB,(.own 0 1 1 0)])⟩),(1,⟨1,14,162,(.row [])⟩)]]⟩)]⟩ (qEb n) (qJe n) [] fun _=>(by kernel_rfl)
theorem qN5:∀n,Ok (Rn n) qPG (qEc n)
 |0=>ok0 fun _=>rfl
 |n+1=>stO (T:=qJd n) (by kernel_rfl) (qJe n) [qL3 n] (fun _=>(by kernel_rfl)) fun _=>(by kernel_rfl)
def qIy:Sg:=⟨134,[(.c (.ptr 0 0 0 0 0)),aI],[[(0,⟨0,4,175,(.box [qS,qI,qB,(.own 0 1 1 0)])⟩),(1,⟨1,14,162,(.row [])⟩)]],⟨aI,[[(0,⟨0,4,175,(.box [qS,qI,qB,(.own 0 1 1 0)])⟩),(1,⟨1,14,162,(.row [])⟩)]],[]⟩⟩
def qN6:Sg:=⟨173,[(.c (.ptr 0 0 0 0 0))],[[(0,⟨0,4,175,(.box [qS,qI,qB,(.own 0 1 1 0)])⟩),(1,⟨1,14,162,(.row [])⟩)]],⟨aI,[[(0,⟨0,4,175,(.box [qS,qI,qB,(.own 0 1 1 0)])⟩),(1,⟨1,14,162,(.row [])⟩)]],[]⟩⟩
def qMp:Sg:=⟨212,[(.c (.ptr 0 0 0 0 0)),aI],[[(0,⟨0,4,175,(.box [qS,qI,qB,(.own 0 1 1 0)])⟩),(1,⟨1,14,162,(.row [])⟩)]],⟨aI,[[(0,⟨0,4,175,(.box [qS,qI,qB,(.own 0 1 1 0)])⟩),(1,⟨1,14,162,(.row [])⟩)]],[]⟩⟩
def qN7:Sg:=⟨232,[(.c (.ptr 0 0 0 0 0))],[[(0,⟨0,4,175,(.box [qS,qI,qB,(.own 0 1 1 0)])⟩),(1,⟨1,14,162,(.row [])⟩)]],⟨aI,[[(0,⟨0,4,175,(.box [qS,qI,qB,(.own 0 1 1 0)])⟩),(1,⟨1,14,162,(.row [])⟩)]],[]⟩⟩
structure G_spec_l3Rd_row where
 spec_l3Rd_row:Int→BA→Int→Bool→Nat→RW→Option (Int×BA×Int×Bool×Nat×RW)
 spec_l3Rd_one:BA→Int→Bool→Nat→RW→Option (Int×BA×Int×Bool×Nat×RW)
 spec_l3Rd_call:Int→BA→Int→Bool→Nat→RW→Option (Int×BA×Int×Bool×Nat×RW)
 spec_l3Rd_arg:BA→Int→Bool→Nat→RW→Option (Int×BA×Int×Bool×Nat×RW)
def qEH (rec:G_spec_l3Rd_row) (n:Nat) (v:Int×Int×BA×Int×Bool×Nat×RW):Tr ((Int×Int×BA×Int×Bool×Nat×RW)⊕((Int×BA×Int×Bool×Nat×RW)⊕(Int×BA×Int×Bool×Nat×RW))):=(.ask ((!v.2.2.2.2.1)) (.opt (qEc n v.1 v.2.2.1 v.2.2.2.1 v.2.2.2.2.1 v.2.2.2.2.2.1 v.2.2.2.2.2.2) fun r115=>(.ask ((r115.1==(0:Int))) (.done (.inr (.inl ((v.2.1,r115.2.1,r115.2.2.1,r115.2.2.2.1,r115.2.2.2.2.1,r115.2.2.2.2.2))))) (.opt (rec.spec_l3Rd_row (IntKind.i64.wrap (v.1+(1:Int))) r115.2.1 r115.2.2.1 r115.2.2.2.1 r115.2.2.2.2.1 r115.2.2.2.2.2) fun r116=>(.ask (decide (2=([[(.i .i64 v.2.1)],[(.i .i64 r116.1)]]:RW).length)) (.opt (qr n (5:Int) r115.1 (0:Int) (0:Int) (⟨#[]⟩:BA) (0:Int) (0:Int) false false (0:Int) (0:Int) false false ([[(.i .i64 v.2.1)],[(.i .i64 r116.1)]]:RW) r116.2.1 r116.2.2.1 r116.2.2.2.1 r116.2.2.2.2.1 r116.2.2.2.2.2) fun r117=>(.done (.inl (v.1,r117.1,r117.2.1,r117.2.2.1,r117.2.2.2.1,r117.2.2.2.2.1,r117.2.2.2.2.2)))) .fail)))) (.done (.inr (.inr ((v.2.1,v.2.2.1,v.2.2.2.1,v.2.2.2.2.1,v.2.2.2.2.2.1,v.2.2.2.2.2.2))))))
def qIz (rec:G_spec_l3Rd_row) (n:Nat) (x0:Int) (x1:BA) (x2:Int) (x3:Bool) (x4:Nat) (x5:RW):Tr (Int×BA×Int×Bool×Nat×RW):=(.ask (x3) (.done ((0:Int),x1,x2,x3,x4,x5)) (.ask ((x0==(5:Int))) (.opt (rec.spec_l3Rd_one x1 x2 x3 x4 x5) fun r113=>(.done (r113.1,r113.2.1,r113.2.2.1,r113.2.2.2.1,r113.2.2.2.2.1,r113.2.2.2.2.2))) (.opt (rec.spec_l3Rd_row (IntKind.i64.wrap (x0+(1:Int))) x1 x2 x3 x4 x5) fun r114=>(.opt (zD (qEH rec n) n (x0,r114.1,r114.2.1,r114.2.2.1,r114.2.2.2.1,r114.2.2.2.2.1,r114.2.2.2.2.2)) fun r118=>(.alt r118 (fun r119=>(.done (r119.1,r119.2.1,r119.2.2.1,r119.2.2.2.1,r119.2.2.2.2.1,r119.2.2.2.2.2))) (fun r120=>(.done (r120.1,r120.2.1,r120.2.2.1,r120.2.2.2.1,r120.2.2.2.2.1,r120.2.2.2.2.2))))))))
def qCd (n:Nat) (v:Int×BA×Int×Bool×Nat×RW):Tr ((Int×BA×Int×Bool×Nat×RW)⊕((Int×BA×Int×Bool×Nat×RW)⊕(BA×Int×Bool×Nat×RW))):=(.ask ((decide (v.1≤(5:Int)))) (.opt (qBP n v.1) fun r62=>(.ask (decide (0≤(1:Int)∧(1:Int)≤(r62.size:Int)∧(r62.size:Int)≤r62.size)) (.ask ((decide ((IntKind.i64.wrap (v.2.2.1+((r62.extract ((1:Int)).toNat ((r62.size:Int)).toNat).size:Int)))≤(v.2.1.size:Int)))) (.ask (decide (0≤v.2.2.1∧v.2.2.1≤(IntKind.i64.wrap (v.2.2.1+((r62.extract ((1:Int)).toNat ((r62.size:Int)).toNat).size:Int)))∧(IntKind.i64.wrap (v.2.2.1+((r62.extract ((1:Int)).toNat ((r62.size:Int)).toNat).size:Int)))≤v.2.1.size)) (.ask (((v.2.1.extract (v.2.2.1).toNat ((IntKind.i64.wrap (v.2.2.1+((r62.extract ((1:Int)).toNat ((r62.size:Int)).toNat).size:Int)))).toNat).toList==(r62.extract ((1:Int)).toNat ((r62.size:Int)).toNat).toList)) (.opt (qC0 n v.1) fun r63=>(.opt (qr n (1:Int) (0:Int) r63.1 r63.2.1 r63.2.2 (0:Int) (0:Int) false false (0:Int) (0:Int) false false ([]:RW) v.2.1 (IntKind.i64.wrap (v.2.2.1+((r62.extract ((1:Int)).toNat ((r62.size:Int)).toNat).size:Int))) v.2.2.2.1 v.2.2.2.2.1 v.2.2.2.2.2) fun r64=>(.done (.inr (.inl ((r64.1,r64.2.1,r64.2.2.1,r64.2.2.2.1,r64.2.2.2.2.1,r64.2.2.2.2.2))))))) (.done (.inl ((IntKind.i64.wrap (v.1+(1:Int))),v.2.1,v.2.2.1,v.2.2.2.1,v.2.2.2.2.1,v.2.2.2.2.2)))) .fail) (.done (.inl ((IntKind.i64.wrap (v.1+(1:Int))),v.2.1,v.2.2.1,v.2.2.2.1,v.2.2.2.2.1,v.2.2.2.2.2)))) .fail)) (.done (.inr (.inr ((v.2.1,v.2.2.1,v.2.2.2.1,v.2.2.2.2.1,v.2.2.2.2.2))))))
def qDE (rec:G_spec_l3Rd_row) (n:Nat) (v:BA×Int×BA×Int×Bool×Nat×RW):Tr ((BA×Int×BA×Int×Bool×Nat×RW)⊕((Int×BA×Int×Bool×Nat×RW)⊕(BA×BA×Int×Bool×Nat×RW))):=(.ask ((decide (v.2.1≤(10:Int)))) (.opt (qCb n v.2.1) fun r80=>(.ask ((r80.toList==v.1.toList)) (.opt (qAE n (⟨#[40]⟩:BA) v.2.2.1 v.2.2.2.1 v.2.2.2.2.1 v.2.2.2.2.2.1 v.2.2.2.2.2.2) fun r81=>(.ask (r81.1) (.opt (rec.spec_l3Rd_call v.2.1 r81.2.1 r81.2.2.1 r81.2.2.2.1 r81.2.2.2.2.1 r81.2.2.2.2.2) fun r82=>(.done (.inr (.inl ((r82.1,r82.2.1,r82.2.2.1,r82.2.2.2.1,r82.2.2.2.2.1,r82.2.2.2.2.2)))))) (.done (.inl (v.1,(IntKind.i64.wrap (v.2.1+(1:Int))),r81.2.1,r81.2.2.1,r81.2.2.2.1,r81.2.2.2.2.1,r81.2.2.2.2.2))))) (.done (.inl (v.1,(IntKind.i64.wrap (v.2.1+(1:Int))),v.2.2.1,v.2.2.2.1,v.2.2.2.2.1,v.2.2.2.2.2.1,v.2.2.2.2.2.2))))) (.done (.inr (.inr ((v.1,v.2.2.1,v.2.2.2.1,v.2.2.2.2.1,v.2.2.2.2.2.1,v.2.2.2.2.2.2))))))
def qI0 (rec:G_spec_l3Rd_row) (n:Nat) (x0:BA) (x1:Int) (x2:Bool) (x3:Nat) (x4:RW):Tr (Int×BA×Int×Bool×Nat×RW):=(.opt (qAE n (⟨#[45]⟩:BA) x0 x1 x2 x3 x4) fun r32=>(.ask (r32.1) (.opt (rec.spec_l3Rd_row (5:Int) r32.2.1 r32.2.2.1 r32.2.2.2.1 r32.2.2.2.2.1 r32.2.2.2.2.2) fun r33=>(.ask (decide (1=([[(.i .i64 r33.1)]]:RW).length)) (.opt (qr n (4:Int) (0:Int) (0:Int) (0:Int) (⟨#[]⟩:BA) (0:Int) (0:Int) false false (0:Int) (0:Int) false false ([[(.i .i64 r33.1)]]:RW) r33.2.1 r33.2.2.1 r33.2.2.2.1 r33.2.2.2.2.1 r33.2.2.2.2.2) fun r48=>(.done (r48.1,r48.2.1,r48.2.2.1,r48.2.2.2.1,r48.2.2.2.2.1,r48.2.2.2.2.2))) .fail)) (.opt (qAE n (⟨#[40]⟩:BA) r32.2.1 r32.2.2.1 r32.2.2.2.1 r32.2.2.2.2.1 r32.2.2.2.2.2) fun r49=>(.ask (r49.1) (.opt (rec.spec_l3Rd_row (1:Int) r49.2.1 r49.2.2.1 r49.2.2.2.1 r49.2.2.2.2.1 r49.2.2.2.2.2) fun r50=>(.opt (qAE n (⟨#[41]⟩:BA) r50.2.1 r50.2.2.1 r50.2.2.2.1 r50.2.2.2.2.1 r50.2.2.2.2.2) fun r51=>(.ask ((!r51.1)) (.done (r50.1,r51.2.1,r51.2.2.1,true,r51.2.2.2.2.1,r51.2.2.2.2.2)) (.done (r50.1,r51.2.1,r51.2.2.1,r51.2.2.2.1,r51.2.2.2.2.1,r51.2.2.2.2.2))))) (.opt (qAE n (⟨#[34]⟩:BA) r49.2.1 r49.2.2.1 r49.2.2.2.1 r49.2.2.2.2.1 r49.2.2.2.2.2) fun r52=>(.ask (r52.1) (.opt (qE6 n r52.2.1 r52.2.2.1 r52.2.2.2.1 r52.2.2.2.2.1 r52.2.2.2.2.2) fun r60=>(.done (r60.1,r60.2.1,r60.2.2.1,r60.2.2.2.1,r60.2.2.2.2.1,r60.2.2.2.2.2))) (.opt (qAE n (⟨#[35]⟩:BA) r52.2.1 r52.2.2.1 r52.2.2.2.1 r52.2.2.2.2.1 r52.2.2.2.2.2) fun r61=>(.ask (r61.1) (.opt (zD (qCd n) n ((1:Int),r61.2.1,r61.2.2.1,r61.2.2.2.1,r61.2.2.2.2.1,r61.2.2.2.2.2)) fun r65=>(.alt r65 (fun r66=>(.done (r66.1,r66.2.1,r66.2.2.1,r66.2.2.2.1,r66.2.2.2.2.1,r66.2.2.2.2.2))) (fun r67=>(.done ((0:Int),r67.1,r67.2.1,true,r67.2.2.2.1,r67.2.2.2.2))))) (.opt (qC1 n r61.2.1 r61.2.2.1 r61.2.2.2.1 r61.2.2.2.2.1 r61.2.2.2.2.2) fun r79=>(.opt (zD (qDE rec n) n (r79.1,(1:Int),r79.2.1,r79.2.2.1,r79.2.2.2.1,r79.2.2.2.2.1,r79.2.2.2.2.2)) fun r83=>(.alt r83 (fun r84=>(.done (r84.1,r84.2.1,r84.2.2.1,r84.2.2.2.1,r84.2.2.2.2.1,r84.2.2.2.2.2))) (fun r85=>(.opt (qAI n r85.1) fun r107=>(.ask (r107.2.2.2) (.ask ((!(r85.1.toList==(⟨#[]⟩:BA).toList))) (.opt (qr n (1:Int) (0:Int) r107.1 r107.2.1 r107.2.2.1 (0:Int) (0:Int) false false (0:Int) (0:Int) false false ([]:RW) r85.2.1 r85.2.2.1 r85.2.2.2.1 r85.2.2.2.2.1 r85.2.2.2.2.2) fun r108=>(.done (r108.1,r108.2.1,r108.2.2.1,r108.2.2.2.1,r108.2.2.2.2.1,r108.2.2.2.2.2))) (.opt (qAm n r85.1) fun r109=>(.ask ((!r109.2.2.2.2)) (.done ((0:Int),r85.2.1,r85.2.2.1,true,r85.2.2.2.2.1,r85.2.2.2.2.2)) (.opt (qr n (2:Int) (0:Int) (0:Int) (0:Int) (⟨#[]⟩:BA) r109.1 r109.2.1 r109.2.2.1 r109.2.2.2.1 (0:Int) (0:Int) false false ([]:RW) r85.2.1 r85.2.2.1 r85.2.2.2.1 r85.2.2.2.2.1 r85.2.2.2.2.2) fun r110=>(.done (r110.1,r110.2.1,r110.2.2.1,r110.2.2.2.1,r110.2.2.2.2.1,r110.2.2.2.2.2)))))) (.opt (qAm n r85.1) fun r111=>(.ask ((!r111.2.2.2.2)) (.done ((0:Int),r85.2.1,r85.2.2.1,true,r85.2.2.2.2.1,r85.2.2.2.2.2)) (.opt (qr n (2:Int) (0:Int) (0:Int) (0:Int) (⟨#[]⟩:BA) r111.1 r111.2.1 r111.2.2.1 r111.2.2.2.1 (0:Int) (0:Int) false false ([]:RW) r85.2.1 r85.2.2.1 r85.2.2.2.1 r85.2.2.2.2.1 r85.2.2.2.2.2) fun r112=>(.done (r112.1,r112.2.1,r112.2.2.1,r112.2.2.2.1,r112.2.2.2.2.1,r112.2.2.2.2.2)))))))))))))))))))
def qDz (rec:G_spec_l3Rd_row) (n:Nat) (v:Int×Nat×RW×BA×Int×Bool×Nat×RW):Tr ((Int×Nat×RW×BA×Int×Bool×Nat×RW)⊕((Int×BA×Int×Bool×Nat×RW)⊕(BA×Int×Bool×Nat×RW))):=(.ask ((!v.2.2.2.2.2.1)) (.opt (rec.spec_l3Rd_arg v.2.2.2.1 v.2.2.2.2.1 v.2.2.2.2.2.1 v.2.2.2.2.2.2.1 v.2.2.2.2.2.2.2) fun r84=>(.ask (decide (1=([[(.i .i64 r84.1)]]:RW).length)) (.ask (decide (v.2.1=v.2.2.1.length∧0<1∧0<8∧(v.2.1+([[(.i .i64 r84.1)]]:RW).length)*8≤140737488355328∧([[(.i .i64 r84.1)]]:RW).all (fun e=>e.length==1)=true)) (.opt (qAE n (⟨#[41]⟩:BA) r84.2.1 r84.2.2.1 r84.2.2.2.1 r84.2.2.2.2.1 r84.2.2.2.2.2) fun r85=>(.ask (r85.1) (.ask (decide ((v.2.1+1)=(v.2.2.1++([[(.i .i64 r84.1)]]:RW)).length)) (.opt (qr n (6:Int) v.1 (0:Int) (0:Int) (⟨#[]⟩:BA) (0:Int) (0:Int) false false (0:Int) (0:Int) false false (v.2.2.1++([[(.i .i64 r84.1)]]:RW)) r85.2.1 r85.2.2.1 r85.2.2.2.1 r85.2.2.2.2.1 r85.2.2.2.2.2) fun r86=>(.done (.inr (.inl ((r86.1,r86.2.1,r86.2.2.1,r86.2.2.2.1,r86.2.2.2.2.1,r86.2.2.2.2.2)))))) .fail) (.opt (qAE n (⟨#[44]⟩:BA) r85.2.1 r85.2.2.1 r85.2.2.2.1 r85.2.2.2.2.1 r85.2.2.2.2.2) fun r87=>(.ask ((!r87.1)) (.done (.inl (v.1,(v.2.1+1),(v.2.2.1++([[(.i .i64 r84.1)]]:RW)),r87.2.1,r87.2.2.1,true,r87.2.2.2.2.1,r87.2.2.2.2.2))) (.done (.inl (v.1,(v.2.1+1),(v.2.2.1++([[(.i .i64 r84.1)]]:RW)),r87.2.1,r87.2.2.1,r87.2.2.2.1,r87.2.2.2.2.1,r87.2.2.2.2.2))))))) .fail) .fail)) (.done (.inr (.inr ((v.2.2.2.1,v.2.2.2.2.1,v.2.2.2.2.2.1,v.2.2.2.2.2.2.1,v.2.2.2.2.2.2.2))))))
def qIA (rec:G_spec_l3Rd_row) (n:Nat) (x0:Int) (x1:BA) (x2:Int) (x3:Bool) (x4:Nat) (x5:RW):Tr (Int×BA×Int×Bool×Nat×RW):=(.opt (zD (qDz rec n) n (x0,(0:Nat),([]:RW),x1,x2,x3,x4,x5)) fun r88=>(.alt r88 (fun r89=>(.done (r89.1,r89.2.1,r89.2.2.1,r89.2.2.2.1,r89.2.2.2.2.1,r89.2.2.2.2.2))) (fun r90=>(.done ((0:Int),r90.1,r90.2.1,r90.2.2.1,r90.2.2.2.1,r90.2.2.2.2)))))
def qI1 (rec:G_spec_l3Rd_row) (n:Nat) (x0:BA) (x1:Int) (x2:Bool) (x3:Nat) (x4:RW):Tr (Int×BA×Int×Bool×Nat×RW):=(.opt (qBd n x0 x1 x2 x3 x4) fun r84=>(.opt (qC1 n r84.1 r84.2.1 r84.2.2.1 r84.2.2.2.1 r84.2.2.2.2) fun r85=>(.opt (qAm n r85.1) fun r130=>(.ask (r130.2.2.2.2) (.opt (qAE n (⟨#[58]⟩:BA) r85.2.1 r85.2.2.1 r85.2.2.2.1 r85.2.2.2.2.1 r85.2.2.2.2.2) fun r131=>(.ask (r131.1) (.opt (qBd n r131.2.1 r131.2.2.1 r131.2.2.2.1 r131.2.2.2.2.1 r131.2.2.2.2.2) fun r132=>(.opt (qC1 n r132.1 r132.2.1 r132.2.2.1 r132.2.2.2.1 r132.2.2.2.2) fun r133=>(.opt (qAm n r133.1) fun r134=>(.ask ((!r134.2.2.2.2)) (.done ((0:Int),r133.2.1,r133.2.2.1,true,r133.2.2.2.2.1,r133.2.2.2.2.2)) (.opt (qr n (3:Int) (0:Int) (0:Int) (0:Int) (⟨#[]⟩:BA) r130.1 r130.2.1 r130.2.2.1 r130.2.2.2.1 r134.1 r134.2.1 r134.2.2.1 r134.2.2.2.1 ([]:RW) r133.2.1 r133.2.2.1 r133.2.2.2.1 r133.2.2.2.2.1 r133.2.2.2.2.2) fun r135=>(.done (r135.1,r135.2.1,r135.2.2.1,r135.2.2.2.1,r135.2.2.2.2.1,r135.2.2.2.2.2))))))) (.opt (rec.spec_l3Rd_row (1:Int) r131.2.1 r84.2.1 r131.2.2.2.1 r131.2.2.2.2.1 r131.2.2.2.2.2) fun r136=>(.done (r136.1,r136.2.1,r136.2.2.1,r136.2.2.2.1,r136.2.2.2.2.1,r136.2.2.2.2.2))))) (.opt (rec.spec_l3Rd_row (1:Int) r85.2.1 r84.2.1 r85.2.2.2.1 r85.2.2.2.2.1 r85.2.2.2.2.2) fun r137=>(.done (r137.1,r137.2.1,r137.2.2.1,r137.2.2.2.1,r137.2.2.2.2.1,r137.2.2.2.2.2)))))))
def qc:Nat→G_spec_l3Rd_row
 |0=>⟨fun _ _ _ _ _ _=>none,fun _ _ _ _ _=>none,fun _ _ _ _ _ _=>none,fun _ _ _ _ _=>none⟩
 |n+1=>⟨fun x0 x1 x2 x3 x4 x5=>(qIz (qc n) n x0 x1 x2 x3 x4 x5).run,fun x0 x1 x2 x3 x4=>(qI0 (qc n) n x0 x1 x2 x3 x4).run,fun x0 x1 x2 x3 x4 x5=>(qIA (qc n) n x0 x1 x2 x3 x4 x5).run,fun x0 x1 x2 x3 x4=>(qI1 (qc n) n x0 x1 x2 x3 x4).run⟩
def qED (n:Nat) (x0:Int) (x1:BA) (x2:Int) (x3:Bool) (x4:Nat) (x5:RW):Option (Int×BA×Int×Bool×Nat×RW):=(qc n).spec_l3Rd_row x0 x1 x2 x3 x4 x5
def qI2 (n:Nat) (x0:BA) (x1:Int) (x2:Bool) (x3:Nat) (x4:RW):Option (Int×BA×Int×Bool×Nat×RW):=(qc n).spec_l3Rd_one x0 x1 x2 x3 x4
def qIB (n:Nat) (x0:Int) (x1:BA) (x2:Int) (x3:Bool) (x4:Nat) (x5:RW):Option (Int×BA×Int×Bool×Nat×RW):=(qc n).spec_l3Rd_call x0 x1 x2 x3 x4 x5
def qI3 (n:Nat) (x0:BA) (x1:Int) (x2:Bool) (x3:Nat) (x4:RW):Option (Int×BA×Int×Bool×Nat×RW):=(qc n).spec_l3Rd_arg x0 x1 x2 x3 x4
def qA3 (n:Nat):Prop:=
 Ok (Rn n) qIy (qED n)∧
 Ok (Rn n) qN6 (qI2 n)∧
 Ok (Rn n) qMp (qIB n)∧
 Ok (Rn n) qN7 (qI3 n)
abbrev qI4 (n:Nat) (ih:qA3 n):List (Ent (Rn n)):= [en ih.2.1,en ih.1,en (qN5 n),en (qCz n)]
def qLJ (n:Nat) (ih:qA3 n):LEnt (KB 134) (Rn n) n:=lok (zM 134) 62 ⟨⟨[(0,(.c (.ptr 0 0 0 0 0))),(1,aI),(5,aI)],[],[[(0,⟨0,4,175,(.box [qS,qI,qB,(.own 0 1 1 0)])⟩),(1,⟨1,14,162,(.row [])⟩)]]⟩,[(.ret,⟨[(4,aI)],[],[[(0,⟨0,4,175,(.box [qS,qI,qB,(.own 0 1 1 0)])⟩),(1,⟨1,14,162,(.row [])⟩)]]⟩),(.exit 0,⟨[(5,aI)],[],[[(0,⟨0,4,175,(.box [qS,qI,qB,(.own 0 1 1 0)])⟩),(1,⟨1,14,162,(.row [])⟩)]]⟩)]⟩ (qEH (qc n) n) (qI4 n ih) [] fun _=>(by kernel_rfl)
abbrev qFh (n:Nat) (ih:qA3 n):List (Ent (Rn n)):= [en (qEB n),en ih.1,en (qCz n),en (qLz n),en (qGN n),en (qN2 n),en (qHI n),en (qL0 n),en ih.2.2.1,en (qHK n),en (qHJ n)]
def qJf (n:Nat) (ih:qA3 n):LEnt (KB 173) (Rn n) n:=lok (zM 173) 7161 ⟨⟨[(0,(.c (.ptr 0 0 0 0 0))),(5,aI)],[],[[(0,⟨0,4,175,(.box [qS,qI,qB,(.own 0 1 1 0)])⟩),(1,⟨1,14,162,(.row [])⟩)]]⟩,[(.ret,⟨[(2,aI)],[],[[(0,⟨0,4,175,(.box [qS,qI,qB,(.own 0 1 1 0)])⟩),(1,⟨1,14,162,(.row [])⟩)]]⟩),(.exit 1,⟨[(0,(.c (.ptr 0 0 0 0 0)))],[],[[(0,⟨0,4,175,(.box [qS,qI,qB,(.own 0 1 1 0)])⟩),(1,⟨1,14,162,(.row [])⟩)]]⟩)]⟩ (qCd n) (qFh n ih) [] fun _=>(by kernel_rfl)
def qLK (n:Nat) (ih:qA3 n):LEnt (KB 173) (Rn n) n:=lok (zM 173) 61 ⟨⟨[(0,(.c (.ptr 0 0 0 0 0))),(7,aS),(8,aI)],[],[[(0,⟨0,4,175,(.box [qS,qI,qB,(.own 0 1 1 0)])⟩),(1,⟨1,14,162,(.row [])⟩)]]⟩,[(.ret,⟨[(2,aI)],[],[[(0,⟨0,4,175,(.box [qS,qI,qB,(.own 0 1 1 0)])⟩),(1,⟨1,14,162,(.row [])⟩)]]⟩),(.exit 3,⟨[(0,(.c (.ptr 0 0 0 0 0))),(7,aS)],[],[[(0,⟨0,4,175,(.box [qS,qI,qB,(.own 0 1 1 0)])⟩),(1,⟨1,14,162,(.row [])⟩)]]⟩)]⟩ (qDE (qc n) n) (qFh n ih) [] fun _=>(by kernel_rfl)
abbrev qIC (n:Nat) (ih:qA3 n):List (Ent (Rn n)):= [en ih.2.2.2,en (qEB n),en (qCz n)]
def qKf (n:Nat) (ih:qA3 n):LEnt (KB 212) (Rn n) n:=lok (zM 212) 14 ⟨⟨[(0,(.c (.ptr 0 0 0 0 0))),(1,aI),(5,(.c (.own 1 384 0 0)))],[(384,⟨0,1,2,(.row [])⟩)],[[(0,⟨0,4,175,(.box [qS,qI,qB,(.own 0 1 1 0)])⟩),(1,⟨1,14,162,(.row [])⟩)]]⟩,[(.ret,⟨[(4,aI)],[],[[(0,⟨0,4,175,(.box [qS,qI,qB,(.own 0 1 1 0)])⟩),(1,⟨1,14,162,(.row [])⟩)]]⟩),(.exit 0,⟨[],[],[[(0,⟨0,4,175,(.box [qS,qI,qB,(.own 0 1 1 0)])⟩),(1,⟨1,14,162,(.row [])⟩)]]⟩)]⟩ (qDz (qc n) n) (qIC n ih) [] fun _=>(by kernel_rfl)
abbrev qN8 (n:Nat) (ih:qA3 n):List (Ent (Rn n)):= [en (qDx n),en (qHI n),en (qHJ n),en (qEB n),en (qCz n),en ih.1]
theorem qA4:∀n,qA3 n
 |0=>⟨ok0 fun _=>rfl,ok0 fun _=>rfl,ok0 fun _=>rfl,ok0 fun _=>rfl⟩
 |n+1=>⟨stO (T:=qIz (qc n) n) (by kernel_rfl) (qI4 n (qA4 n)) [qLJ n (qA4 n)] (fun _=>(by kernel_rfl)) fun _=>(by kernel_rfl),stO (T:=qI0 (qc n) n) (by kernel_rfl) (qFh n (qA4 n)) [qJf n (qA4 n),qLK n (qA4 n)] (fun _=>(by kernel_rfl)) fun _=>(by kernel_rfl),stO (T:=qIA (qc n) n) (by kernel_rfl) (qIC n (qA4 n)) [qKf n (qA4 n)] (fun _=>(by kernel_rfl)) fun _=>(by kernel_rfl),stO (T:=qI1 (qc n) n) (by kernel_rfl) (qN8 n (qA4 n)) [] (fun _=>(by kernel_rfl)) fun _=>(by kernel_rfl)⟩
theorem qMq (n:Nat):Ok (Rn n) qIy (qED n):=(qA4 n).1
def qHh:Sg:=⟨177,[aL,aI],[],⟨aI,[],[]⟩⟩
def qA5 (rec:RW→Int→Option (Int)) (n:Nat) (v:RW×Int×Int×Int):Tr ((RW×Int×Int×Int)⊕((Int)⊕(Int))):=(.ask ((decide (v.2.2.2≥(0:Int)))) (.ask ((decide (v.2.2.1<(0:Int)))) (.done (.inr (.inl ((-1:Int))))) (.ask (decide (0≤v.2.1∧v.2.1<v.1.length)) (.opt (v.1[(v.2.1).toNat]?) fun e158=>(.ask (decide (e158.length=14)) (.opt (zAk e158 13) fun y159=>(.ask (decide (0≤v.2.2.2∧v.2.2.2<y159.length)) (.opt (y159[(v.2.2.2).toNat]?) fun e160=>(.ask (decide (e160.length=1)) (.opt (zC .i64 e160 0) fun y161=>(.ask ((y161 !=v.2.2.1)) (.done (.inr (.inl ((-1:Int))))) (.opt (rec v.1 v.2.2.1) fun r162=>(.ask ((decide (r162<(0:Int)))) (.done (.inr (.inl ((-1:Int))))) (.done (.inl (v.1,v.2.1,(IntKind.i64.wrap (r162-(1:Int))),(IntKind.i64.wrap (v.2.2.2-(1:Int)))))))))) .fail)) .fail)) .fail)) .fail)) (.done (.inr (.inr (v.2.2.1)))))
def qHi (rec:RW→Int→Option (Int)) (n:Nat) (x0:RW) (x1:Int):Tr (Int):=(.ask (decide (0≤x1∧x1<x0.length)) (.opt (x0[(x1).toNat]?) fun e156=>(.ask (decide (e156.length=14)) (.opt (zAk e156 13) fun y157=>(.opt (zD (qA5 rec n) n (x0,x1,(IntKind.i64.wrap (x1-(1:Int))),(IntKind.i64.wrap ((y157.length:Int)-(1:Int))))) fun r163=>(.alt r163 (fun r164=>(.done r164)) (fun r165=>(.done (IntKind.i64.wrap (r165+(1:Int)))))))) .fail)) .fail)
def qAn:Nat→RW→Int→Option (Int)
 |0,_,_=>none
 |n+1,x0,x1=>(qHi (qAn n) n x0 x1).run
abbrev qK1 (n:Nat) (ih:Ok (Rn n) qHh (qAn n)):List (Ent (Rn n)):= [en ih]
def qMr (n:Nat) (ih:Ok (Rn n) qHh (qAn n)):LEnt (KB 177) (Rn n) n:=lok (zM 177) 29 ⟨⟨[(0,aL),(1,aI),(5,aI),(6,aI)],[],[]⟩,[(.ret,⟨[(4,aI)],[],[]⟩),(.exit 0,⟨[(5,aI)],[],[]⟩)]⟩ (qA5 (qAn n) n) (qK1 n ih) [] fun _=>(by kernel_rfl)
theorem qGR:∀n,Ok (Rn n) qHh (qAn n)
 |0=>ok0 fun _=>rfl
 |n+1=>stO (T:=qHi (qAn n) n) (by kernel_rfl) (qK1 n (qGR n)) [qMr n (qGR n)] (fun _=>(by kernel_rfl)) fun _=>(by kernel_rfl)
def qHj:Sg:=⟨178,[aL,aI],[],⟨aI,[],[]⟩⟩
def qC3 (rec:RW→Int→Option (Int)) (n:Nat) (v:RW×Int×Int×Int):Tr ((RW×Int×Int×Int)⊕((Int))):=(.ask (decide (0≤v.2.1∧v.2.1<v.1.length)) (.opt (v.1[(v.2.1).toNat]?) fun e169=>(.ask (decide (e169.length=14)) (.opt (zAk e169 13) fun y170=>(.ask ((decide (v.2.2.2<(y170.length:Int)))) (.ask (decide (0≤v.2.1∧v.2.1<v.1.length)) (.opt (v.1[(v.2.1).toNat]?) fun e171=>(.ask (decide (e171.length=14)) (.opt (zAk e171 13) fun y172=>(.ask (decide (0≤v.2.2.2∧v.2.2.2<y172.length)) (.opt (y172[(v.2.2.2).toNat]?) fun e173=>(.ask (decide (e173.length=1)) (.opt (zC .i64 e173 0) fun y174=>(.opt (rec v.1 y174) fun r175=>(.done (.inl (v.1,v.2.1,(if r175>v.2.2.1 then r175 else v.2.2.1),(IntKind.i64.wrap (v.2.2.2+(1:Int)))))))) .fail)) .fail)) .fail)) .fail) (.done (.inr (v.2.2.1))))) .fail)) .fail)
def qHk (rec:RW→Int→Option (Int)) (n:Nat) (x0:RW) (x1:Int):Tr (Int):=(.opt (zD (qC3 rec n) n (x0,x1,(0:Int),(0:Int))) fun r176=>(.done (IntKind.i64.wrap (r176+(1:Int)))))
def qAo:Nat→RW→Int→Option (Int)
 |0,_,_=>none
 |n+1,x0,x1=>(qHk (qAo n) n x0 x1).run
abbrev qK2 (n:Nat) (ih:Ok (Rn n) qHj (qAo n)):List (Ent (Rn n)):= [en ih]
def qMs (n:Nat) (ih:Ok (Rn n) qHj (qAo n)):LEnt (KB 178) (Rn n) n:=lok (zM 178) 29 ⟨⟨[(0,aL),(1,aI),(5,aI),(6,aI)],[],[]⟩,[(.exit 0,⟨[(5,aI)],[],[]⟩)]⟩ (qC3 (qAo n) n) (qK2 n ih) [] fun _=>(by kernel_rfl)
theorem qGS:∀n,Ok (Rn n) qHj (qAo n)
 |0=>ok0 fun _=>rfl
 |n+1=>stO (T:=qHk (qAo n) n) (by kernel_rfl) (qK2 n (qGS n)) [qMs n (qGS n)] (fun _=>(by kernel_rfl)) fun _=>(by kernel_rfl)
def qMt:Sg:=⟨136,[aL],[],⟨aB,[],[]⟩⟩
def qAh (n:Nat) (v:RW×Int×Int):Tr ((RW×Int×Int)⊕((Bool)⊕(RW×Int))):=(.ask (decide (0≤v.2.1∧v.2.1<v.1.length)) (.opt (v.1[(v.2.1).toNat]?) fun e139=>(.ask (decide (e139.length=14)) (.opt (zAk e139 13) fun y140=>(.ask ((decide (v.2.2<(y140.length:Int)))) (.ask (decide (0≤v.2.1∧v.2.1<v.1.length)) (.opt (v.1[(v.2.1).toNat]?) fun e141=>(.ask (decide (e141.length=14)) (.opt (zAk e141 13) fun y142=>(.ask (decide (0≤v.2.2∧v.2.2<y142.length)) (.opt (y142[(v.2.2).toNat]?) fun e143=>(.ask (decide (e143.length=1)) (.opt (zC .i64 e143 0) fun y144=>(.opt (qAu n y144 (0:Int) (IntKind.i64.wrap (v.2.1-(1:Int)))) fun r145=>(.ask ((!r145)) (.done (.inr (.inl (false)))) (.ask (decide (0≤y144∧y144<v.1.length)) (.opt (v.1[(y144).toNat]?) fun e146=>(.ask (decide (e146.length=14)) (.opt (zC .i64 e146 0) fun y147=>(.ask ((y147==(3:Int))) (.ask (decide (0≤v.2.1∧v.2.1<v.1.length)) (.opt (v.1[(v.2.1).toNat]?) fun e148=>(.ask (decide (e148.length=14)) (.opt (zC .i64 e148 0) fun y149=>(.ask ((y149 !=(6:Int))) (.done (.inr (.inl (false)))) (.done (.inl (v.1,v.2.1,(IntKind.i64.wrap (v.2.2+(1:Int)))))))) .fail)) .fail) (.done (.inl (v.1,v.2.1,(IntKind.i64.wrap (v.2.2+(1:Int)))))))) .fail)) .fail)))) .fail)) .fail)) .fail)) .fail) (.done (.inr (.inr ((v.1,v.2.1))))))) .fail)) .fail)
def qA8 (n:Nat) (v:RW×Int):Tr ((RW×Int)⊕((Bool)⊕(RW))):=(.ask ((decide (v.2<(v.1.length:Int)))) (.ask (decide (0≤v.2∧v.2<v.1.length)) (.opt (v.1[(v.2).toNat]?) fun e123=>(.ask (decide (e123.length=14)) (.opt (zC .i64 e123 0) fun y124=>(.opt (zC .i64 e123 1) fun y125=>(.opt (zC .i64 e123 2) fun y126=>(.opt (zC .i64 e123 3) fun y127=>(.opt (zZ e123 4) fun y128=>(.opt (zC .i64 e123 5) fun y129=>(.opt (zC .i64 e123 6) fun y130=>(.opt (zy e123 7) fun y131=>(.opt (zy e123 8) fun y132=>(.opt (zC .i64 e123 9) fun y133=>(.opt (zC .i64 e123 10) fun y134=>(.opt (zy e123 11) fun y135=>(.opt (zy e123 12) fun y136=>(.opt (zAk e123 13) fun y137=>(.opt (qB3 n y124 y125 y126 y127 y128 y129 y130 y131 y132 y133 y134 y135 y136 y137) fun r138=>(.ask ((!r138)) (.done (.inr (.inl (false)))) (.opt (zD (qAh n) n (v.1,v.2,(0:Int))) fun r150=>(.alt r150 (fun r151=>(.done (.inr (.inl (r151))))) (fun r152=>(.done (.inl (r152.1,(IntKind.i64.wrap (r152.2+(1:Int))))))))))))))))))))))))) .fail)) .fail) (.done (.inr (.inr (v.1)))))
def qC4 (n:Nat) (x0:RW):Tr (Bool):=(.ask ((decide ((x0.length:Int)<(1:Int)))) (.done false) (.ask ((decide ((x0.length:Int)>(60:Int)))) (.done false) (.opt (zD (qA8 n) n (x0,(0:Int))) fun r153=>(.alt r153 (fun r154=>(.done r154)) (fun r155=>(.opt (qAn n r155 (IntKind.i64.wrap ((r155.length:Int)-(1:Int)))) fun r166=>(.ask ((r166==(0:Int))) (.ask (decide (0≤(IntKind.i64.wrap ((r155.length:Int)-(1:Int)))∧(IntKind.i64.wrap ((r155.length:Int)-(1:Int)))<r155.length)) (.opt (r155[((IntKind.i64.wrap ((r155.length:Int)-(1:Int)))).toNat]?) fun e167=>(.ask (decide (e167.length=14)) (.opt (zC .i64 e167 0) fun y168=>(.ask ((y168 !=(3:Int))) (.opt (qAo n r155 (IntKind.i64.wrap ((r155.length:Int)-(1:Int)))) fun r177=>(.done (decide (r177≤(12:Int))))) (.done false))) .fail)) .fail) (.done false))))))))
def qBL:Nat→RW→Option (Bool)
 |0,_=>none
 |n+1,x0=>(qC4 n x0).run
abbrev qE7 (n:Nat):List (Ent (Rn n)):= [en (qH4 n),en (qDp n),en (qGR n),en (qGS n)]
def qJg (n:Nat):LEnt (lb 29 (KB 136)) (Rn n) n:=lok (Uniq.pick (zM 136) 29) 475 ⟨⟨[(0,aL),(3,aI),(4,aI)],[],[]⟩,[(.ret,⟨[(2,aB)],[],[]⟩),(.exit 2,⟨[(0,aL),(3,aI)],[],[]⟩)]⟩ (qAh n) (qE7 n) [] fun _=>(by kernel_rfl)
def qKg (n:Nat):LEnt (KB 136) (Rn n) n:=lok (zM 136) 29 ⟨⟨[(0,aL),(3,aI)],[],[]⟩,[(.ret,⟨[(2,aB)],[],[]⟩),(.exit 0,⟨[(0,aL)],[],[]⟩)]⟩ (qA8 n) (qE7 n) [qJg n] fun _=>(by kernel_rfl)
theorem qEd:∀n,Ok (Rn n) qMt (qBL n)
 |0=>ok0 fun _=>rfl
 |n+1=>stO (T:=qC4 n) (by kernel_rfl) (qE7 n) [qKg n] (fun _=>(by kernel_rfl)) fun _=>(by kernel_rfl)
def qLL:Sg:=⟨93,[aS],[],⟨(.tup [(false,[qL]),(false,[qB])]),[],[]⟩⟩
def qGT (n:Nat) (x0:BA):Tr (RW×Bool):=(.opt (qCJ n x0) fun r28=>(.ask ((!r28)) (.ask (decide (0=([]:RW).length)) (.done (([]:RW),false)) .fail) (.opt (qED n (1:Int) x0 (0:Int) false (0:Nat) ([]:RW)) fun r121=>(.opt (qBd n r121.2.1 r121.2.2.1 r121.2.2.2.1 r121.2.2.2.2.1 r121.2.2.2.2.2) fun r122=>(.ask (r122.2.2.1) (.ask (decide (0=([]:RW).length)) (.done (([]:RW),false)) .fail) (.ask ((decide (r122.2.1<(x0.size:Int)))) (.ask (decide (0=([]:RW).length)) (.done (([]:RW),false)) .fail) (.ask (decide (r122.2.2.2.1=r122.2.2.2.2.length)) (.opt (qBL n r122.2.2.2.2) fun r178=>(.ask (zl (⟨(.c (.p (.b r178))),[],[]⟩:Res)) (.ask ((!r178)) (.ask (decide (0=([]:RW).length)) (.done (([]:RW),false)) .fail) (.ask (decide (r122.2.2.2.1=r122.2.2.2.2.length)) (.done (r122.2.2.2.2,true)) .fail)) .fail)) .fail)))))))
def qDF:Nat→BA→Option (RW×Bool)
 |0,_=>none
 |n+1,x0=>(qGT n x0).run
abbrev qLM (n:Nat):List (Ent (Rn n)):= [en (qFf n),en (qMq n),en (qDx n),en (qEd n)]
theorem qFx:∀n,Ok (Rn n) qLL (qDF n)
 |0=>ok0 fun _=>rfl
 |n+1=>stO (T:=qGT n) (by kernel_rfl) (qLM n) [] (fun _=>(by kernel_rfl)) fun _=>(by kernel_rfl)
def qPH:Sg:=⟨179,[aS],[],⟨aS,[],[]⟩⟩
def qBU (n:Nat) (v:BA×BA×Int):Tr ((BA×BA×Int)⊕((BA))):=(.ask ((decide (v.2.2<(v.1.size:Int)))) (.ask (decide (0≤v.2.2)) (.opt (v.1.toList[(v.2.2).toNat]?) fun c196=>(.ask (((c196.toNat:Int)==(34:Int))) (.ask (decide (v.2.1.size+(⟨#[34]⟩:BA).size≤9223372036854775807)) (.ask (decide (0≤v.2.2∧v.2.2≤(IntKind.i64.wrap (v.2.2+(1:Int)))∧(IntKind.i64.wrap (v.2.2+(1:Int)))≤v.1.size)) (.ask (decide ((v.2.1++(⟨#[34]⟩:BA)).size+(v.1.extract (v.2.2).toNat ((IntKind.i64.wrap (v.2.2+(1:Int)))).toNat).size≤9223372036854775807)) (.done (.inl (v.1,((v.2.1++(⟨#[34]⟩:BA))++(v.1.extract (v.2.2).toNat ((IntKind.i64.wrap (v.2.2+(1:Int)))).toNat)),(IntKind.i64.wrap (v.2.2+(1:Int)))))) .fail) .fail) .fail) (.ask (decide (0≤v.2.2∧v.2.2≤(IntKind.i64.wrap (v.2.2+(1:Int)))∧(IntKind.i64.wrap (v.2.2+(1:Int)))≤v.1.size)) (.ask (decide (v.2.1.size+(v.1.extract (v.2.2).toNat ((IntKind.i64.wrap (v.2.2+(1:Int)))).toNat).size≤9223372036854775807)) (.done (.inl (v.1,(v.2.1++(v.1.extract (v.2.2).toNat ((IntKind.i64.wrap (v.2.2+(1:Int)))).toNat)),(IntKind.i64.wrap (v.2.2+(1:Int)))))) .fail) .fail))) .fail) (.done (.inr (v.2.1))))
def qGU (n:Nat) (x0:BA):Tr (BA):=(.opt (zD (qBU n) n (x0,(⟨#[34]⟩:BA),(0:Int))) fun r197=>(.ask (decide (r197.size+(⟨#[34]⟩:BA).size≤9223372036854775807)) (.done (r197++(⟨#[34]⟩:BA))) .fail))
def qEe:Nat→BA→Option (BA)
 |0,_=>none
 |n+1,x0=>(qGU n x0).run
def qL4 (n:Nat):LEnt (KB 179) (Rn n) n:=lok (zM 179) 29 ⟨⟨[(0,aS),(3,aS),(4,aI)],[],[]⟩,[(.exit 0,⟨[(3,aS)],[],[]⟩)]⟩ (qBU n) [] [] fun _=>(by kernel_rfl)
theorem qN9:∀n,Ok (Rn n) qPH (qEe n)
 |0=>ok0 fun _=>rfl
 |n+1=>stO (T:=qGU n) (by kernel_rfl) [] [qL4 n] (fun _=>(by kernel_rfl)) fun _=>(by kernel_rfl)
def qIW:Sg:=⟨59,[aI],[],⟨aS,[],[]⟩⟩
def qDO (n:Nat) (v:Int×BA):Tr ((Int×BA)⊕((Int×BA))):=(.ask ((decide (v.1≥(10:Int)))) (.ask (decide (1=([[(.i .u8 (IntKind.u8.wrap (IntKind.i64.wrap ((48:Int)+(Int.tmod v.1 (10:Int))))))]]:RW).length)) (.opt (bytesOf ([[(.i .u8 (IntKind.u8.wrap (IntKind.i64.wrap ((48:Int)+(Int.tmod v.1 (10:Int))))))]]:RW)) fun l201=>(.ask (decide ((⟨l201.toArray⟩:BA).size+v.2.size≤9223372036854775807)) (.done (.inl ((IntKind.i64.wrap (Int.tdiv v.1 (10:Int))),((⟨l201.toArray⟩:BA)++v.2)))) .fail)) .fail) (.done (.inr ((v.1,v.2)))))
def qGA (rec:Int→Option (BA)) (n:Nat) (x0:Int):Tr (BA):=(.ask ((decide (x0<(0:Int)))) (.opt (rec (IntKind.i64.wrap (0-x0))) fun r200=>(.ask (decide ((⟨#[45]⟩:BA).size+r200.size≤9223372036854775807)) (.done ((⟨#[45]⟩:BA)++r200)) .fail)) (.opt (zD (qDO n) n (x0,(⟨#[]⟩:BA))) fun r202=>(.ask (decide (1=([[(.i .u8 (IntKind.u8.wrap (IntKind.i64.wrap ((48:Int)+r202.1))))]]:RW).length)) (.opt (bytesOf ([[(.i .u8 (IntKind.u8.wrap (IntKind.i64.wrap ((48:Int)+r202.1))))]]:RW)) fun l203=>(.ask (decide ((⟨l203.toArray⟩:BA).size+r202.2.size≤9223372036854775807)) (.done ((⟨l203.toArray⟩:BA)++r202.2)) .fail)) .fail)))
def qAr:Nat→Int→Option (BA)
 |0,_=>none
 |n+1,x0=>(qGA (qAr n) n x0).run
abbrev qL5 (n:Nat) (ih:Ok (Rn n) qIW (qAr n)):List (Ent (Rn n)):= [en ih]
def qOA (n:Nat) (ih:Ok (Rn n) qIW (qAr n)):LEnt (KB 59) (Rn n) n:=lok (zM 59) 30 ⟨⟨[(0,aI),(3,aS)],[],[]⟩,[(.exit 0,⟨[(0,aI),(3,aS)],[],[]⟩)]⟩ (qDO n) (qL5 n ih) [] fun _=>(by kernel_rfl)
theorem qFN:∀n,Ok (Rn n) qIW (qAr n)
 |0=>ok0 fun _=>rfl
 |n+1=>stO (T:=qGA (qAr n) n) (by kernel_rfl) (qL5 n (qFN n)) [qOA n (qFN n)] (fun _=>(by kernel_rfl)) fun _=>(by kernel_rfl)
def qQR:Sg:=⟨140,[aI],[],⟨aS,[],[]⟩⟩
def qHl (n:Nat) (x0:Int):Tr (BA):=(.ask ((x0==(1:Int))) (.done (⟨#[84,82,85,69]⟩:BA)) (.done (⟨#[70,65,76,83,69]⟩:BA)))
def qFO:Nat→Int→Option (BA)
 |0,_=>none
 |n+1,x0=>(qHl n x0).run
theorem qPI:∀n,Ok (Rn n) qQR (qFO n)
 |0=>ok0 fun _=>rfl
 |n+1=>stO (T:=qHl n) (by kernel_rfl) [] [] (fun _=>(by kernel_rfl)) fun _=>(by kernel_rfl)
def qMu:Sg:=⟨96,[(.agg [qI,qI,qS])],[],⟨aS,[],[]⟩⟩
def qBM (n:Nat) (x0 x1:Int) (x2:BA):Tr (BA):=(.opt (qZ n x0 x1 x2) fun r199=>(.ask ((!r199)) (.done (⟨#[]⟩:BA)) (.ask ((x0==(1:Int))) (.opt (qAr n x1) fun r204=>(.done r204)) (.ask ((x0==(2:Int))) (.ask (decide ((⟨#[39]⟩:BA).size+x2.size≤9223372036854775807)) (.done ((⟨#[39]⟩:BA)++x2)) .fail) (.ask ((x0==(3:Int))) (.opt (qFO n x1) fun r205=>(.done r205)) (.ask ((x0==(4:Int))) (.opt (qBP n x1) fun r206=>(.done r206)) (.done (⟨#[]⟩:BA))))))))
def qAR:Nat→Int→Int→BA→Option (BA)
 |0,_,_,_=>none
 |n+1,x0,x1,x2=>(qBM n x0 x1 x2).run
abbrev qMv (n:Nat):List (Ent (Rn n)):= [en (qEC n),en (qFN n),en (qPI n),en (qGN n)]
theorem qHL:∀n,Ok (Rn n) qMu (qAR n)
 |0=>ok0 fun _=>rfl
 |n+1=>stO (T:=qBM n) (by kernel_rfl) (qMv n) [] (fun _=>(by kernel_rfl)) fun _=>(by kernel_rfl)
def qMw:Sg:=⟨58,[(.agg [qI,qI,qB,qB])],[],⟨aS,[],[]⟩⟩
def qDq (n:Nat) (x0 x1:Int) (x2 x3:Bool):Tr (BA):=(.opt (qAJ n x0 x1) fun r208=>(.ask ((!r208)) (.done (⟨#[]⟩:BA)) (.opt (qC2 n x0) fun r209=>(.ask (x2) (.ask (decide ((⟨#[36]⟩:BA).size+r209.size≤9223372036854775807)) (.ask (x3) (.ask (decide (((⟨#[36]⟩:BA)++r209).size+(⟨#[36]⟩:BA).size≤9223372036854775807)) (.opt (qAr n x1) fun r210=>(.ask (decide ((((⟨#[36]⟩:BA)++r209)++(⟨#[36]⟩:BA)).size+r210.size≤9223372036854775807)) (.done ((((⟨#[36]⟩:BA)++r209)++(⟨#[36]⟩:BA))++r210)) .fail)) .fail) (.opt (qAr n x1) fun r211=>(.ask (decide (((⟨#[36]⟩:BA)++r209).size+r211.size≤9223372036854775807)) (.done (((⟨#[36]⟩:BA)++r209)++r211)) .fail))) .fail) (.ask (x3) (.ask (decide (r209.size+(⟨#[36]⟩:BA).size≤9223372036854775807)) (.opt (qAr n x1) fun r212=>(.ask (decide ((r209++(⟨#[36]⟩:BA)).size+r212.size≤9223372036854775807)) (.done ((r209++(⟨#[36]⟩:BA))++r212)) .fail)) .fail) (.opt (qAr n x1) fun r213=>(.ask (decide (r209.size+r213.size≤9223372036854775807)) (.done (r209++r213)) .fail)))))))
def qBe:Nat→Int→Int→Bool→Bool→Option (BA)
 |0,_,_,_,_=>none
 |n+1,x0,x1,x2,x3=>(qDq n x0 x1 x2 x3).run
abbrev qMx (n:Nat):List (Ent (Rn n)):= [en (qD7 n),en (qIw n),en (qFN n)]
theorem qL6:∀n,Ok (Rn n) qMw (qBe n)
 |0=>ok0 fun _=>rfl
 |n+1=>stO (T:=qDq n) (by kernel_rfl) (qMx n) [] (fun _=>(by kernel_rfl)) fun _=>(by kernel_rfl)
def qHm:Sg:=⟨137,[aL,aI,aI],[],⟨aS,[],[]⟩⟩
def qBV (rec:RW→Int→Int→Option (BA)) (n:Nat) (v:RW×BA×Int×Int×Int×Int×Int×BA×Int×Int×Bool×Bool×Int×Int×Bool×Bool×RW):Tr ((RW×BA×Int×Int×Int×Int×Int×BA×Int×Int×Bool×Bool×Int×Int×Bool×Bool×RW)⊕((BA))):=(.ask ((decide (v.2.2.1<(v.2.2.2.2.2.2.2.2.2.2.2.2.2.2.2.2.length:Int)))) (.ask ((decide (v.2.2.1>(0:Int)))) (.ask (decide (v.2.1.size+(⟨#[44]⟩:BA).size≤9223372036854775807)) (.ask (decide (0≤v.2.2.1∧v.2.2.1<v.2.2.2.2.2.2.2.2.2.2.2.2.2.2.2.2.length)) (.opt (v.2.2.2.2.2.2.2.2.2.2.2.2.2.2.2.2[(v.2.2.1).toNat]?) fun e229=>(.ask (decide (e229.length=1)) (.opt (zC .i64 e229 0) fun y230=>(.opt (rec v.1 y230 (0:Int)) fun r231=>(.ask (decide ((v.2.1++(⟨#[44]⟩:BA)).size+r231.size≤9223372036854775807)) (.done (.inl (v.1,((v.2.1++(⟨#[44]⟩:BA))++r231),(IntKind.i64.wrap (v.2.2.1+(1:Int))),v.2.2.2.1,v.2.2.2.2.1,v.2.2.2.2.2.1,v.2.2.2.2.2.2.1,v.2.2.2.2.2.2.2.1,v.2.2.2.2.2.2.2.2.1,v.2.2.2.2.2.2.2.2.2.1,v.2.2.2.2.2.2.2.2.2.2.1,v.2.2.2.2.2.2.2.2.2.2.2.1,v.2.2.2.2.2.2.2.2.2.2.2.2.1,v.2.2.2.2.2.2.2.2.2.2.2.2.2.1,v.2.2.2.2.2.2.2.2.2.2.2.2.2.2.1,v.2.2.2.2.2.2.2.2.2.2.2.2.2.2.2.1,v.2.2.2.2.2.2.2.2.2.2.2.2.2.2.2.2))) .fail))) .fail)) .fail) .fail) (.ask (decide (0≤v.2.2.1∧v.2.2.1<v.2.2.2.2.2.2.2.2.2.2.2.2.2.2.2.2.length)) (.opt (v.2.2.2.2.2.2.2.2.2.2.2.2.2.2.2.2[(v.2.2.1).toNat]?) fun e232=>(.ask (decide (e232.length=1)) (.opt (zC .i64 e232 0) fun y233=>(.opt (rec v.1 y233 (0:Int)) fun r234=>(.ask (decide (v.2.1.size+r234.size≤9223372036854775807)) (.done (.inl (v.1,(v.2.1++r234),(IntKind.i64.wrap (v.2.2.1+(1:Int))),v.2.2.2.1,v.2.2.2.2.1,v.2.2.2.2.2.1,v.2.2.2.2.2.2.1,v.2.2.2.2.2.2.2.1,v.2.2.2.2.2.2.2.2.1,v.2.2.2.2.2.2.2.2.2.1,v.2.2.2.2.2.2.2.2.2.2.1,v.2.2.2.2.2.2.2.2.2.2.2.1,v.2.2.2.2.2.2.2.2.2.2.2.2.1,v.2.2.2.2.2.2.2.2.2.2.2.2.2.1,v.2.2.2.2.2.2.2.2.2.2.2.2.2.2.1,v.2.2.2.2.2.2.2.2.2.2.2.2.2.2.2.1,v.2.2.2.2.2.2.2.2.2.2.2.2.2.2.2.2))) .fail))) .fail)) .fail)) (.done (.inr (v.2.1))))
def qBp (rec:RW→Int→Int→Option (BA)) (n:Nat) (x0:RW) (x1 x2:Int):Tr (BA):=(.ask (decide (0≤x1∧x1<x0.length)) (.opt (x0[(x1).toNat]?) fun e181=>(.ask (decide (e181.length=14)) (.opt (zC .i64 e181 0) fun y182=>(.opt (zC .i64 e181 1) fun y183=>(.opt (zC .i64 e181 2) fun y184=>(.opt (zC .i64 e181 3) fun y185=>(.opt (zZ e181 4) fun y186=>(.opt (zC .i64 e181 5) fun y187=>(.opt (zC .i64 e181 6) fun y188=>(.opt (zy e181 7) fun y189=>(.opt (zy e181 8) fun y190=>(.opt (zC .i64 e181 9) fun y191=>(.opt (zC .i64 e181 10) fun y192=>(.opt (zy e181 11) fun y193=>(.opt (zy e181 12) fun y194=>(.opt (zAk e181 13) fun y195=>(.ask ((y182==(1:Int))) (.ask ((y184==(2:Int))) (.opt (qEe n y186) fun r198=>(.done r198)) (.opt (qAR n y184 y185 y186) fun r207=>(.done r207))) (.ask ((y182==(2:Int))) (.opt (qBe n y187 y188 y189 y190) fun r214=>(.done r214)) (.ask ((y182==(3:Int))) (.opt (qBe n y187 y188 y189 y190) fun r215=>(.ask (decide (r215.size+(⟨#[58]⟩:BA).size≤9223372036854775807)) (.opt (qBe n y191 y192 y193 y194) fun r216=>(.ask (decide ((r215++(⟨#[58]⟩:BA)).size+r216.size≤9223372036854775807)) (.done ((r215++(⟨#[58]⟩:BA))++r216)) .fail)) .fail)) (.ask ((y182==(4:Int))) (.ask (decide (0≤(0:Int)∧(0:Int)<y195.length)) (.opt (y195[((0:Int)).toNat]?) fun e217=>(.ask (decide (e217.length=1)) (.opt (zC .i64 e217 0) fun y218=>(.opt (rec x0 y218 (5:Int)) fun r219=>(.ask (decide ((⟨#[45]⟩:BA).size+r219.size≤9223372036854775807)) (.done ((⟨#[45]⟩:BA)++r219)) .fail))) .fail)) .fail) (.ask ((y182==(5:Int))) (.opt (qCL n y183) fun r220=>(.ask (decide (0≤(0:Int)∧(0:Int)<y195.length)) (.opt (y195[((0:Int)).toNat]?) fun e221=>(.ask (decide (e221.length=1)) (.opt (zC .i64 e221 0) fun y222=>(.ask (decide (0≤(1:Int)∧(1:Int)<y195.length)) (.opt (y195[((1:Int)).toNat]?) fun e223=>(.ask (decide (e223.length=1)) (.opt (zC .i64 e223 0) fun y224=>(.opt (rec x0 y222 r220) fun r225=>(.opt (qCn n y183) fun r226=>(.ask (decide (r225.size+r226.size≤9223372036854775807)) (.opt (rec x0 y224 (IntKind.i64.wrap (r220+(1:Int)))) fun r227=>(.ask (decide ((r225++r226).size+r227.size≤9223372036854775807)) (.ask ((decide (r220<x2))) (.ask (decide ((⟨#[40]⟩:BA).size+((r225++r226)++r227).size≤9223372036854775807)) (.ask (decide (((⟨#[40]⟩:BA)++((r225++r226)++r227)).size+(⟨#[41]⟩:BA).size≤9223372036854775807)) (.done (((⟨#[40]⟩:BA)++((r225++r226)++r227))++(⟨#[41]⟩:BA))) .fail) .fail) (.done ((r225++r226)++r227))) .fail)) .fail)))) .fail)) .fail)) .fail)) .fail)) (.opt (qCb n y183) fun r228=>(.ask (decide (r228.size+(⟨#[40]⟩:BA).size≤9223372036854775807)) (.opt (zD (qBV rec n) n (x0,(r228++(⟨#[40]⟩:BA)),(0:Int),y182,y183,y184,y185,y186,y187,y188,y189,y190,y191,y192,y193,y194,y195)) fun r235=>(.ask (decide (r235.size+(⟨#[41]⟩:BA).size≤9223372036854775807)) (.done (r235++(⟨#[41]⟩:BA))) .fail)) .fail))))))))))))))))))))) .fail)) .fail)
def qn:Nat→RW→Int→Int→Option (BA)
 |0,_,_,_=>none
 |n+1,x0,x1,x2=>(qBp (qn n) n x0 x1 x2).run
abbrev qK3 (n:Nat) (ih:Ok (Rn n) qHm (qn n)):List (Ent (Rn n)):= [en (qN9 n),en (qHL n),en (qL6 n),en ih,en (qIx n),en (qJc n),en (qL0 n)]
def qL7 (n:Nat) (ih:Ok (Rn n) qHm (qn n)):LEnt (KB 137) (Rn n) n:=lok (zM 137) 125 ⟨⟨[(0,aL),(7,(.c (.ptr 0 448 0 0 0))),(10,aS),(11,aI)],[(448,⟨0,14,162,(.box [qI,qI,qI,qI,qS,qI,qI,qB,qB,qI,qI,qB,qB,qL])⟩)],[]⟩,[(.exit 1,⟨[(10,aS)],[],[]⟩)]⟩ (qBV (qn n) n) (qK3 n ih) [] fun _=>(by kernel_rfl)
theorem qGV:∀n,Ok (Rn n) qHm (qn n)
 |0=>ok0 fun _=>rfl
 |n+1=>stO (T:=qBp (qn n) n) (by kernel_rfl) (qK3 n (qGV n)) [qL7 n (qGV n)] (fun _=>(by kernel_rfl)) fun _=>(by kernel_rfl)
def qLN:Sg:=⟨94,[aL],[],⟨aS,[],[]⟩⟩
def qDG (n:Nat) (x0:RW):Tr (BA):=(.opt (qBL n x0) fun r180=>(.ask ((!r180)) (.done (⟨#[]⟩:BA)) (.opt (qn n x0 (IntKind.i64.wrap ((x0.length:Int)-(1:Int))) (0:Int)) fun r236=>(.ask ((decide ((r236.size:Int)>(200:Int)))) (.done (⟨#[]⟩:BA)) (.done r236)))))
def qBf:Nat→RW→Option (BA)
 |0,_=>none
 |n+1,x0=>(qDG n x0).run
abbrev qLO (n:Nat):List (Ent (Rn n)):= [en (qEd n),en (qGV n)]
theorem qKh:∀n,Ok (Rn n) qLN (qBf n)
 |0=>ok0 fun _=>rfl
 |n+1=>stO (T:=qDG n) (by kernel_rfl) (qLO n) [] (fun _=>(by kernel_rfl)) fun _=>(by kernel_rfl)
def qOB:Sg:=⟨95,[aS],[],⟨(.tup [(true,[qI,qI,qS]),(false,[qB])]),[],[]⟩⟩
def qBg (n:Nat) (v:BA×Bool×Int×Int×BA):Tr ((BA×Bool×Int×Int×BA)⊕((BA×Bool×Int×Int×BA))):=(.ask ((decide ((v.1.size:Int)>(1:Int)))) (.ask (decide (0≤(0:Int))) (.opt (v.1.toList[((0:Int)).toNat]?) fun c239=>(.ask (((c239.toNat:Int)==(48:Int))) (.ask (decide (0≤(1:Int)∧(1:Int)≤(v.1.size:Int)∧(v.1.size:Int)≤v.1.size)) (.done (.inl ((v.1.extract ((1:Int)).toNat ((v.1.size:Int)).toNat),v.2.1,v.2.2.1,v.2.2.2.1,v.2.2.2.2))) .fail) (.done (.inr ((v.1,v.2.1,v.2.2.1,v.2.2.2.1,v.2.2.2.2)))))) .fail) (.done (.inr ((v.1,v.2.1,v.2.2.1,v.2.2.2.1,v.2.2.2.2)))))
def qI5 (n:Nat) (x0:BA):Tr (Int×Int×BA×Bool):=(.ask ((decide ((x0.size:Int)>(0:Int)))) (.ask (decide (0≤(0:Int))) (.opt (x0.toList[((0:Int)).toNat]?) fun c238=>(.ask (((c238.toNat:Int)==(45:Int))) (.ask (decide (0≤(1:Int)∧(1:Int)≤(x0.size:Int)∧(x0.size:Int)≤x0.size)) (.ask (((x0.extract ((1:Int)).toNat ((x0.size:Int)).toNat).toList==(⟨#[]⟩:BA).toList)) (.done ((0:Int),(0:Int),(⟨#[]⟩:BA),false)) (.opt (zD (qBg n) n ((x0.extract ((1:Int)).toNat ((x0.size:Int)).toNat),((c238.toNat:Int)==(45:Int)),(0:Int),(0:Int),(⟨#[]⟩:BA))) fun r240=>(.opt (qu n r240.1 (16:Int)) fun r241=>(.ask (r240.2.1) (.ask (r241.2) (.opt (qZ n (1:Int) (IntKind.i64.wrap (0-r241.1)) (⟨#[]⟩:BA)) fun r242=>(.done ((1:Int),(IntKind.i64.wrap (0-r241.1)),(⟨#[]⟩:BA),r242))) (.done ((1:Int),(IntKind.i64.wrap (0-r241.1)),(⟨#[]⟩:BA),false))) (.ask (r241.2) (.opt (qZ n (1:Int) r241.1 (⟨#[]⟩:BA)) fun r243=>(.done ((1:Int),r241.1,(⟨#[]⟩:BA),r243))) (.done ((1:Int),r241.1,(⟨#[]⟩:BA),false))))))) .fail) (.ask ((x0.toList==(⟨#[]⟩:BA).toList)) (.done ((0:Int),(0:Int),(⟨#[]⟩:BA),false)) (.opt (zD (qBg n) n (x0,((c238.toNat:Int)==(45:Int)),(0:Int),(0:Int),(⟨#[]⟩:BA))) fun r244=>(.opt (qu n r244.1 (16:Int)) fun r245=>(.ask (r244.2.1) (.ask (r245.2) (.opt (qZ n (1:Int) (IntKind.i64.wrap (0-r245.1)) (⟨#[]⟩:BA)) fun r246=>(.done ((1:Int),(IntKind.i64.wrap (0-r245.1)),(⟨#[]⟩:BA),r246))) (.done ((1:Int),(IntKind.i64.wrap (0-r245.1)),(⟨#[]⟩:BA),false))) (.ask (r245.2) (.opt (qZ n (1:Int) r245.1 (⟨#[]⟩:BA)) fun r247=>(.done ((1:Int),r245.1,(⟨#[]⟩:BA),r247))) (.done ((1:Int),r245.1,(⟨#[]⟩:BA),false))))))))) .fail) (.ask ((x0.toList==(⟨#[]⟩:BA).toList)) (.done ((0:Int),(0:Int),(⟨#[]⟩:BA),false)) (.opt (zD (qBg n) n (x0,false,(0:Int),(0:Int),(⟨#[]⟩:BA))) fun r248=>(.opt (qu n r248.1 (16:Int)) fun r249=>(.ask (r248.2.1) (.ask (r249.2) (.opt (qZ n (1:Int) (IntKind.i64.wrap (0-r249.1)) (⟨#[]⟩:BA)) fun r250=>(.done ((1:Int),(IntKind.i64.wrap (0-r249.1)),(⟨#[]⟩:BA),r250))) (.done ((1:Int),(IntKind.i64.wrap (0-r249.1)),(⟨#[]⟩:BA),false))) (.ask (r249.2) (.opt (qZ n (1:Int) r249.1 (⟨#[]⟩:BA)) fun r251=>(.done ((1:Int),r249.1,(⟨#[]⟩:BA),r251))) (.done ((1:Int),r249.1,(⟨#[]⟩:BA),false))))))))
def qFi:Nat→BA→Option (Int×Int×BA×Bool)
 |0,_=>none
 |n+1,x0=>(qI5 n x0).run
abbrev qI6 (n:Nat):List (Ent (Rn n)):= [en (qHf n),en (qEC n)]
def qLP (n:Nat):LEnt (KB 95) (Rn n) n:=lok (zM 95) 62 ⟨⟨[(0,aS),(2,(.c (.ptr 0 128 0 0 0))),(4,aB)],[(128,⟨0,3,128,(.box [qI,qI,qS])⟩)],[]⟩,[(.exit 0,⟨[(0,aS),(2,(.c (.ptr 0 128 0 0 0))),(4,aB)],[(128,⟨0,3,128,(.box [qI,qI,qS])⟩)],[]⟩)]⟩ (qBg n) (qI6 n) [] fun _=>(by kernel_rfl)
theorem qMy:∀n,Ok (Rn n) qOB (qFi n)
 |0=>ok0 fun _=>rfl
 |n+1=>stO (T:=qI5 n) (by kernel_rfl) (qI6 n) [qLP n] (fun _=>(by kernel_rfl)) fun _=>(by kernel_rfl)
def qPJ:Sg:=⟨53,[aS],[],⟨(.tup [(false,[qS]),(false,[qB])]),[],[]⟩⟩
def qJh (n:Nat) (x0:BA):Tr (BA×Bool):=(.opt (qCJ n x0) fun r26=>(.ask ((!r26)) (.done ((⟨#[]⟩:BA),false)) (.ask ((x0.toList==(⟨#[]⟩:BA).toList)) (.done ((⟨#[]⟩:BA),true)) (.ask (decide (0≤(0:Int))) (.opt (x0.toList[((0:Int)).toNat]?) fun c27=>(.ask (((c27.toNat:Int)==(61:Int))) (.ask (decide (0≤(1:Int)∧(1:Int)≤(x0.size:Int)∧(x0.size:Int)≤x0.size)) (.opt (qDF n (x0.extract ((1:Int)).toNat ((x0.size:Int)).toNat)) fun r179=>(.opt (qBf n r179.1) fun r237=>(.ask ((!r179.2)) (.done ((⟨#[]⟩:BA),false)) (.ask ((r237.toList==(⟨#[]⟩:BA).toList)) (.done ((⟨#[]⟩:BA),false)) (.ask ((decide ((IntKind.i64.wrap ((r237.size:Int)+(1:Int)))>(200:Int)))) (.done ((⟨#[]⟩:BA),false)) (.ask (decide ((⟨#[61]⟩:BA).size+r237.size≤9223372036854775807)) (.done (((⟨#[61]⟩:BA)++r237),true)) .fail)))))) .fail) (.opt (qFi n x0) fun r252=>(.ask (r252.2.2.2) (.opt (qAR n r252.1 r252.2.1 r252.2.2.1) fun r253=>(.done (r253,true))) (.opt (qAI n x0) fun r254=>(.ask ((!r254.2.2.2)) (.opt (qAR n (2:Int) (0:Int) x0) fun r255=>(.ask ((decide ((r255.size:Int)>(200:Int)))) (.done ((⟨#[]⟩:BA),false)) (.done (r255,true)))) (.opt (qAR n r254.1 r254.2.1 r254.2.2.1) fun r256=>(.ask ((decide ((r256.size:Int)>(200:Int)))) (.done ((⟨#[]⟩:BA),false)) (.done (r256,true)))))))))) .fail))))
def qEf:Nat→BA→Option (BA×Bool)
 |0,_=>none
 |n+1,x0=>(qJh n x0).run
abbrev qPK (n:Nat):List (Ent (Rn n)):= [en (qFf n),en (qFx n),en (qKh n),en (qMy n),en (qHL n),en (qHK n)]
theorem qOC:∀n,Ok (Rn n) qPJ (qEf n)
 |0=>ok0 fun _=>rfl
 |n+1=>stO (T:=qJh n) (by kernel_rfl) (qPK n) [] (fun _=>(by kernel_rfl)) fun _=>(by kernel_rfl)
def qPL:Sg:=⟨88,[(.agg [qI,qI]),(.agg [qI,qI])],[],⟨aB,[],[]⟩⟩
def qGW (n:Nat) (x0 x1 x2 x3:Int):Tr (Bool):=(.ask ((decide (x1<x3))) (.done true) (.ask ((x1==x3)) (.done (decide (x0<x2))) (.done false)))
def qDe:Nat→Int→Int→Int→Int→Option (Bool)
 |0,_,_,_,_=>none
 |n+1,x0,x1,x2,x3=>(qGW n x0 x1 x2 x3).run
theorem qOD:∀n,Ok (Rn n) qPL (qDe n)
 |0=>ok0 fun _=>rfl
 |n+1=>stO (T:=qGW n) (by kernel_rfl) [] [] (fun _=>(by kernel_rfl)) fun _=>(by kernel_rfl)
def qPM:Sg:=⟨44,[aL],[],⟨aB,[],[]⟩⟩
def qEg (n:Nat) (v:RW×Int):Tr ((RW×Int)⊕((Bool)⊕(Unit))):=(.ask ((decide (v.2<(v.1.length:Int)))) (.ask (decide (0≤v.2∧v.2<v.1.length)) (.opt (v.1[(v.2).toNat]?) fun e19=>(.ask (decide (e19.length=3)) (.opt (zZ e19 2) fun y20=>(.opt (qEf n y20) fun r21=>(.ask (decide (0≤v.2∧v.2<v.1.length)) (.opt (v.1[(v.2).toNat]?) fun e22=>(.ask (decide (e22.length=3)) (.opt (zC .i64 e22 0) fun y23=>(.opt (zC .i64 e22 1) fun y24=>(.opt (qAJ n y23 y24) fun r25=>(.ask ((!r25)) (.done (.inr (.inl (false)))) (.ask ((!r21.2)) (.done (.inr (.inl (false)))) (.ask (decide (0≤v.2∧v.2<v.1.length)) (.opt (v.1[(v.2).toNat]?) fun e26=>(.ask (decide (e26.length=3)) (.opt (zZ e26 2) fun y27=>(.ask ((y27.toList==(⟨#[]⟩:BA).toList)) (.done (.inr (.inl (false)))) (.ask (decide (0≤v.2∧v.2<v.1.length)) (.opt (v.1[(v.2).toNat]?) fun e28=>(.ask (decide (e28.length=3)) (.opt (zZ e28 2) fun y29=>(.ask ((!(r21.1.toList==y29.toList))) (.done (.inr (.inl (false)))) (.ask ((decide (v.2>(0:Int)))) (.ask (decide (0≤(IntKind.i64.wrap (v.2-(1:Int)))∧(IntKind.i64.wrap (v.2-(1:Int)))<v.1.length)) (.opt (v.1[((IntKind.i64.wrap (v.2-(1:Int)))).toNat]?) fun e30=>(.ask (decide (e30.length=3)) (.opt (zC .i64 e30 0) fun y31=>(.opt (zC .i64 e30 1) fun y32=>(.ask (decide (0≤v.2∧v.2<v.1.length)) (.opt (v.1[(v.2).toNat]?) fun e33=>(.ask (decide (e33.length=3)) (.opt (zC .i64 e33 0) fun y34=>(.opt (zC .i64 e33 1) fun y35=>(.opt (qDe n y31 y32 y34 y35) fun r36=>(.ask ((!r36)) (.done (.inr (.inl (false)))) (.done (.inl (v.1,(IntKind.i64.wrap (v.2+(1:Int)))))))))) .fail)) .fail))) .fail)) .fail) (.done (.inl (v.1,(IntKind.i64.wrap (v.2+(1:Int))))))))) .fail)) .fail))) .fail)) .fail)))))) .fail)) .fail))) .fail)) .fail) (.done (.inr (.inr (())))))
def qJi (n:Nat) (x0:RW):Tr (Bool):=(.ask ((decide ((x0.length:Int)>(120:Int)))) (.done false) (.opt (zD (qEg n) n (x0,(0:Int))) fun r37=>(.alt r37 (fun r38=>(.done r38)) (fun r39=>(.done true)))))
def qGX:Nat→RW→Option (Bool)
 |0,_=>none
 |n+1,x0=>(qJi n x0).run
abbrev qJj (n:Nat):List (Ent (Rn n)):= [en (qOC n),en (qD7 n),en (qOD n)]
def qL8 (n:Nat):LEnt (KB 44) (Rn n) n:=lok (zM 44) 29 ⟨⟨[(0,aL),(3,aI)],[],[]⟩,[(.ret,⟨[(2,aB)],[],[]⟩),(.exit 0,⟨[],[],[]⟩)]⟩ (qEg n) (qJj n) [] fun _=>(by kernel_rfl)
theorem qOE:∀n,Ok (Rn n) qPM (qGX n)
 |0=>ok0 fun _=>rfl
 |n+1=>stO (T:=qJi n) (by kernel_rfl) (qJj n) [qL8 n] (fun _=>(by kernel_rfl)) fun _=>(by kernel_rfl)
def qRr:Sg:=⟨45,[aL,(.agg [qI,qI])],[],⟨aS,[],[]⟩⟩
def qGY (n:Nat) (v:RW×Int×Int×Int):Tr ((RW×Int×Int×Int)⊕((BA)⊕(Unit))):=(.ask ((decide (v.2.1<(v.1.length:Int)))) (.ask (decide (0≤v.2.1∧v.2.1<v.1.length)) (.opt (v.1[(v.2.1).toNat]?) fun e41=>(.ask (decide (e41.length=3)) (.opt (zC .i64 e41 0) fun y42=>(.opt (zC .i64 e41 1) fun y43=>(.ask (((y42==v.2.2.1)&&((y43==v.2.2.2)&&true))) (.ask (decide (0≤v.2.1∧v.2.1<v.1.length)) (.opt (v.1[(v.2.1).toNat]?) fun e44=>(.ask (decide (e44.length=3)) (.opt (zZ e44 2) fun y45=>(.done (.inr (.inl (y45))))) .fail)) .fail) (.done (.inl (v.1,(IntKind.i64.wrap (v.2.1+(1:Int))),v.2.2.1,v.2.2.2)))))) .fail)) .fail) (.done (.inr (.inr (())))))
def qNl (n:Nat) (x0:RW) (x1 x2:Int):Tr (BA):=(.opt (zD (qGY n) n (x0,(0:Int),x1,x2)) fun r46=>(.alt r46 (fun r47=>(.done r47)) (fun r48=>(.done (⟨#[]⟩:BA)))))
def qJk:Nat→RW→Int→Int→Option (BA)
 |0,_,_,_=>none
 |n+1,x0,x1,x2=>(qNl n x0 x1 x2).run
def qPN (n:Nat):LEnt (KB 45) (Rn n) n:=lok (zM 45) 13 ⟨⟨[(0,aL),(3,(.c (.ptr 0 192 0 0 0))),(5,aI)],[(192,⟨0,2,29,(.box [qI,qI])⟩)],[]⟩,[(.ret,⟨[(4,aS)],[],[]⟩),(.exit 0,⟨[],[],[]⟩)]⟩ (qGY n) [] [] fun _=>(by kernel_rfl)
theorem qRH:∀n,Ok (Rn n) qRr (qJk n)
 |0=>ok0 fun _=>rfl
 |n+1=>stO (T:=qNl n) (by kernel_rfl) [] [qPN n] (fun _=>(by kernel_rfl)) fun _=>(by kernel_rfl)
def qMz:Sg:=⟨155,[aS],[],⟨(.tup [(false,[qL]),(false,[qB])]),[],[]⟩⟩
def qE8 (n:Nat) (x0:BA):Tr (RW×Bool):=(.ask ((x0.toList==(⟨#[]⟩:BA).toList)) (.ask (decide (0=([]:RW).length)) (.done (([]:RW),false)) .fail) (.ask (decide (0≤(0:Int))) (.opt (x0.toList[((0:Int)).toNat]?) fun c50=>(.ask (((c50.toNat:Int) !=(61:Int))) (.ask (decide (0=([]:RW).length)) (.done (([]:RW),false)) .fail) (.ask (decide (0≤(1:Int)∧(1:Int)≤(x0.size:Int)∧(x0.size:Int)≤x0.size)) (.opt (qDF n (x0.extract ((1:Int)).toNat ((x0.size:Int)).toNat)) fun r51=>(.done (r51.1,r51.2))) .fail))) .fail))
def qE9:Nat→BA→Option (RW×Bool)
 |0,_=>none
 |n+1,x0=>(qE8 n x0).run
abbrev qM0 (n:Nat):List (Ent (Rn n)):= [en (qFx n)]
theorem qL9:∀n,Ok (Rn n) qMz (qE9 n)
 |0=>ok0 fun _=>rfl
 |n+1=>stO (T:=qE8 n) (by kernel_rfl) (qM0 n) [] (fun _=>(by kernel_rfl)) fun _=>(by kernel_rfl)
def qPO:Sg:=⟨156,[aL],[],⟨aL,[],[]⟩⟩
def qEh (n:Nat) (v:RW×Nat×Int×RW):Tr ((RW×Nat×Int×RW)⊕((Nat×RW))):=(.ask ((decide (v.2.2.1<(v.1.length:Int)))) (.ask (decide (0≤v.2.2.1∧v.2.2.1<v.1.length)) (.opt (v.1[(v.2.2.1).toNat]?) fun e54=>(.ask (decide (e54.length=14)) (.opt (zC .i64 e54 0) fun y55=>(.ask ((y55==(2:Int))) (.ask (decide (0≤v.2.2.1∧v.2.2.1<v.1.length)) (.opt (v.1[(v.2.2.1).toNat]?) fun e56=>(.ask (decide (e56.length=14)) (.opt (zC .i64 e56 5) fun y57=>(.opt (zC .i64 e56 6) fun y58=>(.ask (decide (0≤v.2.2.1∧v.2.2.1<v.1.length)) (.opt (v.1[(v.2.2.1).toNat]?) fun e59=>(.ask (decide (e59.length=14)) (.opt (zC .i64 e59 5) fun y60=>(.opt (zC .i64 e59 6) fun y61=>(.ask (decide (1=([[(.i .i64 y57),(.i .i64 y58),(.i .i64 y60),(.i .i64 y61)]]:RW).length)) (.ask (decide (v.2.1=v.2.2.2.length∧0<4∧0<32∧(v.2.1+([[(.i .i64 y57),(.i .i64 y58),(.i .i64 y60),(.i .i64 y61)]]:RW).length)*32≤140737488355328∧([[(.i .i64 y57),(.i .i64 y58),(.i .i64 y60),(.i .i64 y61)]]:RW).all (fun e=>e.length==4)=true)) (.done (.inl (v.1,(v.2.1+1),(IntKind.i64.wrap (v.2.2.1+(1:Int))),(v.2.2.2++([[(.i .i64 y57),(.i .i64 y58),(.i .i64 y60),(.i .i64 y61)]]:RW))))) .fail) .fail))) .fail)) .fail))) .fail)) .fail) (.ask ((y55==(3:Int))) (.ask (decide (0≤v.2.2.1∧v.2.2.1<v.1.length)) (.opt (v.1[(v.2.2.1).toNat]?) fun e62=>(.ask (decide (e62.length=14)) (.opt (zC .i64 e62 5) fun y63=>(.opt (zC .i64 e62 6) fun y64=>(.ask (decide (0≤v.2.2.1∧v.2.2.1<v.1.length)) (.opt (v.1[(v.2.2.1).toNat]?) fun e65=>(.ask (decide (e65.length=14)) (.opt (zC .i64 e65 9) fun y66=>(.opt (zC .i64 e65 10) fun y67=>(.ask (decide (1=([[(.i .i64 y63),(.i .i64 y64),(.i .i64 y66),(.i .i64 y67)]]:RW).length)) (.ask (decide (v.2.1=v.2.2.2.length∧0<4∧0<32∧(v.2.1+([[(.i .i64 y63),(.i .i64 y64),(.i .i64 y66),(.i .i64 y67)]]:RW).length)*32≤140737488355328∧([[(.i .i64 y63),(.i .i64 y64),(.i .i64 y66),(.i .i64 y67)]]:RW).all (fun e=>e.length==4)=true)) (.done (.inl (v.1,(v.2.1+1),(IntKind.i64.wrap (v.2.2.1+(1:Int))),(v.2.2.2++([[(.i .i64 y63),(.i .i64 y64),(.i .i64 y66),(.i .i64 y67)]]:RW))))) .fail) .fail))) .fail)) .fail))) .fail)) .fail) (.done (.inl (v.1,v.2.1,(IntKind.i64.wrap (v.2.2.1+(1:Int))),v.2.2.2)))))) .fail)) .fail) (.done (.inr ((v.2.1,v.2.2.2)))))
def qJl (n:Nat) (x0:RW):Tr (RW):=(.opt (qBL n x0) fun r53=>(.ask ((!r53)) (.ask (decide (0=([]:RW).length)) (.done ([]:RW)) .fail) (.opt (zD (qEh n) n (x0,(0:Nat),(0:Int),([]:RW))) fun r68=>(.ask (decide (r68.1=r68.2.length)) (.done r68.2) .fail))))
def qGZ:Nat→RW→Option (RW)
 |0,_=>none
 |n+1,x0=>(qJl n x0).run
abbrev qJm (n:Nat):List (Ent (Rn n)):= [en (qEd n)]
def qMA (n:Nat):LEnt (KB 156) (Rn n) n:=lok (zM 156) 61 ⟨⟨[(0,aL),(3,(.c (.own 0 320 0 0))),(4,aI)],[(320,⟨0,4,159,(.row [])⟩)],[]⟩,[(.exit 0,⟨[(3,(.c (.own 0 320 0 0)))],[(320,⟨0,4,159,(.row [])⟩)],[]⟩)]⟩ (qEh n) (qJm n) [] fun _=>(by kernel_rfl)
theorem qOF:∀n,Ok (Rn n) qPO (qGZ n)
 |0=>ok0 fun _=>rfl
 |n+1=>stO (T:=qJl n) (by kernel_rfl) (qJm n) [qMA n] (fun _=>(by kernel_rfl)) fun _=>(by kernel_rfl)
def qPP:Sg:=⟨116,[aS],[],⟨aL,[],[]⟩⟩
def qGa (n:Nat) (x0:BA):Tr (RW):=(.opt (qE9 n x0) fun r52=>(.ask ((!r52.2)) (.ask (decide (0=([]:RW).length)) (.done ([]:RW)) .fail) (.opt (qGZ n r52.1) fun r69=>(.done r69))))
def qGb:Nat→BA→Option (RW)
 |0,_=>none
 |n+1,x0=>(qGa n x0).run
abbrev qPQ (n:Nat):List (Ent (Rn n)):= [en (qL9 n),en (qOF n)]
theorem qOG:∀n,Ok (Rn n) qPP (qGb n)
 |0=>ok0 fun _=>rfl
 |n+1=>stO (T:=qGa n) (by kernel_rfl) (qPQ n) [] (fun _=>(by kernel_rfl)) fun _=>(by kernel_rfl)
def qOH:Sg:=⟨117,[(.agg [qI,qI]),(.agg [qI,qI,qI,qI])],[],⟨aB,[],[]⟩⟩
def qFj (n:Nat) (x0 x1 x2 x3 x4 x5:Int):Tr (Bool):=(.opt (qAu n x0 x2 x4) fun r79=>(.ask (r79) (.opt (qAu n x1 x3 x5) fun r80=>(.done r80)) (.done false)))
def qEE:Nat→Int→Int→Int→Int→Int→Int→Option (Bool)
 |0,_,_,_,_,_,_=>none
 |n+1,x0,x1,x2,x3,x4,x5=>(qFj n x0 x1 x2 x3 x4 x5).run
abbrev qOI (n:Nat):List (Ent (Rn n)):= [en (qDp n)]
theorem qM1:∀n,Ok (Rn n) qOH (qEE n)
 |0=>ok0 fun _=>rfl
 |n+1=>stO (T:=qFj n) (by kernel_rfl) (qOI n) [] (fun _=>(by kernel_rfl)) fun _=>(by kernel_rfl)
def qPR:Sg:=⟨75,[aL,(.agg [qI,qI])],[],⟨(.c (.own 0 0 0 0)),[],[⟨0,2,29,(.row [])⟩]⟩⟩
def qCv (n:Nat) (v:RW×Nat×RW×Int×Bool×Int×RW):Tr ((RW×Nat×RW×Int×Bool×Int×RW)⊕((RW×Nat×RW×Int×Bool×RW))):=(.ask ((decide (v.2.2.2.2.2.1<(v.2.2.1.length:Int)))) (.ask (v.2.2.2.2.1) (.done (.inl (v.1,v.2.1,v.2.2.1,v.2.2.2.1,true,(IntKind.i64.wrap (v.2.2.2.2.2.1+(1:Int))),v.2.2.2.2.2.2))) (.ask (decide (0≤v.2.2.2.1∧v.2.2.2.1<v.1.length)) (.opt (v.1[(v.2.2.2.1).toNat]?) fun e71=>(.ask (decide (e71.length=3)) (.opt (zC .i64 e71 0) fun y72=>(.opt (zC .i64 e71 1) fun y73=>(.ask (decide (0≤v.2.2.2.2.2.1∧v.2.2.2.2.2.1<v.2.2.1.length)) (.opt (v.2.2.1[(v.2.2.2.2.2.1).toNat]?) fun e74=>(.ask (decide (e74.length=4)) (.opt (zC .i64 e74 0) fun y75=>(.opt (zC .i64 e74 1) fun y76=>(.opt (zC .i64 e74 2) fun y77=>(.opt (zC .i64 e74 3) fun y78=>(.opt (qEE n y72 y73 y75 y76 y77 y78) fun r79=>(.done (.inl (v.1,v.2.1,v.2.2.1,v.2.2.2.1,r79,(IntKind.i64.wrap (v.2.2.2.2.2.1+(1:Int))),v.2.2.2.2.2.2)))))))) .fail)) .fail))) .fail)) .fail)) (.done (.inr ((v.1,v.2.1,v.2.2.1,v.2.2.2.1,v.2.2.2.2.1,v.2.2.2.2.2.2)))))
def qDZ (n:Nat) (v:RW×Nat×RW×Int×RW):Tr ((RW×Nat×RW×Int×RW)⊕((Nat×RW))):=(.ask ((decide (v.2.2.2.1<(v.1.length:Int)))) (.opt (zD (qCv n) n (v.1,v.2.1,v.2.2.1,v.2.2.2.1,false,(0:Int),v.2.2.2.2)) fun r80=>(.ask (r80.2.2.2.2.1) (.ask (decide (0≤r80.2.2.2.1∧r80.2.2.2.1<r80.1.length)) (.opt (r80.1[(r80.2.2.2.1).toNat]?) fun e81=>(.ask (decide (e81.length=3)) (.opt (zC .i64 e81 0) fun y82=>(.opt (zC .i64 e81 1) fun y83=>(.ask (decide (1=([[(.i .i64 y82),(.i .i64 y83)]]:RW).length)) (.ask (decide (r80.2.1=r80.2.2.2.2.2.length∧0<2∧0<16∧(r80.2.1+([[(.i .i64 y82),(.i .i64 y83)]]:RW).length)*16≤140737488355328∧([[(.i .i64 y82),(.i .i64 y83)]]:RW).all (fun e=>e.length==2)=true)) (.done (.inl (r80.1,(r80.2.1+1),r80.2.2.1,(IntKind.i64.wrap (r80.2.2.2.1+(1:Int))),(r80.2.2.2.2.2++([[(.i .i64 y82),(.i .i64 y83)]]:RW))))) .fail) .fail))) .fail)) .fail) (.done (.inl (r80.1,r80.2.1,r80.2.2.1,(IntKind.i64.wrap (r80.2.2.2.1+(1:Int))),r80.2.2.2.2.2))))) (.done (.inr ((v.2.1,v.2.2.2.2)))))
def qGc (n:Nat) (x0:RW) (x1 x2:Int):Tr (Nat×RW):=(.opt (qJk n x0 x1 x2) fun r49=>(.opt (qGb n r49) fun r70=>(.opt (zD (qDZ n) n (x0,(0:Nat),r70,(0:Int),([]:RW))) fun r84=>(.done (r84.1,r84.2)))))
def qGd:Nat→RW→Int→Int→Option (Nat×RW)
 |0,_,_,_=>none
 |n+1,x0,x1,x2=>(qGc n x0 x1 x2).run
abbrev qGe (n:Nat):List (Ent (Rn n)):= [en (qRH n),en (qOG n),en (qM1 n)]
def qKi (n:Nat):LEnt (lb 61 (KB 75)) (Rn n) n:=lok (Uniq.pick (zM 75) 61) 1973 ⟨⟨[(0,aL),(5,(.c (.own 0 640 0 0))),(6,aL),(7,aI),(8,aB),(9,aI)],[(640,⟨0,2,29,(.row [])⟩)],[]⟩,[(.exit 2,⟨[(0,aL),(5,(.c (.own 0 640 0 0))),(6,aL),(7,aI),(8,aB)],[(640,⟨0,2,29,(.row [])⟩)],[]⟩)]⟩ (qCv n) (qGe n) [] fun _=>(by kernel_rfl)
def qMB (n:Nat):LEnt (KB 75) (Rn n) n:=lok (zM 75) 61 ⟨⟨[(0,aL),(5,(.c (.own 0 640 0 0))),(6,aL),(7,aI)],[(640,⟨0,2,29,(.row [])⟩)],[]⟩,[(.exit 0,⟨[(5,(.c (.own 0 640 0 0)))],[(640,⟨0,2,29,(.row [])⟩)],[]⟩)]⟩ (qDZ n) (qGe n) [qKi n] fun _=>(by kernel_rfl)
theorem qOJ:∀n,Ok (Rn n) qPR (qGd n)
 |0=>ok0 fun _=>rfl
 |n+1=>stO (T:=qGc n) (by kernel_rfl) (qGe n) [qMB n] (fun _=>(by kernel_rfl)) fun _=>(by kernel_rfl)
def qPS:Sg:=⟨31,[aL,(.agg [qI,qI])],[],⟨(.c (.own 0 0 0 0)),[],[⟨0,2,29,(.row [])⟩]⟩⟩
def qGf (n:Nat) (x0:RW) (x1 x2:Int):Tr (Nat×RW):=(.opt (qGX n x0) fun r40=>(.ask ((!r40)) (.done ((0:Nat),([]:RW))) (.opt (qGd n x0 x1 x2) fun r85=>(.done (r85.1,r85.2)))))
def qEi:Nat→RW→Int→Int→Option (Nat×RW)
 |0,_,_,_=>none
 |n+1,x0,x1,x2=>(qGf n x0 x1 x2).run
abbrev qPT (n:Nat):List (Ent (Rn n)):= [en (qOE n),en (qOJ n)]
theorem qOK:∀n,Ok (Rn n) qPS (qEi n)
 |0=>ok0 fun _=>rfl
 |n+1=>stO (T:=qGf n) (by kernel_rfl) (qPT n) [] (fun _=>(by kernel_rfl)) fun _=>(by kernel_rfl)
def qQS:Sg:=⟨67,[aI,aI,aI],[],⟨aB,[],[]⟩⟩
def qHn (n:Nat) (x0 x1 x2:Int):Tr (Bool):=(.ask ((decide (x0≥x1))) (.done (decide (x0≤x2))) (.done false))
def qAM:Nat→Int→Int→Int→Option (Bool)
 |0,_,_,_=>none
 |n+1,x0,x1,x2=>(qHn n x0 x1 x2).run
theorem qC5:∀n,Ok (Rn n) qQS (qAM n)
 |0=>ok0 fun _=>rfl
 |n+1=>stO (T:=qHn n) (by kernel_rfl) [] [] (fun _=>(by kernel_rfl)) fun _=>(by kernel_rfl)
def qRI:Sg:=⟨89,[(.agg [qI,qI])],[],⟨aB,[],[]⟩⟩
def qIX (n:Nat) (x0 x1:Int):Tr (Bool):=(.opt (qAM n x0 (1:Int) (52:Int)) fun r93=>(.ask (r93) (.opt (qAM n x1 (1:Int) (99:Int)) fun r94=>(.done r94)) (.done false)))
def qBq:Nat→Int→Int→Option (Bool)
 |0,_,_=>none
 |n+1,x0,x1=>(qIX n x0 x1).run
abbrev qRJ (n:Nat):List (Ent (Rn n)):= [en (qC5 n)]
theorem qFP:∀n,Ok (Rn n) qRI (qBq n)
 |0=>ok0 fun _=>rfl
 |n+1=>stO (T:=qIX n) (by kernel_rfl) (qRJ n) [] (fun _=>(by kernel_rfl)) fun _=>(by kernel_rfl)
def qMC:Sg:=⟨166,[aI],[],⟨aB,[],[]⟩⟩
def qEj (n:Nat) (x0:Int):Tr (Bool):=(.done (x0 !=x0))
def qCe:Nat→Int→Option (Bool)
 |0,_=>none
 |n+1,x0=>(qEj n x0).run
theorem qLQ:∀n,Ok (Rn n) qMC (qCe n)
 |0=>ok0 fun _=>rfl
 |n+1=>stO (T:=qEj n) (by kernel_rfl) [] [] (fun _=>(by kernel_rfl)) fun _=>(by kernel_rfl)
def qKj:Sg:=⟨132,[aI,aI],[],⟨aI,[],[]⟩⟩
def qD0 (n:Nat) (x0 x1:Int):Tr (Int):=(.opt (qCe n x0) fun r99=>(.opt (qCe n x1) fun r100=>(.ask (r99) (.ask (r100) (.done (0:Int)) (.done (-1:Int))) (.ask (r100) (.done (1:Int)) (.ask ((decide (x0<x1))) (.done (-1:Int)) (.ask ((decide (x0>x1))) (.done (1:Int)) (.done (0:Int))))))))
def qB6:Nat→Int→Int→Option (Int)
 |0,_,_=>none
 |n+1,x0,x1=>(qD0 n x0 x1).run
abbrev qKk (n:Nat):List (Ent (Rn n)):= [en (qLQ n)]
theorem qJn:∀n,Ok (Rn n) qKj (qB6 n)
 |0=>ok0 fun _=>rfl
 |n+1=>stO (T:=qD0 n) (by kernel_rfl) (qKk n) [] (fun _=>(by kernel_rfl)) fun _=>(by kernel_rfl)
def qRK:Sg:=⟨131,[aL],[],⟨aI,[],[]⟩⟩
def qCY (n:Nat) (v:Int×RW×Int×Int):Tr ((Int×RW×Int×Int)⊕((Int)⊕(Int))):=(.ask ((decide (v.2.2.2<v.2.2.1))) (.ask (decide (0≤v.2.2.2∧v.2.2.2<v.2.1.length)) (.opt (v.2.1[(v.2.2.2).toNat]?) fun e103=>(.ask (decide (e103.length=1)) (.opt (zC .i64 e103 0) fun y104=>(.ask ((y104 !=v.1)) (.done (.inr (.inl (y104)))) (.done (.inl (v.1,v.2.1,v.2.2.1,(IntKind.i64.wrap (v.2.2.2+(1:Int)))))))) .fail)) .fail) (.done (.inr (.inr (v.1)))))
def qIY (n:Nat) (x0:RW):Tr (Int):=(.opt (zD (qCY n) n ((0:Int),x0,(x0.length:Int),(0:Int))) fun r105=>(.alt r105 (fun r106=>(.done r106)) (fun r107=>(.done r107))))
def qGB:Nat→RW→Option (Int)
 |0,_=>none
 |n+1,x0=>(qIY n x0).run
def qOL (n:Nat):LEnt (KB 131) (Rn n) n:=lok (zM 131) 29 ⟨⟨[(3,aI),(6,aL),(7,aI),(8,aI)],[],[]⟩,[(.ret,⟨[(2,aI)],[],[]⟩),(.exit 0,⟨[(3,aI)],[],[]⟩)]⟩ (qCY n) [] [] fun _=>(by kernel_rfl)
theorem qQT:∀n,Ok (Rn n) qRK (qGB n)
 |0=>ok0 fun _=>rfl
 |n+1=>stO (T:=qIY n) (by kernel_rfl) [] [qOL n] (fun _=>(by kernel_rfl)) fun _=>(by kernel_rfl)
def qLR:Sg:=⟨90,[(.agg [qI,qI]),(.agg [qI,qI])],[],⟨aI,[],[]⟩⟩
def qEI (n:Nat) (x0 x1 x2 x3:Int):Tr (Int):=(.opt (qB6 n x1 x3) fun r101=>(.opt (qB6 n x0 x2) fun r102=>(.ask (decide (2=([[(.i .i64 r101)],[(.i .i64 r102)]]:RW).length)) (.opt (qGB n ([[(.i .i64 r101)],[(.i .i64 r102)]]:RW)) fun r108=>(.ask (zl (⟨(.c (.p (.i .i64 r108))),[],[]⟩:Res)) (.done r108) .fail)) .fail)))
def qBh:Nat→Int→Int→Int→Int→Option (Int)
 |0,_,_,_,_=>none
 |n+1,x0,x1,x2,x3=>(qEI n x0 x1 x2 x3).run
abbrev qLS (n:Nat):List (Ent (Rn n)):= [en (qJn n),en (qQT n)]
theorem qKl:∀n,Ok (Rn n) qLR (qBh n)
 |0=>ok0 fun _=>rfl
 |n+1=>stO (T:=qEI n) (by kernel_rfl) (qLS n) [] (fun _=>(by kernel_rfl)) fun _=>(by kernel_rfl)
def qQU:Sg:=⟨158,[aS,aI],[],⟨aB,[],[]⟩⟩
def qBi (n:Nat) (v:BA×Int×Int×Int):Tr ((BA×Int×Int×Int)⊕((Bool)⊕(BA×Int))):=(.ask ((decide (v.2.2.2<v.2.2.1))) (.ask (decide (0≤v.2.2.2)) (.opt (v.1.toList[(v.2.2.2).toNat]?) fun c110=>(.ask ((decide ((c110.toNat:Int)<(32:Int)))) (.done (.inr (.inl (false)))) (.ask (decide (0≤v.2.2.2)) (.opt (v.1.toList[(v.2.2.2).toNat]?) fun c111=>(.ask ((decide ((c111.toNat:Int)>(126:Int)))) (.done (.inr (.inl (false)))) (.done (.inl (v.1,v.2.1,v.2.2.1,(IntKind.i64.wrap (v.2.2.2+(1:Int)))))))) .fail))) .fail) (.done (.inr (.inr ((v.1,v.2.1))))))
def qHo (n:Nat) (x0:BA) (x1:Int):Tr (Bool):=(.opt (zD (qBi n) n (x0,x1,(x0.size:Int),(0:Int))) fun r112=>(.alt r112 (fun r113=>(.done r113)) (fun r114=>(.done (decide ((r114.1.size:Int)≤r114.2))))))
def qCo:Nat→BA→Int→Option (Bool)
 |0,_,_=>none
 |n+1,x0,x1=>(qHo n x0 x1).run
def qM2 (n:Nat):LEnt (KB 158) (Rn n) n:=lok (zM 158) 13 ⟨⟨[(0,aS),(1,aI),(7,aI),(8,aI)],[],[]⟩,[(.ret,⟨[(4,aB)],[],[]⟩),(.exit 0,⟨[(0,aS),(1,aI)],[],[]⟩)]⟩ (qBi n) [] [] fun _=>(by kernel_rfl)
theorem qGg:∀n,Ok (Rn n) qQU (qCo n)
 |0=>ok0 fun _=>rfl
 |n+1=>stO (T:=qHo n) (by kernel_rfl) [] [qM2 n] (fun _=>(by kernel_rfl)) fun _=>(by kernel_rfl)
def qFy:Sg:=⟨118,[aS,aS],[],⟨(.tup [(false,[qS]),(false,[qB])]),[],[]⟩⟩
def qv:Nat→BA→BA→Option ((BA×Bool))
 |0,_,_=>none
 |n+1,x0,x1=>zX x0 x1
theorem qBv:∀n,Ok (Rn n) qFy (qv n)
 |0=>ok0 fun _=>rfl
 |n+1=>stL (by kernel_rfl) (fun a r e=>congrArg (Option.map fun r=>(qFy.Of r).v) e) rfl rfl rfl
def qGh:Sg:=⟨197,[aS,aS],[],⟨aS,[],[]⟩⟩
def qBJ:Nat→BA→BA→Option ((BA))
 |0,_,_=>none
 |n+1,x0,x1=>zO x0 x1
theorem qD1:∀n,Ok (Rn n) qGh (qBJ n)
 |0=>ok0 fun _=>rfl
 |n+1=>stL (by kernel_rfl) (fun a r e=>congrArg (Option.map fun r=>(qGh.Of r).v) e) rfl rfl rfl
def qJo:Sg:=⟨160,[(.c (.ptr 0 0 0 0 0))],[[(0,⟨0,3,198,(.box [qS,(.own 0 1 1 0),qB])⟩),(1,⟨1,14,162,(.row [])⟩)]],⟨(.tup []),[[(0,⟨0,3,198,(.box [qS,(.own 0 1 1 0),qB])⟩),(1,⟨1,14,162,(.row [])⟩)]],[]⟩⟩
def qDf (n:Nat) (x0:BA) (x1:Nat) (x2:Bool) (x3:RW):Tr (BA×Nat×Bool×RW):=(.opt (qBJ n x0 (⟨#[32]⟩:BA)) fun r118=>(.done (r118,x1,x2,x3)))
def qAv:Nat→BA→Nat→Bool→RW→Option (BA×Nat×Bool×RW)
 |0,_,_,_,_=>none
 |n+1,x0,x1,x2,x3=>(qDf n x0 x1 x2 x3).run
abbrev qJp (n:Nat):List (Ent (Rn n)):= [en (qD1 n)]
theorem qCR:∀n,Ok (Rn n) qJo (qAv n)
 |0=>ok0 fun _=>rfl
 |n+1=>stO (T:=qDf n) (by kernel_rfl) (qJp n) [] (fun _=>(by kernel_rfl)) fun _=>(by kernel_rfl)
def qEk:Sg:=⟨190,[aS,aS],[],⟨aB,[],[]⟩⟩
def qAs (n:Nat) (x0 x1:BA):Tr (Bool):=(.ask ((decide ((x0.size:Int)≥(x1.size:Int)))) (.ask (decide (0≤(0:Int)∧(0:Int)≤(x1.size:Int)∧(x1.size:Int)≤x0.size)) (.done ((x0.extract ((0:Int)).toNat ((x1.size:Int)).toNat).toList==x1.toList)) .fail) (.done false))
def qAA:Nat→BA→BA→Option (Bool)
 |0,_,_=>none
 |n+1,x0,x1=>(qAs n x0 x1).run
theorem qCU:∀n,Ok (Rn n) qEk (qAA n)
 |0=>ok0 fun _=>rfl
 |n+1=>stO (T:=qAs n) (by kernel_rfl) [] [] (fun _=>(by kernel_rfl)) fun _=>(by kernel_rfl)
def qKm:Sg:=⟨204,[aS,aS],[],⟨aB,[],[]⟩⟩
def qB7 (n:Nat) (x0 x1:BA):Tr (Bool):=(.opt (qAA n x0 x1) fun r122=>(.done r122))
def ql:Nat→BA→BA→Option (Bool)
 |0,_,_=>none
 |n+1,x0,x1=>(qB7 n x0 x1).run
abbrev qKn (n:Nat):List (Ent (Rn n)):= [en (qCU n)]
theorem qCf:∀n,Ok (Rn n) qKm (ql n)
 |0=>ok0 fun _=>rfl
 |n+1=>stO (T:=qB7 n) (by kernel_rfl) (qKn n) [] (fun _=>(by kernel_rfl)) fun _=>(by kernel_rfl)
def qLT:Sg:=⟨192,[(.c (.ptr 0 0 0 0 0))],[[(0,⟨0,3,198,(.box [qS,(.own 0 1 1 0),qB])⟩),(1,⟨1,14,162,(.row [])⟩)]],⟨aS,[[(0,⟨0,3,198,(.box [qS,(.own 0 1 1 0),qB])⟩),(1,⟨1,14,162,(.row [])⟩)]],[]⟩⟩
def qCS (n:Nat) (v:Nat×Int×Int×RW×BA×Nat×Bool×RW):Tr ((Nat×Int×Int×RW×BA×Nat×Bool×RW)⊕((BA×BA×Nat×Bool×RW)⊕(BA×Nat×Bool×RW))):=(.ask ((decide (v.2.2.1<v.2.1))) (.ask (decide (v.1=v.2.2.2.1.length∧0≤v.2.2.1∧v.2.2.1<((v.1:Nat):Int))) (.opt (v.2.2.2.1[(v.2.2.1).toNat]?) fun e120=>(.opt (zZ e120 0) fun y121=>(.opt (ql n v.2.2.2.2.1 y121) fun r122=>(.ask (r122) (.done (.inr (.inl ((y121,v.2.2.2.2.1,v.2.2.2.2.2.1,v.2.2.2.2.2.2.1,v.2.2.2.2.2.2.2))))) (.done (.inl (v.1,v.2.1,(IntKind.i64.wrap (v.2.2.1+(1:Int))),v.2.2.2.1,v.2.2.2.2.1,v.2.2.2.2.2.1,v.2.2.2.2.2.2.1,v.2.2.2.2.2.2.2))))))) .fail) (.done (.inr (.inr ((v.2.2.2.2.1,v.2.2.2.2.2.1,v.2.2.2.2.2.2.1,v.2.2.2.2.2.2.2))))))
def qGi (n:Nat) (x0:BA) (x1:Nat) (x2:Bool) (x3:RW):Tr (BA×BA×Nat×Bool×RW):=(.opt (qAv n x0 x1 x2 x3) fun r119=>(.opt (zD (qCS n) n ((15:Nat),(15:Int),(0:Int),([[(.s (⟨#[60,62]⟩:BA))],[(.s (⟨#[60,61]⟩:BA))],[(.s (⟨#[62,61]⟩:BA))],[(.s (⟨#[60]⟩:BA))],[(.s (⟨#[62]⟩:BA))],[(.s (⟨#[61]⟩:BA))],[(.s (⟨#[38]⟩:BA))],[(.s (⟨#[43]⟩:BA))],[(.s (⟨#[45]⟩:BA))],[(.s (⟨#[42]⟩:BA))],[(.s (⟨#[47]⟩:BA))],[(.s (⟨#[40]⟩:BA))],[(.s (⟨#[41]⟩:BA))],[(.s (⟨#[44]⟩:BA))],[(.s (⟨#[58]⟩:BA))]]:RW),r119.1,r119.2.1,r119.2.2.1,r119.2.2.2)) fun r123=>(.alt r123 (fun r124=>(.done (r124.1,r124.2.1,r124.2.2.1,r124.2.2.2.1,r124.2.2.2.2))) (fun r125=>(.done ((⟨#[]⟩:BA),r125.1,r125.2.1,r125.2.2.1,r125.2.2.2))))))
def qBj:Nat→BA→Nat→Bool→RW→Option (BA×BA×Nat×Bool×RW)
 |0,_,_,_,_=>none
 |n+1,x0,x1,x2,x3=>(qGi n x0 x1 x2 x3).run
abbrev qGj (n:Nat):List (Ent (Rn n)):= [en (qCR n),en (qCf n)]
def qJJ (n:Nat):LEnt (KB 192) (Rn n) n:=lok (zM 192) 29 ⟨⟨[(0,(.c (.ptr 0 0 0 0 0))),(7,(.c (.own 1 448 0 0))),(8,aI),(9,aI)],[(448,⟨0,1,9,(.row [])⟩)],[[(0,⟨0,3,198,(.box [qS,(.own 0 1 1 0),qB])⟩),(1,⟨1,14,162,(.row [])⟩)]]⟩,[(.ret,⟨[(2,aS)],[],[[(0,⟨0,3,198,(.box [qS,(.own 0 1 1 0),qB])⟩),(1,⟨1,14,162,(.row [])⟩)]]⟩),(.exit 0,⟨[],[],[[(0,⟨0,3,198,(.box [qS,(.own 0 1 1 0),qB])⟩),(1,⟨1,14,162,(.row [])⟩)]]⟩)]⟩ (qCS n) (qGj n) [] fun _=>(by kernel_rfl)
theorem qFz:∀n,Ok (Rn n) qLT (qBj n)
 |0=>ok0 fun _=>rfl
 |n+1=>stO (T:=qGi n) (by kernel_rfl) (qGj n) [qJJ n] (fun _=>(by kernel_rfl)) fun _=>(by kernel_rfl)
def qLU:Sg:=⟨195,[(.c (.ptr 0 0 0 0 0)),aS],[[(0,⟨0,3,198,(.box [qS,(.own 0 1 1 0),qB])⟩),(1,⟨1,14,162,(.row [])⟩)]],⟨aB,[[(0,⟨0,3,198,(.box [qS,(.own 0 1 1 0),qB])⟩),(1,⟨1,14,162,(.row [])⟩)]],[]⟩⟩
def qGk (n:Nat) (x0 x1:BA) (x2:Nat) (x3:Bool) (x4:RW):Tr (Bool×BA×Nat×Bool×RW):=(.opt (qBj n x1 x2 x3 x4) fun r126=>(.ask ((!(r126.1.toList==x0.toList))) (.done (false,r126.2.1,r126.2.2.1,r126.2.2.2.1,r126.2.2.2.2)) (.ask (decide (0≤(x0.size:Int)∧(x0.size:Int)≤(r126.2.1.size:Int)∧(r126.2.1.size:Int)≤r126.2.1.size)) (.done (true,(r126.2.1.extract ((x0.size:Int)).toNat ((r126.2.1.size:Int)).toNat),r126.2.2.1,r126.2.2.2.1,r126.2.2.2.2)) .fail)))
def qo:Nat→BA→BA→Nat→Bool→RW→Option (Bool×BA×Nat×Bool×RW)
 |0,_,_,_,_,_=>none
 |n+1,x0,x1,x2,x3,x4=>(qGk n x0 x1 x2 x3 x4).run
abbrev qLV (n:Nat):List (Ent (Rn n)):= [en (qFz n)]
theorem qB8:∀n,Ok (Rn n) qLU (qo n)
 |0=>ok0 fun _=>rfl
 |n+1=>stO (T:=qGk n) (by kernel_rfl) (qLV n) [] (fun _=>(by kernel_rfl)) fun _=>(by kernel_rfl)
def qMD:Sg:=⟨196,[(.c (.ptr 0 0 0 0 0)),(.agg [qI,qI,qI,qI,qS,qI,qI,qB,qB,qI,qI,qB,qB,qL])],[[(0,⟨0,3,198,(.box [qS,(.own 0 1 1 0),qB])⟩),(1,⟨1,14,162,(.row [])⟩)]],⟨aI,[[(0,⟨0,3,198,(.box [qS,(.own 0 1 1 0),qB])⟩),(1,⟨1,14,162,(.row [])⟩)]],[]⟩⟩
def qHM (n:Nat) (x0 x1 x2 x3:Int) (x4:BA) (x5 x6:Int) (x7 x8:Bool) (x9 x10:Int) (x11 x12:Bool) (x13:RW) (x14:BA) (x15:Nat) (x16:Bool) (x17:RW):Tr (Int×BA×Nat×Bool×RW):=(.ask (x16) (.ask (false) (.ask (decide (1=([[(.i .i64 x0),(.i .i64 x1),(.i .i64 x2),(.i .i64 x3),(.s x4),(.i .i64 x5),(.i .i64 x6),(.b x7),(.b x8),(.i .i64 x9),(.i .i64 x10),(.b x11),(.b x12),(.ls x13)]]:RW).length)) (.ask (decide (x15=x17.length∧0<14∧0<120∧(x15+([[(.i .i64 x0),(.i .i64 x1),(.i .i64 x2),(.i .i64 x3),(.s x4),(.i .i64 x5),(.i .i64 x6),(.b x7),(.b x8),(.i .i64 x9),(.i .i64 x10),(.b x11),(.b x12),(.ls x13)]]:RW).length)*120≤140737488355328∧([[(.i .i64 x0),(.i .i64 x1),(.i .i64 x2),(.i .i64 x3),(.s x4),(.i .i64 x5),(.i .i64 x6),(.b x7),(.b x8),(.i .i64 x9),(.i .i64 x10),(.b x11),(.b x12),(.ls x13)]]:RW).all (fun e=>e.length==14)=true)) (.done ((IntKind.i64.wrap ((((x15+1):Nat):Int)-(1:Int))),x14,(x15+1),true,(x17++([[(.i .i64 x0),(.i .i64 x1),(.i .i64 x2),(.i .i64 x3),(.s x4),(.i .i64 x5),(.i .i64 x6),(.b x7),(.b x8),(.i .i64 x9),(.i .i64 x10),(.b x11),(.b x12),(.ls x13)]]:RW)))) .fail) .fail) (.done ((IntKind.i64.wrap (((x15:Nat):Int)-(1:Int))),x14,x15,true,x17))) (.ask ((!(decide (((x15:Nat):Int)≥(60:Int))))) (.ask (decide (1=([[(.i .i64 x0),(.i .i64 x1),(.i .i64 x2),(.i .i64 x3),(.s x4),(.i .i64 x5),(.i .i64 x6),(.b x7),(.b x8),(.i .i64 x9),(.i .i64 x10),(.b x11),(.b x12),(.ls x13)]]:RW).length)) (.ask (decide (x15=x17.length∧0<14∧0<120∧(x15+([[(.i .i64 x0),(.i .i64 x1),(.i .i64 x2),(.i .i64 x3),(.s x4),(.i .i64 x5),(.i .i64 x6),(.b x7),(.b x8),(.i .i64 x9),(.i .i64 x10),(.b x11),(.b x12),(.ls x13)]]:RW).length)*120≤140737488355328∧([[(.i .i64 x0),(.i .i64 x1),(.i .i64 x2),(.i .i64 x3),(.s x4),(.i .i64 x5),(.i .i64 x6),(.b x7),(.b x8),(.i .i64 x9),(.i .i64 x10),(.b x11),(.b x12),(.ls x13)]]:RW).all (fun e=>e.length==14)=true)) (.done ((IntKind.i64.wrap ((((x15+1):Nat):Int)-(1:Int))),x14,(x15+1),(decide (((x15:Nat):Int)≥(60:Int))),(x17++([[(.i .i64 x0),(.i .i64 x1),(.i .i64 x2),(.i .i64 x3),(.s x4),(.i .i64 x5),(.i .i64 x6),(.b x7),(.b x8),(.i .i64 x9),(.i .i64 x10),(.b x11),(.b x12),(.ls x13)]]:RW)))) .fail) .fail) (.done ((IntKind.i64.wrap (((x15:Nat):Int)-(1:Int))),x14,x15,(decide (((x15:Nat):Int)≥(60:Int))),x17))))
def qp:Nat→Int→Int→Int→Int→BA→Int→Int→Bool→Bool→Int→Int→Bool→Bool→RW→BA→Nat→Bool→RW→Option (Int×BA×Nat×Bool×RW)
 |0,_,_,_,_,_,_,_,_,_,_,_,_,_,_,_,_,_,_=>none
 |n+1,x0,x1,x2,x3,x4,x5,x6,x7,x8,x9,x10,x11,x12,x13,x14,x15,x16,x17=>(qHM n x0 x1 x2 x3 x4 x5 x6 x7 x8 x9 x10 x11 x12 x13 x14 x15 x16 x17).run
theorem qCM:∀n,Ok (Rn n) qMD (qp n)
 |0=>ok0 fun _=>rfl
 |n+1=>stO (T:=qHM n) (by kernel_rfl) [] [] (fun _=>(by kernel_rfl)) fun _=>(by kernel_rfl)
def qK4:Sg:=⟨261,[aS,aS],[],⟨(.tup [(false,[qS]),(false,[qS]),(false,[qB])]),[],[]⟩⟩
def qHp:Nat→BA→BA→Option ((BA×BA×Bool))
 |0,_,_=>none
 |n+1,x0,x1=>zAP x0 x1
theorem qPU:∀n,Ok (Rn n) qK4 (qHp n)
 |0=>ok0 fun _=>rfl
 |n+1=>stL (by kernel_rfl) (fun a r e=>congrArg (Option.map fun r=>(qK4.Of r).v) e) rfl rfl rfl
def qIZ:Sg:=⟨244,[(.c (.ptr 0 0 0 0 0)),(.agg [qI,qI,qS])],[[(0,⟨0,3,198,(.box [qS,(.own 0 1 1 0),qB])⟩),(1,⟨1,14,162,(.row [])⟩)]],⟨aI,[[(0,⟨0,3,198,(.box [qS,(.own 0 1 1 0),qB])⟩),(1,⟨1,14,162,(.row [])⟩)]],[]⟩⟩
def qEl (n:Nat) (x0 x1:Int) (x2 x3:BA) (x4:Nat) (x5:Bool) (x6:RW):Tr (Int×BA×Nat×Bool×RW):=(.opt (qp n (1:Int) (0:Int) x0 x1 x2 (0:Int) (0:Int) false false (0:Int) (0:Int) false false ([]:RW) x3 x4 x5 x6) fun r137=>(.done (r137.1,r137.2.1,r137.2.2.1,r137.2.2.2.1,r137.2.2.2.2)))
def qj:Nat→Int→Int→BA→BA→Nat→Bool→RW→Option (Int×BA×Nat×Bool×RW)
 |0,_,_,_,_,_,_,_=>none
 |n+1,x0,x1,x2,x3,x4,x5,x6=>(qEl n x0 x1 x2 x3 x4 x5 x6).run
abbrev qIa (n:Nat):List (Ent (Rn n)):= [en (qCM n)]
theorem qER:∀n,Ok (Rn n) qIZ (qj n)
 |0=>ok0 fun _=>rfl
 |n+1=>stO (T:=qEl n) (by kernel_rfl) (qIa n) [] (fun _=>(by kernel_rfl)) fun _=>(by kernel_rfl)
def qJq:Sg:=⟨243,[(.c (.ptr 0 0 0 0 0))],[[(0,⟨0,3,198,(.box [qS,(.own 0 1 1 0),qB])⟩),(1,⟨1,14,162,(.row [])⟩)]],⟨aI,[[(0,⟨0,3,198,(.box [qS,(.own 0 1 1 0),qB])⟩),(1,⟨1,14,162,(.row [])⟩)]],[]⟩⟩
def qC6 (n:Nat) (v:BA×BA×BA×Nat×Bool×RW):Tr ((BA×BA×BA×Nat×Bool×RW)⊕((Int×BA×Nat×Bool×RW)⊕(BA×BA×BA×Nat×Bool×RW))):=(.opt (qHp n v.2.1 (⟨#[34]⟩:BA)) fun r132=>(.ask ((!r132.2.2)) (.done (.inr (.inl (((-1:Int),v.2.2.1,v.2.2.2.1,true,v.2.2.2.2.2))))) (.ask (decide (v.1.size+r132.1.size≤9223372036854775807)) (.opt (ql n r132.2.1 (⟨#[34]⟩:BA)) fun r133=>(.ask ((!r133)) (.done (.inr (.inr (((v.1++r132.1),r132.2.1,v.2.2.1,v.2.2.2.1,v.2.2.2.2.1,v.2.2.2.2.2))))) (.ask (decide ((v.1++r132.1).size+(⟨#[34]⟩:BA).size≤9223372036854775807)) (.ask (decide (0≤(1:Int)∧(1:Int)≤(r132.2.1.size:Int)∧(r132.2.1.size:Int)≤r132.2.1.size)) (.done (.inl (((v.1++r132.1)++(⟨#[34]⟩:BA)),(r132.2.1.extract ((1:Int)).toNat ((r132.2.1.size:Int)).toNat),v.2.2.1,v.2.2.2.1,v.2.2.2.2.1,v.2.2.2.2.2))) .fail) .fail))) .fail)))
def qFT (n:Nat) (x0:BA) (x1:Nat) (x2:Bool) (x3:RW):Tr (Int×BA×Nat×Bool×RW):=(.ask (decide (0≤(1:Int)∧(1:Int)≤(x0.size:Int)∧(x0.size:Int)≤x0.size)) (.opt (zD (qC6 n) n ((⟨#[]⟩:BA),(x0.extract ((1:Int)).toNat ((x0.size:Int)).toNat),x0,x1,x2,x3)) fun r134=>(.alt r134 (fun r135=>(.done (r135.1,r135.2.1,r135.2.2.1,r135.2.2.2.1,r135.2.2.2.2))) (fun r136=>(.opt (qj n (2:Int) (0:Int) r136.1 r136.2.1 r136.2.2.2.1 r136.2.2.2.2.1 r136.2.2.2.2.2) fun r138=>(.done (r138.1,r138.2.1,r138.2.2.1,r138.2.2.2.1,r138.2.2.2.2)))))) .fail)
def qDg:Nat→BA→Nat→Bool→RW→Option (Int×BA×Nat×Bool×RW)
 |0,_,_,_,_=>none
 |n+1,x0,x1,x2,x3=>(qFT n x0 x1 x2 x3).run
abbrev qFU (n:Nat):List (Ent (Rn n)):= [en (qPU n),en (qCf n),en (qER n)]
def qID (n:Nat):LEnt (KB 243) (Rn n) n:=lok (zM 243) 14 ⟨⟨[(0,(.c (.ptr 0 0 0 0 0))),(3,aS),(4,aS)],[],[[(0,⟨0,3,198,(.box [qS,(.own 0 1 1 0),qB])⟩),(1,⟨1,14,162,(.row [])⟩)]]⟩,[(.ret,⟨[(2,aI)],[],[[(0,⟨0,3,198,(.box [qS,(.own 0 1 1 0),qB])⟩),(1,⟨1,14,162,(.row [])⟩)]]⟩),(.exit 0,⟨[(0,(.c (.ptr 0 0 0 0 0))),(3,aS),(4,aS)],[],[[(0,⟨0,3,198,(.box [qS,(.own 0 1 1 0),qB])⟩),(1,⟨1,14,162,(.row [])⟩)]]⟩)]⟩ (qC6 n) (qFU n) [] fun _=>(by kernel_rfl)
theorem qJK:∀n,Ok (Rn n) qJq (qDg n)
 |0=>ok0 fun _=>rfl
 |n+1=>stO (T:=qFT n) (by kernel_rfl) (qFU n) [qID n] (fun _=>(by kernel_rfl)) fun _=>(by kernel_rfl)
def qM3:Sg:=⟨205,[aI],[],⟨aS,[],[]⟩⟩
def qFA (n:Nat) (x0:Int):Tr (BA):=(.ask (decide (6=([[(.s (⟨#[]⟩:BA))],[(.s (⟨#[35,68,73,86,33]⟩:BA))],[(.s (⟨#[35,84,89,80,69,33]⟩:BA))],[(.s (⟨#[35,82,69,70,33]⟩:BA))],[(.s (⟨#[35,79,86,69,82,33]⟩:BA))],[(.s (⟨#[35,67,89,67,76,69,33]⟩:BA))]]:RW).length∧0≤x0∧x0<((6:Nat):Int))) (.opt (([[(.s (⟨#[]⟩:BA))],[(.s (⟨#[35,68,73,86,33]⟩:BA))],[(.s (⟨#[35,84,89,80,69,33]⟩:BA))],[(.s (⟨#[35,82,69,70,33]⟩:BA))],[(.s (⟨#[35,79,86,69,82,33]⟩:BA))],[(.s (⟨#[35,67,89,67,76,69,33]⟩:BA))]]:RW)[(x0).toNat]?) fun e141=>(.opt (zZ e141 0) fun y142=>(.done y142))) .fail)
def qAf:Nat→Int→Option (BA)
 |0,_=>none
 |n+1,x0=>(qFA n x0).run
theorem qEm:∀n,Ok (Rn n) qM3 (qAf n)
 |0=>ok0 fun _=>rfl
 |n+1=>stO (T:=qFA n) (by kernel_rfl) [] [] (fun _=>(by kernel_rfl)) fun _=>(by kernel_rfl)
def qRL:Sg:=⟨206,[aI],[],⟨(.agg [qI,qI,qS]),[],[]⟩⟩
def qIb (n:Nat) (x0:Int):Tr (Int×Int×BA):=(.done ((4:Int),x0,(⟨#[]⟩:BA)))
def qBr:Nat→Int→Option (Int×Int×BA)
 |0,_=>none
 |n+1,x0=>(qIb n x0).run
theorem qK5:∀n,Ok (Rn n) qRL (qBr n)
 |0=>ok0 fun _=>rfl
 |n+1=>stO (T:=qIb n) (by kernel_rfl) [] [] (fun _=>(by kernel_rfl)) fun _=>(by kernel_rfl)
def qLW:Sg:=⟨245,[(.c (.ptr 0 0 0 0 0))],[[(0,⟨0,3,198,(.box [qS,(.own 0 1 1 0),qB])⟩),(1,⟨1,14,162,(.row [])⟩)]],⟨aS,[[(0,⟨0,3,198,(.box [qS,(.own 0 1 1 0),qB])⟩),(1,⟨1,14,162,(.row [])⟩)]],[]⟩⟩
def qGl (n:Nat) (x0:BA) (x1:Nat) (x2:Bool) (x3:RW):Tr (BA×BA×Nat×Bool×RW):=(.opt (qAv n x0 x1 x2 x3) fun r148=>(.opt (qBJ n r148.1 (⟨#[65,66,67,68,69,70,71,72,73,74,75,76,77,78,79,80,81,82,83,84,85,86,87,88,89,90,48,49,50,51,52,53,54,55,56,57,36]⟩:BA)) fun r149=>(.ask (decide (0≤(0:Int)∧(0:Int)≤(IntKind.i64.wrap ((r148.1.size:Int)-(r149.size:Int)))∧(IntKind.i64.wrap ((r148.1.size:Int)-(r149.size:Int)))≤r148.1.size)) (.ask (decide (0≤(IntKind.i64.wrap ((r148.1.size:Int)-(r149.size:Int)))∧(IntKind.i64.wrap ((r148.1.size:Int)-(r149.size:Int)))≤(r148.1.size:Int)∧(r148.1.size:Int)≤r148.1.size)) (.done ((r148.1.extract ((0:Int)).toNat ((IntKind.i64.wrap ((r148.1.size:Int)-(r149.size:Int)))).toNat),(r148.1.extract ((IntKind.i64.wrap ((r148.1.size:Int)-(r149.size:Int)))).toNat ((r148.1.size:Int)).toNat),r148.2.1,r148.2.2.1,r148.2.2.2)) .fail) .fail)))
def qBK:Nat→BA→Nat→Bool→RW→Option (BA×BA×Nat×Bool×RW)
 |0,_,_,_,_=>none
 |n+1,x0,x1,x2,x3=>(qGl n x0 x1 x2 x3).run
abbrev qLX (n:Nat):List (Ent (Rn n)):= [en (qCR n),en (qD1 n)]
theorem qF0:∀n,Ok (Rn n) qLW (qBK n)
 |0=>ok0 fun _=>rfl
 |n+1=>stO (T:=qGl n) (by kernel_rfl) (qLX n) [] (fun _=>(by kernel_rfl)) fun _=>(by kernel_rfl)
def qPV:Sg:=⟨170,[(.agg [qI,qI,qS])],[],⟨aB,[],[]⟩⟩
def qGm (n:Nat) (x0 x1:Int) (x2:BA):Tr (Bool):=(.ask ((x0==(2:Int))) (.ask ((x1==(0:Int))) (.opt (qCo n x2 (200:Int)) fun r152=>(.done r152)) (.done false)) (.ask ((!(x2.toList==(⟨#[]⟩:BA).toList))) (.done false) (.ask ((x0==(0:Int))) (.done (x1==(0:Int))) (.ask ((x0==(1:Int))) (.opt (qAM n x1 (-1000000000000000:Int) (1000000000000000:Int)) fun r153=>(.done r153)) (.ask ((x0==(3:Int))) (.opt (qAM n x1 (0:Int) (1:Int)) fun r154=>(.done r154)) (.ask ((x0==(4:Int))) (.opt (qAM n x1 (1:Int) (5:Int)) fun r155=>(.done r155)) (.done false)))))))
def qAS:Nat→Int→Int→BA→Option (Bool)
 |0,_,_,_=>none
 |n+1,x0,x1,x2=>(qGm n x0 x1 x2).run
abbrev qPW (n:Nat):List (Ent (Rn n)):= [en (qGg n),en (qC5 n)]
theorem qFk:∀n,Ok (Rn n) qPV (qAS n)
 |0=>ok0 fun _=>rfl
 |n+1=>stO (T:=qGm n) (by kernel_rfl) (qPW n) [] (fun _=>(by kernel_rfl)) fun _=>(by kernel_rfl)
def qF1:Sg:=⟨144,[aI,aI],[],⟨aS,[],[]⟩⟩
def qD2:Nat→Int→Int→Option ((BA))
 |0,_,_=>none
 |n+1,x0,x1=>ze x0 x1
theorem qJr:∀n,Ok (Rn n) qF1 (qD2 n)
 |0=>ok0 fun _=>rfl
 |n+1=>stL (by kernel_rfl) (fun a r e=>congrArg (Option.map fun r=>(qF1.Of r).v) e) rfl rfl rfl
def qPX:Sg:=⟨103,[aI],[],⟨aS,[],[]⟩⟩
def qGn (n:Nat) (x0:Int):Tr (BA):=(.opt (qD2 n x0 (10:Int)) fun r157=>(.done r157))
def qBB:Nat→Int→Option (BA)
 |0,_=>none
 |n+1,x0=>(qGn n x0).run
abbrev qPY (n:Nat):List (Ent (Rn n)):= [en (qJr n)]
theorem qFl:∀n,Ok (Rn n) qPX (qBB n)
 |0=>ok0 fun _=>rfl
 |n+1=>stO (T:=qGn n) (by kernel_rfl) (qPY n) [] (fun _=>(by kernel_rfl)) fun _=>(by kernel_rfl)
def qM4:Sg:=⟨207,[(.agg [qI,qI,qS])],[],⟨aS,[],[]⟩⟩
def qBk (n:Nat) (x0 x1:Int) (x2:BA):Tr (BA):=(.ask ((x0==(1:Int))) (.opt (qBB n x1) fun r158=>(.done r158)) (.ask ((x0==(2:Int))) (.ask (decide ((⟨#[39]⟩:BA).size+x2.size≤9223372036854775807)) (.done ((⟨#[39]⟩:BA)++x2)) .fail) (.ask ((x0==(3:Int))) (.ask (decide (2=([[(.s (⟨#[70,65,76,83,69]⟩:BA))],[(.s (⟨#[84,82,85,69]⟩:BA))]]:RW).length∧0≤x1∧x1<((2:Nat):Int))) (.opt (([[(.s (⟨#[70,65,76,83,69]⟩:BA))],[(.s (⟨#[84,82,85,69]⟩:BA))]]:RW)[(x1).toNat]?) fun e159=>(.opt (zZ e159 0) fun y160=>(.done y160))) .fail) (.ask ((x0==(4:Int))) (.opt (qAf n x1) fun r161=>(.done r161)) (.done (⟨#[]⟩:BA))))))
def qq:Nat→Int→Int→BA→Option (BA)
 |0,_,_,_=>none
 |n+1,x0,x1,x2=>(qBk n x0 x1 x2).run
abbrev qM5 (n:Nat):List (Ent (Rn n)):= [en (qFl n),en (qEm n)]
theorem qHN:∀n,Ok (Rn n) qM4 (qq n)
 |0=>ok0 fun _=>rfl
 |n+1=>stO (T:=qBk n) (by kernel_rfl) (qM5 n) [] (fun _=>(by kernel_rfl)) fun _=>(by kernel_rfl)
def qRM:Sg:=⟨203,[aB],[],⟨(.agg [qI,qI,qS]),[],[]⟩⟩
def qIc (n:Nat) (x0:Bool):Tr (Int×Int×BA):=(.ask (x0) (.done ((3:Int),(1:Int),(⟨#[]⟩:BA))) (.done ((3:Int),(0:Int),(⟨#[]⟩:BA))))
def qEn:Nat→Bool→Option (Int×Int×BA)
 |0,_=>none
 |n+1,x0=>(qIc n x0).run
theorem qQV:∀n,Ok (Rn n) qRM (qEn n)
 |0=>ok0 fun _=>rfl
 |n+1=>stO (T:=qIc n) (by kernel_rfl) [] [] (fun _=>(by kernel_rfl)) fun _=>(by kernel_rfl)
def qLY:Sg2:=⟨168,[aS,aI,aI],(.tup [(false,[qI]),(false,[(.p .nif)])]),(.tup [(false,[qI]),(false,[(.p .ifc)])])⟩
def qAw:Nat→BA→Int→Int→Option ((Int)⊕(Int))
 |0,_,_,_=>none
 |n+1,x0,x1,x2=>zL x0 x1 x2
theorem qD3:∀n,Ok2 (Rn n) qLY (qAw n)
 |0=>fun a r e=>by cases e
 |n+1=>zKj (by kernel_rfl) fun a r e=>by
  rcases r with r|r
  ·exact congrArg (Option.map zAB) e
  ·exact congrArg (Option.map zAB) e
def qQW:Sg:=⟨171,[aI],[],⟨(.agg [qI,qI,qS]),[],[]⟩⟩
def qHq (n:Nat) (x0:Int):Tr (Int×Int×BA):=(.done ((1:Int),x0,(⟨#[]⟩:BA)))
def qCp:Nat→Int→Option (Int×Int×BA)
 |0,_=>none
 |n+1,x0=>(qHq n x0).run
theorem qJs:∀n,Ok (Rn n) qQW (qCp n)
 |0=>ok0 fun _=>rfl
 |n+1=>stO (T:=qHq n) (by kernel_rfl) [] [] (fun _=>(by kernel_rfl)) fun _=>(by kernel_rfl)
def qM6:Sg:=⟨172,[aS],[],⟨(.tup [(true,[qI,qI,qS]),(false,[qB])]),[],[]⟩⟩
def qBA (n:Nat) (v:BA×Int×Int×Int×BA×Int×Int×BA):Tr ((BA×Int×Int×Int×BA×Int×Int×BA)⊕((BA×Int×Int×BA×Int×Int×BA))):=(.ask ((decide (v.2.1≤(5:Int)))) (.opt (qAf n v.2.1) fun r170=>(.ask ((r170.toList==v.1.toList)) (.opt (qBr n v.2.1) fun r171=>(.done (.inl (v.1,(IntKind.i64.wrap (v.2.1+(1:Int))),v.2.2.1,v.2.2.2.1,v.2.2.2.2.1,r171.1,r171.2.1,r171.2.2)))) (.done (.inl (v.1,(IntKind.i64.wrap (v.2.1+(1:Int))),v.2.2.1,v.2.2.2.1,v.2.2.2.2.1,v.2.2.2.2.2.1,v.2.2.2.2.2.2.1,v.2.2.2.2.2.2.2))))) (.done (.inr ((v.1,v.2.2.1,v.2.2.2.1,v.2.2.2.2.1,v.2.2.2.2.2.1,v.2.2.2.2.2.2.1,v.2.2.2.2.2.2.2)))))
def qBN (n:Nat) (x0:BA):Tr (Int×Int×BA×Bool):=(.opt (qv n x0 (⟨#[39]⟩:BA)) fun r151=>(.ask (r151.2) (.opt (qAS n (2:Int) (0:Int) r151.1) fun r156=>(.ask ((!r156)) (.done ((0:Int),(0:Int),(⟨#[]⟩:BA),false)) (.opt (qq n (2:Int) (0:Int) r151.1) fun r162=>(.ask ((!(r162.toList==x0.toList))) (.done ((0:Int),(0:Int),(⟨#[]⟩:BA),false)) (.done ((2:Int),(0:Int),r151.1,true)))))) (.ask ((x0.toList==(⟨#[70,65,76,83,69]⟩:BA).toList)) (.opt (qEn n (x0.toList==(⟨#[84,82,85,69]⟩:BA).toList)) fun r163=>(.opt (qAS n r163.1 r163.2.1 r163.2.2) fun r164=>(.ask ((!r164)) (.done ((0:Int),(0:Int),(⟨#[]⟩:BA),false)) (.opt (qq n r163.1 r163.2.1 r163.2.2) fun r165=>(.ask ((!(r165.toList==x0.toList))) (.done ((0:Int),(0:Int),(⟨#[]⟩:BA),false)) (.done (r163.1,r163.2.1,r163.2.2,true))))))) (.ask ((x0.toList==(⟨#[84,82,85,69]⟩:BA).toList)) (.opt (qEn n (x0.toList==(⟨#[84,82,85,69]⟩:BA).toList)) fun r166=>(.opt (qAS n r166.1 r166.2.1 r166.2.2) fun r167=>(.ask ((!r167)) (.done ((0:Int),(0:Int),(⟨#[]⟩:BA),false)) (.opt (qq n r166.1 r166.2.1 r166.2.2) fun r168=>(.ask ((!(r168.toList==x0.toList))) (.done ((0:Int),(0:Int),(⟨#[]⟩:BA),false)) (.done (r166.1,r166.2.1,r166.2.2,true))))))) (.opt (ql n x0 (⟨#[35]⟩:BA)) fun r169=>(.ask (r169) (.opt (zD (qBA n) n (x0,(1:Int),(0:Int),(0:Int),(⟨#[]⟩:BA),(0:Int),(0:Int),(⟨#[]⟩:BA))) fun r172=>(.opt (qAS n r172.2.2.2.2.1 r172.2.2.2.2.2.1 r172.2.2.2.2.2.2) fun r173=>(.ask ((!r173)) (.done ((0:Int),(0:Int),(⟨#[]⟩:BA),false)) (.opt (qq n r172.2.2.2.2.1 r172.2.2.2.2.2.1 r172.2.2.2.2.2.2) fun r174=>(.ask ((!(r174.toList==r172.1.toList))) (.done ((0:Int),(0:Int),(⟨#[]⟩:BA),false)) (.done (r172.2.2.2.2.1,r172.2.2.2.2.2.1,r172.2.2.2.2.2.2,true))))))) (.ask ((!(x0.toList==(⟨#[]⟩:BA).toList))) (.opt (qAw n x0 (10:Int) (64:Int)) fun r175=>(.alt r175 (fun r176=>(.opt (qCp n r176) fun r178=>(.opt (qAS n r178.1 r178.2.1 r178.2.2) fun r179=>(.ask ((!r179)) (.done ((0:Int),(0:Int),(⟨#[]⟩:BA),false)) (.opt (qq n r178.1 r178.2.1 r178.2.2) fun r180=>(.ask ((!(r180.toList==x0.toList))) (.done ((0:Int),(0:Int),(⟨#[]⟩:BA),false)) (.done (r178.1,r178.2.1,r178.2.2,true)))))))) (fun r177=>(.opt (qCp n r177) fun r181=>(.opt (qAS n r181.1 r181.2.1 r181.2.2) fun r182=>(.ask ((!r182)) (.done ((0:Int),(0:Int),(⟨#[]⟩:BA),false)) (.opt (qq n r181.1 r181.2.1 r181.2.2) fun r183=>(.ask ((!(r183.toList==x0.toList))) (.done ((0:Int),(0:Int),(⟨#[]⟩:BA),false)) (.done (r181.1,r181.2.1,r181.2.2,true)))))))))) (.opt (qAS n (0:Int) (0:Int) (⟨#[]⟩:BA)) fun r184=>(.ask ((!r184)) (.done ((0:Int),(0:Int),(⟨#[]⟩:BA),false)) (.opt (qq n (0:Int) (0:Int) (⟨#[]⟩:BA)) fun r185=>(.ask ((!(r185.toList==x0.toList))) (.done ((0:Int),(0:Int),(⟨#[]⟩:BA),false)) (.done ((0:Int),(0:Int),(⟨#[]⟩:BA),true)))))))))))))
def qd:Nat→BA→Option (Int×Int×BA×Bool)
 |0,_=>none
 |n+1,x0=>(qBN n x0).run
abbrev qIE (n:Nat):List (Ent (Rn n)):= [en (qBv n),en (qFk n),en (qHN n),en (qQV n),en (qCf n),en (qEm n),en (qK5 n),en2 (qD3 n),en (qJs n)]
def qJL (n:Nat):LEnt (KB 172) (Rn n) n:=lok (zM 172) 3837 ⟨⟨[(0,aS),(2,(.c (.ptr 0 128 0 0 0))),(4,(.c (.ptr 0 256 0 0 0))),(7,aI)],[(128,⟨0,3,128,(.box [qI,qI,qS])⟩),(256,⟨0,3,128,(.box [qI,qI,qS])⟩)],[]⟩,[(.exit 1,⟨[(0,aS),(2,(.c (.ptr 0 128 0 0 0))),(4,(.c (.ptr 0 256 0 0 0)))],[(128,⟨0,3,128,(.box [qI,qI,qS])⟩),(256,⟨0,3,128,(.box [qI,qI,qS])⟩)],[]⟩)]⟩ (qBA n) (qIE n) [] fun _=>(by kernel_rfl)
theorem qHO:∀n,Ok (Rn n) qM6 (qd n)
 |0=>ok0 fun _=>rfl
 |n+1=>stO (T:=qBN n) (by kernel_rfl) (qIE n) [qJL n] (fun _=>(by kernel_rfl)) fun _=>(by kernel_rfl)
def qPZ:Sg:=⟨184,[aI],[],⟨aS,[],[]⟩⟩
def qDh (n:Nat) (x0:Int):Tr (BA):=(.opt (qAM n x0 (1:Int) (52:Int)) fun r191=>(.ask ((!r191)) (.done (⟨#[]⟩:BA)) (.ask ((decide (x0≤(26:Int)))) (.ask (decide (1=([[(.i .u8 (IntKind.u8.wrap (IntKind.i64.wrap ((IntKind.i64.wrap ((65:Int)+x0))-(1:Int)))))]]:RW).length)) (.opt (bytesOf ([[(.i .u8 (IntKind.u8.wrap (IntKind.i64.wrap ((IntKind.i64.wrap ((65:Int)+x0))-(1:Int)))))]]:RW)) fun l192=>(.done (⟨l192.toArray⟩:BA))) .fail) (.ask (decide (2=([[(.i .u8 (IntKind.u8.wrap (IntKind.i64.wrap ((IntKind.i64.wrap ((65:Int)+(IntKind.i64.wrap (Int.tdiv (IntKind.i64.wrap (x0-(1:Int))) (26:Int)))))-(1:Int)))))],[(.i .u8 (IntKind.u8.wrap (IntKind.i64.wrap ((65:Int)+(Int.tmod (IntKind.i64.wrap (x0-(1:Int))) (26:Int))))))]]:RW).length)) (.opt (bytesOf ([[(.i .u8 (IntKind.u8.wrap (IntKind.i64.wrap ((IntKind.i64.wrap ((65:Int)+(IntKind.i64.wrap (Int.tdiv (IntKind.i64.wrap (x0-(1:Int))) (26:Int)))))-(1:Int)))))],[(.i .u8 (IntKind.u8.wrap (IntKind.i64.wrap ((65:Int)+(Int.tmod (IntKind.i64.wrap (x0-(1:Int))) (26:Int))))))]]:RW)) fun l193=>(.done (⟨l193.toArray⟩:BA))) .fail))))
def qBw:Nat→Int→Option (BA)
 |0,_=>none
 |n+1,x0=>(qDh n x0).run
abbrev qPa (n:Nat):List (Ent (Rn n)):= [en (qC5 n)]
theorem qI7:∀n,Ok (Rn n) qPZ (qBw n)
 |0=>ok0 fun _=>rfl
 |n+1=>stO (T:=qDh n) (by kernel_rfl) (qPa n) [] (fun _=>(by kernel_rfl)) fun _=>(by kernel_rfl)
def qPb:Sg:=⟨262,[aS],[],⟨aI,[],[]⟩⟩
def qCg (n:Nat) (v:BA×Int):Tr ((BA×Int)⊕((Int)⊕(Unit))):=(.ask ((decide (v.2≤(52:Int)))) (.opt (qBw n v.2) fun r191=>(.ask ((r191.toList==v.1.toList)) (.done (.inr (.inl (v.2)))) (.done (.inl (v.1,(IntKind.i64.wrap (v.2+(1:Int)))))))) (.done (.inr (.inr (())))))
def qGo (n:Nat) (x0:BA):Tr (Int):=(.opt (zD (qCg n) n (x0,(1:Int))) fun r192=>(.alt r192 (fun r193=>(.done r193)) (fun r194=>(.done (0:Int)))))
def qEo:Nat→BA→Option (Int)
 |0,_=>none
 |n+1,x0=>(qGo n x0).run
abbrev qJt (n:Nat):List (Ent (Rn n)):= [en (qI7 n)]
def qME (n:Nat):LEnt (KB 262) (Rn n) n:=lok (zM 262) 13 ⟨⟨[(0,aS),(3,aI)],[],[]⟩,[(.ret,⟨[(2,aI)],[],[]⟩),(.exit 0,⟨[],[],[]⟩)]⟩ (qCg n) (qJt n) [] fun _=>(by kernel_rfl)
theorem qOM:∀n,Ok (Rn n) qPb (qEo n)
 |0=>ok0 fun _=>rfl
 |n+1=>stO (T:=qGo n) (by kernel_rfl) (qJt n) [qME n] (fun _=>(by kernel_rfl)) fun _=>(by kernel_rfl)
def qM7:Sg:=⟨143,[(.agg [qI,qI,qB,qB])],[],⟨aS,[],[]⟩⟩
def qDr (n:Nat) (x0 x1:Int) (x2 x3:Bool):Tr (BA):=(.opt (qBq n x0 x1) fun r201=>(.ask ((!r201)) (.done (⟨#[]⟩:BA)) (.ask (x2) (.opt (qBw n x0) fun r202=>(.ask (decide ((⟨#[36]⟩:BA).size+r202.size≤9223372036854775807)) (.ask (x3) (.ask (decide (((⟨#[36]⟩:BA)++r202).size+(⟨#[36]⟩:BA).size≤9223372036854775807)) (.opt (qBB n x1) fun r203=>(.ask (decide ((((⟨#[36]⟩:BA)++r202)++(⟨#[36]⟩:BA)).size+r203.size≤9223372036854775807)) (.done ((((⟨#[36]⟩:BA)++r202)++(⟨#[36]⟩:BA))++r203)) .fail)) .fail) (.opt (qBB n x1) fun r204=>(.ask (decide (((⟨#[36]⟩:BA)++r202).size+r204.size≤9223372036854775807)) (.done (((⟨#[36]⟩:BA)++r202)++r204)) .fail))) .fail)) (.opt (qBw n x0) fun r205=>(.ask (decide ((⟨#[]⟩:BA).size+r205.size≤9223372036854775807)) (.ask (x3) (.ask (decide (((⟨#[]⟩:BA)++r205).size+(⟨#[36]⟩:BA).size≤9223372036854775807)) (.opt (qBB n x1) fun r206=>(.ask (decide ((((⟨#[]⟩:BA)++r205)++(⟨#[36]⟩:BA)).size+r206.size≤9223372036854775807)) (.done ((((⟨#[]⟩:BA)++r205)++(⟨#[36]⟩:BA))++r206)) .fail)) .fail) (.opt (qBB n x1) fun r207=>(.ask (decide (((⟨#[]⟩:BA)++r205).size+r207.size≤9223372036854775807)) (.done (((⟨#[]⟩:BA)++r205)++r207)) .fail))) .fail)))))
def qA6:Nat→Int→Int→Bool→Bool→Option (BA)
 |0,_,_,_,_=>none
 |n+1,x0,x1,x2,x3=>(qDr n x0 x1 x2 x3).run
abbrev qM8 (n:Nat):List (Ent (Rn n)):= [en (qFP n),en (qI7 n),en (qFl n)]
theorem qHP:∀n,Ok (Rn n) qM7 (qA6 n)
 |0=>ok0 fun _=>rfl
 |n+1=>stO (T:=qDr n) (by kernel_rfl) (qM8 n) [] (fun _=>(by kernel_rfl)) fun _=>(by kernel_rfl)
def qM9:Sg:=⟨246,[aS],[],⟨(.tup [(true,[qI,qI,qB,qB]),(false,[qB])]),[],[]⟩⟩
def qFB (n:Nat) (x0:BA):Tr (Int×Int×Bool×Bool×Bool):=(.opt (qv n x0 (⟨#[36]⟩:BA)) fun r189=>(.opt (qBJ n r189.1 (⟨#[65,66,67,68,69,70,71,72,73,74,75,76,77,78,79,80,81,82,83,84,85,86,87,88,89,90]⟩:BA)) fun r190=>(.ask (decide (0≤(0:Int)∧(0:Int)≤(IntKind.i64.wrap ((r189.1.size:Int)-(r190.size:Int)))∧(IntKind.i64.wrap ((r189.1.size:Int)-(r190.size:Int)))≤r189.1.size)) (.opt (qEo n (r189.1.extract ((0:Int)).toNat ((IntKind.i64.wrap ((r189.1.size:Int)-(r190.size:Int)))).toNat)) fun r195=>(.ask (decide (0≤(IntKind.i64.wrap ((r189.1.size:Int)-(r190.size:Int)))∧(IntKind.i64.wrap ((r189.1.size:Int)-(r190.size:Int)))≤(r189.1.size:Int)∧(r189.1.size:Int)≤r189.1.size)) (.opt (qv n (r189.1.extract ((IntKind.i64.wrap ((r189.1.size:Int)-(r190.size:Int)))).toNat ((r189.1.size:Int)).toNat) (⟨#[36]⟩:BA)) fun r196=>(.opt (qAw n r196.1 (10:Int) (64:Int)) fun r197=>(.alt r197 (fun r198=>(.opt (qBq n r195 r198) fun r200=>(.ask ((!r200)) (.done ((0:Int),(0:Int),false,false,false)) (.opt (qA6 n r195 r198 r189.2 r196.2) fun r208=>(.ask ((!(r208.toList==x0.toList))) (.done ((0:Int),(0:Int),false,false,false)) (.done (r195,r198,r189.2,r196.2,true))))))) (fun r199=>(.opt (qBq n r195 r199) fun r209=>(.ask ((!r209)) (.done ((0:Int),(0:Int),false,false,false)) (.opt (qA6 n r195 r199 r189.2 r196.2) fun r210=>(.ask ((!(r210.toList==x0.toList))) (.done ((0:Int),(0:Int),false,false,false)) (.done (r195,r199,r189.2,r196.2,true)))))))))) .fail)) .fail)))
def qAg:Nat→BA→Option (Int×Int×Bool×Bool×Bool)
 |0,_=>none
 |n+1,x0=>(qFB n x0).run
abbrev qNA (n:Nat):List (Ent (Rn n)):= [en (qBv n),en (qD1 n),en (qOM n),en2 (qD3 n),en (qFP n),en (qHP n)]
theorem qHQ:∀n,Ok (Rn n) qM9 (qAg n)
 |0=>ok0 fun _=>rfl
 |n+1=>stO (T:=qFB n) (by kernel_rfl) (qNA n) [] (fun _=>(by kernel_rfl)) fun _=>(by kernel_rfl)
def qQX:Sg:=⟨247,[aI],[],⟨aS,[],[]⟩⟩
def qHr (n:Nat) (x0:Int):Tr (BA):=(.ask (decide (11=([[(.s (⟨#[]⟩:BA))],[(.s (⟨#[83,85,77]⟩:BA))],[(.s (⟨#[77,73,78]⟩:BA))],[(.s (⟨#[77,65,88]⟩:BA))],[(.s (⟨#[67,79,85,78,84]⟩:BA))],[(.s (⟨#[73,70]⟩:BA))],[(.s (⟨#[65,78,68]⟩:BA))],[(.s (⟨#[79,82]⟩:BA))],[(.s (⟨#[78,79,84]⟩:BA))],[(.s (⟨#[65,66,83]⟩:BA))],[(.s (⟨#[76,69,78]⟩:BA))]]:RW).length∧0≤x0∧x0<((11:Nat):Int))) (.opt (([[(.s (⟨#[]⟩:BA))],[(.s (⟨#[83,85,77]⟩:BA))],[(.s (⟨#[77,73,78]⟩:BA))],[(.s (⟨#[77,65,88]⟩:BA))],[(.s (⟨#[67,79,85,78,84]⟩:BA))],[(.s (⟨#[73,70]⟩:BA))],[(.s (⟨#[65,78,68]⟩:BA))],[(.s (⟨#[79,82]⟩:BA))],[(.s (⟨#[78,79,84]⟩:BA))],[(.s (⟨#[65,66,83]⟩:BA))],[(.s (⟨#[76,69,78]⟩:BA))]]:RW)[(x0).toNat]?) fun e213=>(.opt (zZ e213 0) fun y214=>(.done y214))) .fail)
def qCF:Nat→Int→Option (BA)
 |0,_=>none
 |n+1,x0=>(qHr n x0).run
theorem qJu:∀n,Ok (Rn n) qQX (qCF n)
 |0=>ok0 fun _=>rfl
 |n+1=>stO (T:=qHr n) (by kernel_rfl) [] [] (fun _=>(by kernel_rfl)) fun _=>(by kernel_rfl)
def qId:Sg:=⟨263,[(.c (.ptr 0 0 0 0 0))],[[(0,⟨0,3,198,(.box [qS,(.own 0 1 1 0),qB])⟩),(1,⟨1,14,162,(.row [])⟩)]],⟨(.tup [(true,[qI,qI,qI,qI,qS,qI,qI,qB,qB,qI,qI,qB,qB,qL]),(false,[qB])]),[[(0,⟨0,3,198,(.box [qS,(.own 0 1 1 0),qB])⟩),(1,⟨1,14,162,(.row [])⟩)]],[]⟩⟩
def qEp (n:Nat) (x0:BA) (x1:Nat) (x2:Bool) (x3:RW):Tr (Int×Int×Int×Int×BA×Int×Int×Bool×Bool×Int×Int×Bool×Bool×RW×Bool×BA×Nat×Bool×RW):=(.opt (qBK n x0 x1 x2 x3) fun r216=>(.opt (qAg n r216.1) fun r217=>(.ask (r217.2.2.2.2) (.opt (qo n (⟨#[58]⟩:BA) r216.2.1 r216.2.2.1 r216.2.2.2.1 r216.2.2.2.2) fun r218=>(.ask ((!r218.1)) (.done ((0:Int),(0:Int),(0:Int),(0:Int),(⟨#[]⟩:BA),(0:Int),(0:Int),false,false,(0:Int),(0:Int),false,false,([]:RW),false,x0,r218.2.2.1,r218.2.2.2.1,r218.2.2.2.2)) (.opt (qBK n r218.2.1 r218.2.2.1 r218.2.2.2.1 r218.2.2.2.2) fun r219=>(.opt (qAg n r219.1) fun r220=>(.ask (r219.2.2.2.1) (.done ((3:Int),(0:Int),(0:Int),(0:Int),(⟨#[]⟩:BA),r217.1,r217.2.1,r217.2.2.1,r217.2.2.2.1,r220.1,r220.2.1,r220.2.2.1,r220.2.2.2.1,([]:RW),true,r219.2.1,r219.2.2.1,true,r219.2.2.2.2)) (.done ((3:Int),(0:Int),(0:Int),(0:Int),(⟨#[]⟩:BA),r217.1,r217.2.1,r217.2.2.1,r217.2.2.2.1,r220.1,r220.2.1,r220.2.2.1,r220.2.2.2.1,([]:RW),true,r219.2.1,r219.2.2.1,(!r220.2.2.2.2),r219.2.2.2.2))))))) (.done ((0:Int),(0:Int),(0:Int),(0:Int),(⟨#[]⟩:BA),(0:Int),(0:Int),false,false,(0:Int),(0:Int),false,false,([]:RW),false,x0,r216.2.2.1,r216.2.2.2.1,r216.2.2.2.2)))))
def qDH:Nat→BA→Nat→Bool→RW→Option (Int×Int×Int×Int×BA×Int×Int×Bool×Bool×Int×Int×Bool×Bool×RW×Bool×BA×Nat×Bool×RW)
 |0,_,_,_,_=>none
 |n+1,x0,x1,x2,x3=>(qEp n x0 x1 x2 x3).run
abbrev qIe (n:Nat):List (Ent (Rn n)):= [en (qF0 n),en (qHQ n),en (qB8 n)]
theorem qIF:∀n,Ok (Rn n) qId (qDH n)
 |0=>ok0 fun _=>rfl
 |n+1=>stO (T:=qEp n) (by kernel_rfl) (qIe n) [] (fun _=>(by kernel_rfl)) fun _=>(by kernel_rfl)
def qQY:Sg:=⟨193,[aI],[],⟨aS,[],[]⟩⟩
def qHs (n:Nat) (x0:Int):Tr (BA):=(.ask (decide (12=([[(.s (⟨#[]⟩:BA))],[(.s (⟨#[43]⟩:BA))],[(.s (⟨#[45]⟩:BA))],[(.s (⟨#[42]⟩:BA))],[(.s (⟨#[47]⟩:BA))],[(.s (⟨#[38]⟩:BA))],[(.s (⟨#[61]⟩:BA))],[(.s (⟨#[60,62]⟩:BA))],[(.s (⟨#[60]⟩:BA))],[(.s (⟨#[60,61]⟩:BA))],[(.s (⟨#[62]⟩:BA))],[(.s (⟨#[62,61]⟩:BA))]]:RW).length∧0≤x0∧x0<((12:Nat):Int))) (.opt (([[(.s (⟨#[]⟩:BA))],[(.s (⟨#[43]⟩:BA))],[(.s (⟨#[45]⟩:BA))],[(.s (⟨#[42]⟩:BA))],[(.s (⟨#[47]⟩:BA))],[(.s (⟨#[38]⟩:BA))],[(.s (⟨#[61]⟩:BA))],[(.s (⟨#[60,62]⟩:BA))],[(.s (⟨#[60]⟩:BA))],[(.s (⟨#[60,61]⟩:BA))],[(.s (⟨#[62]⟩:BA))],[(.s (⟨#[62,61]⟩:BA))]]:RW)[(x0).toNat]?) fun e247=>(.opt (zZ e247 0) fun y248=>(.done y248))) .fail)
def qBQ:Nat→Int→Option (BA)
 |0,_=>none
 |n+1,x0=>(qHs n x0).run
theorem qJv:∀n,Ok (Rn n) qQY (qBQ n)
 |0=>ok0 fun _=>rfl
 |n+1=>stO (T:=qHs n) (by kernel_rfl) [] [] (fun _=>(by kernel_rfl)) fun _=>(by kernel_rfl)
def qRN:Sg:=⟨194,[aI],[],⟨aI,[],[]⟩⟩
def qIf (n:Nat) (x0:Int):Tr (Int):=(.ask ((x0==(3:Int))) (.done (4:Int)) (.ask ((x0==(4:Int))) (.done (4:Int)) (.ask ((x0==(1:Int))) (.done (3:Int)) (.ask ((x0==(2:Int))) (.done (3:Int)) (.ask ((x0==(5:Int))) (.done (2:Int)) (.done (1:Int)))))))
def qDs:Nat→Int→Option (Int)
 |0,_=>none
 |n+1,x0=>(qIf n x0).run
theorem qK6:∀n,Ok (Rn n) qRN (qDs n)
 |0=>ok0 fun _=>rfl
 |n+1=>stO (T:=qIf n) (by kernel_rfl) [] [] (fun _=>(by kernel_rfl)) fun _=>(by kernel_rfl)
def qFV:Sg:=⟨159,[(.c (.ptr 0 0 0 0 0)),aI,aI],[[(0,⟨0,3,198,(.box [qS,(.own 0 1 1 0),qB])⟩),(1,⟨1,14,162,(.row [])⟩)]],⟨aI,[[(0,⟨0,3,198,(.box [qS,(.own 0 1 1 0),qB])⟩),(1,⟨1,14,162,(.row [])⟩)]],[]⟩⟩
def qKo:Sg:=⟨191,[(.c (.ptr 0 0 0 0 0)),aI],[[(0,⟨0,3,198,(.box [qS,(.own 0 1 1 0),qB])⟩),(1,⟨1,14,162,(.row [])⟩)]],⟨aI,[[(0,⟨0,3,198,(.box [qS,(.own 0 1 1 0),qB])⟩),(1,⟨1,14,162,(.row [])⟩)]],[]⟩⟩
def qLZ:Sg:=⟨223,[(.c (.ptr 0 0 0 0 0)),aI],[[(0,⟨0,3,198,(.box [qS,(.own 0 1 1 0),qB])⟩),(1,⟨1,14,162,(.row [])⟩)]],⟨aI,[[(0,⟨0,3,198,(.box [qS,(.own 0 1 1 0),qB])⟩),(1,⟨1,14,162,(.row [])⟩)]],[]⟩⟩
def qLa:Sg:=⟨248,[(.c (.ptr 0 0 0 0 0)),aI,aI],[[(0,⟨0,3,198,(.box [qS,(.own 0 1 1 0),qB])⟩),(1,⟨1,14,162,(.row [])⟩)]],⟨aI,[[(0,⟨0,3,198,(.box [qS,(.own 0 1 1 0),qB])⟩),(1,⟨1,14,162,(.row [])⟩)]],[]⟩⟩
structure G_impl_reader_binary where
 impl_reader_binary:Int→Int→BA→Nat→Bool→RW→Option (Int×BA×Nat×Bool×RW)
 impl_reader_unary:Int→BA→Nat→Bool→RW→Option (Int×BA×Nat×Bool×RW)
 impl_reader_atom:Int→BA→Nat→Bool→RW→Option (Int×BA×Nat×Bool×RW)
 impl_reader_call:Int→Int→BA→Nat→Bool→RW→Option (Int×BA×Nat×Bool×RW)
def qBC (n:Nat) (v:Int×Int×Int×Int×Int×BA×Nat×Bool×RW):Tr ((Int×Int×Int×Int×Int×BA×Nat×Bool×RW)⊕((Int×Int×Int×Int×BA×Nat×Bool×RW))):=(.ask ((decide (v.2.2.2.2.1≤(11:Int)))) (.opt (qBj n v.2.2.2.2.2.1 v.2.2.2.2.2.2.1 v.2.2.2.2.2.2.2.1 v.2.2.2.2.2.2.2.2) fun r246=>(.opt (qBQ n v.2.2.2.2.1) fun r247=>(.ask ((r246.1.toList==r247.toList)) (.done (.inl (v.1,v.2.1,v.2.2.1,v.2.2.2.2.1,(IntKind.i64.wrap (v.2.2.2.2.1+(1:Int))),r246.2.1,r246.2.2.1,r246.2.2.2.1,r246.2.2.2.2))) (.done (.inl (v.1,v.2.1,v.2.2.1,v.2.2.2.1,(IntKind.i64.wrap (v.2.2.2.2.1+(1:Int))),r246.2.1,r246.2.2.1,r246.2.2.2.1,r246.2.2.2.2)))))) (.done (.inr ((v.1,v.2.1,v.2.2.1,v.2.2.2.1,v.2.2.2.2.2.1,v.2.2.2.2.2.2.1,v.2.2.2.2.2.2.2.1,v.2.2.2.2.2.2.2.2)))))
def qC7 (rec:G_impl_reader_binary) (n:Nat) (v:Int×Int×Int×BA×Nat×Bool×RW):Tr ((Int×Int×Int×BA×Nat×Bool×RW)⊕((Int×BA×Nat×Bool×RW))):=(.ask ((!v.2.2.2.2.2.1)) (.opt (zD (qBC n) n (v.1,v.2.1,v.2.2.1,(0:Int),(1:Int),v.2.2.2.1,v.2.2.2.2.1,v.2.2.2.2.2.1,v.2.2.2.2.2.2)) fun r248=>(.ask ((r248.2.2.2.1==(0:Int))) (.done (.inr ((r248.2.2.1,r248.2.2.2.2.1,r248.2.2.2.2.2.1,r248.2.2.2.2.2.2.1,r248.2.2.2.2.2.2.2)))) (.opt (qDs n r248.2.2.2.1) fun r249=>(.ask ((decide (r249<r248.1))) (.done (.inr ((r248.2.2.1,r248.2.2.2.2.1,r248.2.2.2.2.2.1,r248.2.2.2.2.2.2.1,r248.2.2.2.2.2.2.2)))) (.opt (qBQ n r248.2.2.2.1) fun r250=>(.opt (qo n r250 r248.2.2.2.2.1 r248.2.2.2.2.2.1 r248.2.2.2.2.2.2.1 r248.2.2.2.2.2.2.2) fun r251=>(.opt (qDs n r248.2.2.2.1) fun r252=>(.opt (rec.impl_reader_binary (IntKind.i64.wrap (r252+(1:Int))) r248.2.1 r251.2.1 r251.2.2.1 r251.2.2.2.1 r251.2.2.2.2) fun r253=>(.ask (decide (2=([[(.i .i64 r248.2.2.1)],[(.i .i64 r253.1)]]:RW).length)) (.opt (qp n (5:Int) r248.2.2.2.1 (0:Int) (0:Int) (⟨#[]⟩:BA) (0:Int) (0:Int) false false (0:Int) (0:Int) false false ([[(.i .i64 r248.2.2.1)],[(.i .i64 r253.1)]]:RW) r253.2.1 r253.2.2.1 r253.2.2.2.1 r253.2.2.2.2) fun r254=>(.done (.inl (r248.1,r248.2.1,r254.1,r254.2.1,r254.2.2.1,r254.2.2.2.1,r254.2.2.2.2)))) .fail))))))))) (.done (.inr ((v.2.2.1,v.2.2.2.1,v.2.2.2.2.1,v.2.2.2.2.2.1,v.2.2.2.2.2.2)))))
def qFW (rec:G_impl_reader_binary) (n:Nat) (x0 x1:Int) (x2:BA) (x3:Nat) (x4:Bool) (x5:RW):Tr (Int×BA×Nat×Bool×RW):=(.opt (rec.impl_reader_unary x1 x2 x3 x4 x5) fun r245=>(.opt (zD (qC7 rec n) n (x0,x1,r245.1,r245.2.1,r245.2.2.1,r245.2.2.2.1,r245.2.2.2.2)) fun r255=>(.done (r255.1,r255.2.1,r255.2.2.1,r255.2.2.2.1,r255.2.2.2.2))))
def qF2 (rec:G_impl_reader_binary) (n:Nat) (x0:Int) (x1:BA) (x2:Nat) (x3:Bool) (x4:RW):Tr (Int×BA×Nat×Bool×RW):=(.ask ((decide (x0>(400:Int)))) (.ask (true) (.done ((-1:Int),x1,x2,true,x4)) (.opt (qo n (⟨#[45]⟩:BA) x1 x2 true x4) fun r127=>(.ask (r127.1) (.opt (rec.impl_reader_unary (IntKind.i64.wrap (x0+(1:Int))) r127.2.1 r127.2.2.1 r127.2.2.2.1 r127.2.2.2.2) fun r128=>(.ask (decide (1=([[(.i .i64 r128.1)]]:RW).length)) (.opt (qp n (4:Int) (0:Int) (0:Int) (0:Int) (⟨#[]⟩:BA) (0:Int) (0:Int) false false (0:Int) (0:Int) false false ([[(.i .i64 r128.1)]]:RW) r128.2.1 r128.2.2.1 r128.2.2.2.1 r128.2.2.2.2) fun r129=>(.done (r129.1,r129.2.1,r129.2.2.1,r129.2.2.2.1,r129.2.2.2.2))) .fail)) (.opt (rec.impl_reader_atom x0 r127.2.1 r127.2.2.1 r127.2.2.2.1 r127.2.2.2.2) fun r240=>(.done (r240.1,r240.2.1,r240.2.2.1,r240.2.2.2.1,r240.2.2.2.2)))))) (.ask (x3) (.done ((-1:Int),x1,x2,x3,x4)) (.opt (qo n (⟨#[45]⟩:BA) x1 x2 x3 x4) fun r241=>(.ask (r241.1) (.opt (rec.impl_reader_unary (IntKind.i64.wrap (x0+(1:Int))) r241.2.1 r241.2.2.1 r241.2.2.2.1 r241.2.2.2.2) fun r242=>(.ask (decide (1=([[(.i .i64 r242.1)]]:RW).length)) (.opt (qp n (4:Int) (0:Int) (0:Int) (0:Int) (⟨#[]⟩:BA) (0:Int) (0:Int) false false (0:Int) (0:Int) false false ([[(.i .i64 r242.1)]]:RW) r242.2.1 r242.2.2.1 r242.2.2.2.1 r242.2.2.2.2) fun r243=>(.done (r243.1,r243.2.1,r243.2.2.1,r243.2.2.2.1,r243.2.2.2.2))) .fail)) (.opt (rec.impl_reader_atom x0 r241.2.1 r241.2.2.1 r241.2.2.2.1 r241.2.2.2.2) fun r244=>(.done (r244.1,r244.2.1,r244.2.2.1,r244.2.2.2.1,r244.2.2.2.2)))))))
def qCC (n:Nat) (v:Int×Int×BA×Nat×Bool×RW):Tr ((Int×Int×BA×Nat×Bool×RW)⊕((Int×BA×Nat×Bool×RW)⊕(Int×BA×Nat×Bool×RW))):=(.ask ((decide (v.2.1≤(5:Int)))) (.opt (qAf n v.2.1) fun r141=>(.opt (qv n v.2.2.1 r141) fun r142=>(.ask (r142.2) (.opt (qBr n v.2.1) fun r143=>(.opt (qj n r143.1 r143.2.1 r143.2.2 r142.1 v.2.2.2.1 v.2.2.2.2.1 v.2.2.2.2.2) fun r144=>(.done (.inr (.inl ((r144.1,r144.2.1,r144.2.2.1,r144.2.2.2.1,r144.2.2.2.2))))))) (.done (.inl (v.1,(IntKind.i64.wrap (v.2.1+(1:Int))),v.2.2.1,v.2.2.2.1,v.2.2.2.2.1,v.2.2.2.2.2)))))) (.done (.inr (.inr ((v.1,v.2.2.1,v.2.2.2.1,v.2.2.2.2.1,v.2.2.2.2.2))))))
def qAj (rec:G_impl_reader_binary) (n:Nat) (v:Int×BA×Int×BA×Nat×Bool×RW):Tr ((Int×BA×Int×BA×Nat×Bool×RW)⊕((Int×BA×Nat×Bool×RW)⊕(BA×Nat×Bool×RW))):=(.ask ((decide (v.2.2.1≤(10:Int)))) (.opt (qCF n v.2.2.1) fun r213=>(.ask ((v.2.1.toList==r213.toList)) (.opt (rec.impl_reader_call v.2.2.1 v.1 v.2.2.2.1 v.2.2.2.2.1 v.2.2.2.2.2.1 v.2.2.2.2.2.2) fun r214=>(.done (.inr (.inl ((r214.1,r214.2.1,r214.2.2.1,r214.2.2.2.1,r214.2.2.2.2)))))) (.done (.inl (v.1,v.2.1,(IntKind.i64.wrap (v.2.2.1+(1:Int))),v.2.2.2.1,v.2.2.2.2.1,v.2.2.2.2.2.1,v.2.2.2.2.2.2))))) (.done (.inr (.inr ((v.2.2.2.1,v.2.2.2.2.1,v.2.2.2.2.2.1,v.2.2.2.2.2.2))))))
def qGp (rec:G_impl_reader_binary) (n:Nat) (x0:Int) (x1:BA) (x2:Nat) (x3:Bool) (x4:RW):Tr (Int×BA×Nat×Bool×RW):=(.opt (qAv n x1 x2 x3 x4) fun r130=>(.opt (ql n r130.1 (⟨#[34]⟩:BA)) fun r131=>(.ask (r131) (.opt (qDg n r130.1 r130.2.1 r130.2.2.1 r130.2.2.2) fun r139=>(.done (r139.1,r139.2.1,r139.2.2.1,r139.2.2.2.1,r139.2.2.2.2))) (.opt (ql n r130.1 (⟨#[35]⟩:BA)) fun r140=>(.ask (r140) (.opt (zD (qCC n) n (x0,(1:Int),r130.1,r130.2.1,r130.2.2.1,r130.2.2.2)) fun r145=>(.alt r145 (fun r146=>(.done (r146.1,r146.2.1,r146.2.2.1,r146.2.2.2.1,r146.2.2.2.2))) (fun r147=>(.opt (qBK n r147.2.1 r147.2.2.1 r147.2.2.2.1 r147.2.2.2.2) fun r150=>(.opt (qd n r150.1) fun r186=>(.ask (r186.2.2.2) (.ask ((r186.1==(1:Int))) (.opt (qj n r186.1 r186.2.1 r186.2.2.1 r150.2.1 r150.2.2.1 r150.2.2.2.1 r150.2.2.2.2) fun r187=>(.done (r187.1,r187.2.1,r187.2.2.1,r187.2.2.2.1,r187.2.2.2.2))) (.ask ((r186.1==(3:Int))) (.opt (qj n r186.1 r186.2.1 r186.2.2.1 r150.2.1 r150.2.2.1 r150.2.2.2.1 r150.2.2.2.2) fun r188=>(.done (r188.1,r188.2.1,r188.2.2.1,r188.2.2.2.1,r188.2.2.2.2))) (.opt (qAg n r150.1) fun r211=>(.ask (r211.2.2.2.2) (.opt (qp n (2:Int) (0:Int) (0:Int) (0:Int) (⟨#[]⟩:BA) r211.1 r211.2.1 r211.2.2.1 r211.2.2.2.1 (0:Int) (0:Int) false false ([]:RW) r150.2.1 r150.2.2.1 r150.2.2.2.1 r150.2.2.2.2) fun r212=>(.done (r212.1,r212.2.1,r212.2.2.1,r212.2.2.2.1,r212.2.2.2.2))) (.opt (zD (qAj rec n) n (r147.1,r150.1,(1:Int),r150.2.1,r150.2.2.1,r150.2.2.2.1,r150.2.2.2.2)) fun r215=>(.alt r215 (fun r216=>(.done (r216.1,r216.2.1,r216.2.2.1,r216.2.2.2.1,r216.2.2.2.2))) (fun r217=>(.done ((-1:Int),r217.1,r217.2.1,true,r217.2.2.2))))))))) (.opt (qAg n r150.1) fun r218=>(.ask (r218.2.2.2.2) (.opt (qp n (2:Int) (0:Int) (0:Int) (0:Int) (⟨#[]⟩:BA) r218.1 r218.2.1 r218.2.2.1 r218.2.2.2.1 (0:Int) (0:Int) false false ([]:RW) r150.2.1 r150.2.2.1 r150.2.2.2.1 r150.2.2.2.2) fun r219=>(.done (r219.1,r219.2.1,r219.2.2.1,r219.2.2.2.1,r219.2.2.2.2))) (.opt (zD (qAj rec n) n (r147.1,r150.1,(1:Int),r150.2.1,r150.2.2.1,r150.2.2.2.1,r150.2.2.2.2)) fun r220=>(.alt r220 (fun r221=>(.done (r221.1,r221.2.1,r221.2.2.1,r221.2.2.2.1,r221.2.2.2.2))) (fun r222=>(.done ((-1:Int),r222.1,r222.2.1,true,r222.2.2.2))))))))))))) (.opt (qo n (⟨#[40]⟩:BA) r130.1 r130.2.1 r130.2.2.1 r130.2.2.2) fun r223=>(.ask (r223.1) (.opt (rec.impl_reader_binary (1:Int) (IntKind.i64.wrap (x0+(1:Int))) r223.2.1 r223.2.2.1 r223.2.2.2.1 r223.2.2.2.2) fun r224=>(.ask (r224.2.2.2.1) (.done (r224.1,r224.2.1,r224.2.2.1,true,r224.2.2.2.2)) (.opt (qo n (⟨#[41]⟩:BA) r224.2.1 r224.2.2.1 r224.2.2.2.1 r224.2.2.2.2) fun r225=>(.done (r224.1,r225.2.1,r225.2.2.1,(!r225.1),r225.2.2.2.2))))) (.opt (qBK n r223.2.1 r223.2.2.1 r223.2.2.2.1 r223.2.2.2.2) fun r226=>(.opt (qd n r226.1) fun r227=>(.ask (r227.2.2.2) (.ask ((r227.1==(1:Int))) (.opt (qj n r227.1 r227.2.1 r227.2.2.1 r226.2.1 r226.2.2.1 r226.2.2.2.1 r226.2.2.2.2) fun r228=>(.done (r228.1,r228.2.1,r228.2.2.1,r228.2.2.2.1,r228.2.2.2.2))) (.ask ((r227.1==(3:Int))) (.opt (qj n r227.1 r227.2.1 r227.2.2.1 r226.2.1 r226.2.2.1 r226.2.2.2.1 r226.2.2.2.2) fun r229=>(.done (r229.1,r229.2.1,r229.2.2.1,r229.2.2.2.1,r229.2.2.2.2))) (.opt (qAg n r226.1) fun r230=>(.ask (r230.2.2.2.2) (.opt (qp n (2:Int) (0:Int) (0:Int) (0:Int) (⟨#[]⟩:BA) r230.1 r230.2.1 r230.2.2.1 r230.2.2.2.1 (0:Int) (0:Int) false false ([]:RW) r226.2.1 r226.2.2.1 r226.2.2.2.1 r226.2.2.2.2) fun r231=>(.done (r231.1,r231.2.1,r231.2.2.1,r231.2.2.2.1,r231.2.2.2.2))) (.opt (zD (qAj rec n) n (x0,r226.1,(1:Int),r226.2.1,r226.2.2.1,r226.2.2.2.1,r226.2.2.2.2)) fun r232=>(.alt r232 (fun r233=>(.done (r233.1,r233.2.1,r233.2.2.1,r233.2.2.2.1,r233.2.2.2.2))) (fun r234=>(.done ((-1:Int),r234.1,r234.2.1,true,r234.2.2.2))))))))) (.opt (qAg n r226.1) fun r235=>(.ask (r235.2.2.2.2) (.opt (qp n (2:Int) (0:Int) (0:Int) (0:Int) (⟨#[]⟩:BA) r235.1 r235.2.1 r235.2.2.1 r235.2.2.2.1 (0:Int) (0:Int) false false ([]:RW) r226.2.1 r226.2.2.1 r226.2.2.2.1 r226.2.2.2.2) fun r236=>(.done (r236.1,r236.2.1,r236.2.2.1,r236.2.2.2.1,r236.2.2.2.2))) (.opt (zD (qAj rec n) n (x0,r226.1,(1:Int),r226.2.1,r226.2.2.1,r226.2.2.2.1,r226.2.2.2.2)) fun r237=>(.alt r237 (fun r238=>(.done (r238.1,r238.2.1,r238.2.2.1,r238.2.2.2.1,r238.2.2.2.2))) (fun r239=>(.done ((-1:Int),r239.1,r239.2.1,true,r239.2.2.2)))))))))))))))))
def qCT (rec:G_impl_reader_binary) (n:Nat) (v:Int×Int×Nat×RW×BA×Nat×Bool×RW):Tr ((Int×Int×Nat×RW×BA×Nat×Bool×RW)⊕((Int×Nat×RW×BA×Nat×Bool×RW))):=(.ask ((!v.2.2.2.2.2.2.1)) (.opt (qDH n v.2.2.2.2.1 v.2.2.2.2.2.1 v.2.2.2.2.2.2.1 v.2.2.2.2.2.2.2) fun r216=>(.ask (r216.2.2.2.2.2.2.2.2.2.2.2.2.2.2.1) (.opt (qp n r216.1 r216.2.1 r216.2.2.1 r216.2.2.2.1 r216.2.2.2.2.1 r216.2.2.2.2.2.1 r216.2.2.2.2.2.2.1 r216.2.2.2.2.2.2.2.1 r216.2.2.2.2.2.2.2.2.1 r216.2.2.2.2.2.2.2.2.2.1 r216.2.2.2.2.2.2.2.2.2.2.1 r216.2.2.2.2.2.2.2.2.2.2.2.1 r216.2.2.2.2.2.2.2.2.2.2.2.2.1 r216.2.2.2.2.2.2.2.2.2.2.2.2.2.1 r216.2.2.2.2.2.2.2.2.2.2.2.2.2.2.2.1 r216.2.2.2.2.2.2.2.2.2.2.2.2.2.2.2.2.1 r216.2.2.2.2.2.2.2.2.2.2.2.2.2.2.2.2.2.1 r216.2.2.2.2.2.2.2.2.2.2.2.2.2.2.2.2.2.2) fun r217=>(.ask (decide (1=([[(.i .i64 r217.1)]]:RW).length)) (.ask (decide (v.2.2.1=v.2.2.2.1.length∧0<1∧0<8∧(v.2.2.1+([[(.i .i64 r217.1)]]:RW).length)*8≤140737488355328∧([[(.i .i64 r217.1)]]:RW).all (fun e=>e.length==1)=true)) (.opt (qo n (⟨#[44]⟩:BA) r217.2.1 r217.2.2.1 r217.2.2.2.1 r217.2.2.2.2) fun r218=>(.ask ((!r218.1)) (.ask (r218.2.2.2.1) (.done (.inr ((v.1,(v.2.2.1+1),(v.2.2.2.1++([[(.i .i64 r217.1)]]:RW)),r218.2.1,r218.2.2.1,true,r218.2.2.2.2)))) (.opt (qo n (⟨#[41]⟩:BA) r218.2.1 r218.2.2.1 r218.2.2.2.1 r218.2.2.2.2) fun r219=>(.done (.inr ((v.1,(v.2.2.1+1),(v.2.2.2.1++([[(.i .i64 r217.1)]]:RW)),r219.2.1,r219.2.2.1,(!r219.1),r219.2.2.2.2)))))) (.done (.inl (v.1,v.2.1,(v.2.2.1+1),(v.2.2.2.1++([[(.i .i64 r217.1)]]:RW)),r218.2.1,r218.2.2.1,r218.2.2.2.1,r218.2.2.2.2))))) .fail) .fail)) (.opt (rec.impl_reader_binary (1:Int) (IntKind.i64.wrap (v.2.1+(1:Int))) r216.2.2.2.2.2.2.2.2.2.2.2.2.2.2.2.1 r216.2.2.2.2.2.2.2.2.2.2.2.2.2.2.2.2.1 r216.2.2.2.2.2.2.2.2.2.2.2.2.2.2.2.2.2.1 r216.2.2.2.2.2.2.2.2.2.2.2.2.2.2.2.2.2.2) fun r220=>(.ask (decide (1=([[(.i .i64 r220.1)]]:RW).length)) (.ask (decide (v.2.2.1=v.2.2.2.1.length∧0<1∧0<8∧(v.2.2.1+([[(.i .i64 r220.1)]]:RW).length)*8≤140737488355328∧([[(.i .i64 r220.1)]]:RW).all (fun e=>e.length==1)=true)) (.opt (qo n (⟨#[44]⟩:BA) r220.2.1 r220.2.2.1 r220.2.2.2.1 r220.2.2.2.2) fun r221=>(.ask ((!r221.1)) (.ask (r221.2.2.2.1) (.done (.inr ((v.1,(v.2.2.1+1),(v.2.2.2.1++([[(.i .i64 r220.1)]]:RW)),r221.2.1,r221.2.2.1,true,r221.2.2.2.2)))) (.opt (qo n (⟨#[41]⟩:BA) r221.2.1 r221.2.2.1 r221.2.2.2.1 r221.2.2.2.2) fun r222=>(.done (.inr ((v.1,(v.2.2.1+1),(v.2.2.2.1++([[(.i .i64 r220.1)]]:RW)),r222.2.1,r222.2.2.1,(!r222.1),r222.2.2.2.2)))))) (.done (.inl (v.1,v.2.1,(v.2.2.1+1),(v.2.2.2.1++([[(.i .i64 r220.1)]]:RW)),r221.2.1,r221.2.2.1,r221.2.2.2.1,r221.2.2.2.2))))) .fail) .fail)))) (.done (.inr ((v.1,v.2.2.1,v.2.2.2.1,v.2.2.2.2.1,v.2.2.2.2.2.1,v.2.2.2.2.2.2.1,v.2.2.2.2.2.2.2)))))
def qGq (rec:G_impl_reader_binary) (n:Nat) (x0 x1:Int) (x2:BA) (x3:Nat) (x4:Bool) (x5:RW):Tr (Int×BA×Nat×Bool×RW):=(.ask (x4) (.opt (zD (qCT rec n) n (x0,x1,(0:Nat),([]:RW),x2,x3,true,x5)) fun r223=>(.ask (decide (r223.2.1=r223.2.2.1.length)) (.opt (qp n (6:Int) r223.1 (0:Int) (0:Int) (⟨#[]⟩:BA) (0:Int) (0:Int) false false (0:Int) (0:Int) false false r223.2.2.1 r223.2.2.2.1 r223.2.2.2.2.1 r223.2.2.2.2.2.1 r223.2.2.2.2.2.2) fun r224=>(.done (r224.1,r224.2.1,r224.2.2.1,r224.2.2.2.1,r224.2.2.2.2))) .fail)) (.opt (qo n (⟨#[40]⟩:BA) x2 x3 x4 x5) fun r225=>(.opt (zD (qCT rec n) n (x0,x1,(0:Nat),([]:RW),r225.2.1,r225.2.2.1,(!r225.1),r225.2.2.2.2)) fun r226=>(.ask (decide (r226.2.1=r226.2.2.1.length)) (.opt (qp n (6:Int) r226.1 (0:Int) (0:Int) (⟨#[]⟩:BA) (0:Int) (0:Int) false false (0:Int) (0:Int) false false r226.2.2.1 r226.2.2.2.1 r226.2.2.2.2.1 r226.2.2.2.2.2.1 r226.2.2.2.2.2.2) fun r227=>(.done (r227.1,r227.2.1,r227.2.2.1,r227.2.2.2.1,r227.2.2.2.2))) .fail))))
def qR:Nat→G_impl_reader_binary
 |0=>⟨fun _ _ _ _ _ _=>none,fun _ _ _ _ _=>none,fun _ _ _ _ _=>none,fun _ _ _ _ _ _=>none⟩
 |n+1=>⟨fun x0 x1 x2 x3 x4 x5=>(qFW (qR n) n x0 x1 x2 x3 x4 x5).run,fun x0 x1 x2 x3 x4=>(qF2 (qR n) n x0 x1 x2 x3 x4).run,fun x0 x1 x2 x3 x4=>(qGp (qR n) n x0 x1 x2 x3 x4).run,fun x0 x1 x2 x3 x4 x5=>(qGq (qR n) n x0 x1 x2 x3 x4 x5).run⟩
def qCh (n:Nat) (x0 x1:Int) (x2:BA) (x3:Nat) (x4:Bool) (x5:RW):Option (Int×BA×Nat×Bool×RW):=(qR n).impl_reader_binary x0 x1 x2 x3 x4 x5
def qF3 (n:Nat) (x0:Int) (x1:BA) (x2:Nat) (x3:Bool) (x4:RW):Option (Int×BA×Nat×Bool×RW):=(qR n).impl_reader_unary x0 x1 x2 x3 x4
def qGr (n:Nat) (x0:Int) (x1:BA) (x2:Nat) (x3:Bool) (x4:RW):Option (Int×BA×Nat×Bool×RW):=(qR n).impl_reader_atom x0 x1 x2 x3 x4
def qCN (n:Nat) (x0 x1:Int) (x2:BA) (x3:Nat) (x4:Bool) (x5:RW):Option (Int×BA×Nat×Bool×RW):=(qR n).impl_reader_call x0 x1 x2 x3 x4 x5
def qAB (n:Nat):Prop:=
 Ok (Rn n) qFV (qCh n)∧
 Ok (Rn n) qKo (qF3 n)∧
 Ok (Rn n) qLZ (qGr n)∧
 Ok (Rn n) qLa (qCN n)
abbrev qDi (n:Nat) (ih:qAB n):List (Ent (Rn n)):= [en ih.2.1,en (qFz n),en (qJv n),en (qK6 n),en (qB8 n),en ih.1,en (qCM n)]
def qHt (n:Nat) (ih:qAB n):LEnt (lb 14 (KB 159)) (Rn n) n:=lok (Uniq.pick (zM 159) 14) 237 ⟨⟨[(0,(.c (.ptr 0 0 0 0 0))),(1,aI),(2,aI),(7,aI),(8,aI),(9,aI)],[],[[(0,⟨0,3,198,(.box [qS,(.own 0 1 1 0),qB])⟩),(1,⟨1,14,162,(.row [])⟩)]]⟩,[(.exit 2,⟨[(0,(.c (.ptr 0 0 0 0 0))),(1,aI),(2,aI),(7,aI),(8,aI)],[],[[(0,⟨0,3,198,(.box [qS,(.own 0 1 1 0),qB])⟩),(1,⟨1,14,162,(.row [])⟩)]]⟩)]⟩ (qBC n) (qDi n ih) [] fun _=>(by kernel_rfl)
def qIG (n:Nat) (ih:qAB n):LEnt (KB 159) (Rn n) n:=lok (zM 159) 14 ⟨⟨[(0,(.c (.ptr 0 0 0 0 0))),(1,aI),(2,aI),(7,aI)],[],[[(0,⟨0,3,198,(.box [qS,(.own 0 1 1 0),qB])⟩),(1,⟨1,14,162,(.row [])⟩)]]⟩,[(.exit 0,⟨[(7,aI)],[],[[(0,⟨0,3,198,(.box [qS,(.own 0 1 1 0),qB])⟩),(1,⟨1,14,162,(.row [])⟩)]]⟩)]⟩ (qC7 (qR n) n) (qDi n ih) [qHt n ih] fun _=>(by kernel_rfl)
abbrev qKp (n:Nat) (ih:qAB n):List (Ent (Rn n)):= [en (qB8 n),en ih.2.1,en (qCM n),en ih.2.2.1]
abbrev qEJ (n:Nat) (ih:qAB n):List (Ent (Rn n)):= [en (qCR n),en (qCf n),en (qJK n),en (qEm n),en (qBv n),en (qK5 n),en (qER n),en (qF0 n),en (qHO n),en (qHQ n),en (qCM n),en (qJu n),en ih.2.2.2,en (qB8 n),en ih.1]
def qIg (n:Nat) (ih:qAB n):LEnt (KB 223) (Rn n) n:=lok (zM 223) 477 ⟨⟨[(0,(.c (.ptr 0 0 0 0 0))),(1,aI),(5,aI)],[],[[(0,⟨0,3,198,(.box [qS,(.own 0 1 1 0),qB])⟩),(1,⟨1,14,162,(.row [])⟩)]]⟩,[(.ret,⟨[(4,aI)],[],[[(0,⟨0,3,198,(.box [qS,(.own 0 1 1 0),qB])⟩),(1,⟨1,14,162,(.row [])⟩)]]⟩),(.exit 1,⟨[(0,(.c (.ptr 0 0 0 0 0))),(1,aI)],[],[[(0,⟨0,3,198,(.box [qS,(.own 0 1 1 0),qB])⟩),(1,⟨1,14,162,(.row [])⟩)]]⟩)]⟩ (qCC n) (qEJ n ih) [] fun _=>(by kernel_rfl)
def qIh (n:Nat) (ih:qAB n):LEnt (KB 223) (Rn n) n:=lok (zM 223) 509 ⟨⟨[(0,(.c (.ptr 0 0 0 0 0))),(1,aI),(9,aS),(14,aI)],[],[[(0,⟨0,3,198,(.box [qS,(.own 0 1 1 0),qB])⟩),(1,⟨1,14,162,(.row [])⟩)]]⟩,[(.ret,⟨[(4,aI)],[],[[(0,⟨0,3,198,(.box [qS,(.own 0 1 1 0),qB])⟩),(1,⟨1,14,162,(.row [])⟩)]]⟩),(.exit 3,⟨[(0,(.c (.ptr 0 0 0 0 0)))],[],[[(0,⟨0,3,198,(.box [qS,(.own 0 1 1 0),qB])⟩),(1,⟨1,14,162,(.row [])⟩)]]⟩)]⟩ (qAj (qR n) n) (qEJ n ih) [] fun _=>(by kernel_rfl)
abbrev qGs (n:Nat) (ih:qAB n):List (Ent (Rn n)):= [en (qIF n),en (qCM n),en (qB8 n),en ih.1]
def qJM (n:Nat) (ih:qAB n):LEnt (KB 248) (Rn n) n:=lok (zM 248) 30 ⟨⟨[(0,(.c (.ptr 0 0 0 0 0))),(1,aI),(2,aI),(7,(.c (.own 1 640 0 0)))],[(640,⟨0,1,2,(.row [])⟩)],[[(0,⟨0,3,198,(.box [qS,(.own 0 1 1 0),qB])⟩),(1,⟨1,14,162,(.row [])⟩)]]⟩,[(.exit 0,⟨[(0,(.c (.ptr 0 0 0 0 0))),(1,aI),(7,(.c (.own 1 640 0 0)))],[(640,⟨0,1,2,(.row [])⟩)],[[(0,⟨0,3,198,(.box [qS,(.own 0 1 1 0),qB])⟩),(1,⟨1,14,162,(.row [])⟩)]]⟩)]⟩ (qCT (qR n) n) (qGs n ih) [] fun _=>(by kernel_rfl)
theorem qAK:∀n,qAB n
 |0=>⟨ok0 fun _=>rfl,ok0 fun _=>rfl,ok0 fun _=>rfl,ok0 fun _=>rfl⟩
 |n+1=>⟨stO (T:=qFW (qR n) n) (by kernel_rfl) (qDi n (qAK n)) [qIG n (qAK n)] (fun _=>(by kernel_rfl)) fun _=>(by kernel_rfl),stO (T:=qF2 (qR n) n) (by kernel_rfl) (qKp n (qAK n)) [] (fun _=>(by kernel_rfl)) fun _=>(by kernel_rfl),stO (T:=qGp (qR n) n) (by kernel_rfl) (qEJ n (qAK n)) [qIg n (qAK n),qIh n (qAK n)] (fun _=>(by kernel_rfl)) fun _=>(by kernel_rfl),stO (T:=qGq (qR n) n) (by kernel_rfl) (qGs n (qAK n)) [qJM n (qAK n)] (fun _=>(by kernel_rfl)) fun _=>(by kernel_rfl)⟩
theorem qJN (n:Nat):Ok (Rn n) qFV (qCh n):=(qAK n).1
def qMF:Sg:=⟨120,[(.agg [qI,qI,qI,qI,qS,qI,qI,qB,qB,qI,qI,qB,qB,qL])],[],⟨(.agg [qI,qI,qI,qI]),[],[]⟩⟩
def qDa (n:Nat) (x0 x1 x2 x3:Int) (x4:BA) (x5 x6:Int) (x7 x8:Bool) (x9 x10:Int) (x11 x12:Bool) (x13:RW):Tr (Int×Int×Int×Int):=(.ask ((x0==(2:Int))) (.done (x5,x6,x5,x6)) (.done (x5,x6,x9,x10)))
def qA9:Nat→Int→Int→Int→Int→BA→Int→Int→Bool→Bool→Int→Int→Bool→Bool→RW→Option (Int×Int×Int×Int)
 |0,_,_,_,_,_,_,_,_,_,_,_,_,_,_=>none
 |n+1,x0,x1,x2,x3,x4,x5,x6,x7,x8,x9,x10,x11,x12,x13=>(qDa n x0 x1 x2 x3 x4 x5 x6 x7 x8 x9 x10 x11 x12 x13).run
theorem qGt:∀n,Ok (Rn n) qMF (qA9 n)
 |0=>ok0 fun _=>rfl
 |n+1=>stO (T:=qDa n) (by kernel_rfl) [] [] (fun _=>(by kernel_rfl)) fun _=>(by kernel_rfl)
def qQZ:Sg:=⟨264,[(.agg [qI,qI,qI,qI])],[],⟨aB,[],[]⟩⟩
def qHu (n:Nat) (x0 x1 x2 x3:Int):Tr (Bool):=(.opt (qBq n x0 x1) fun r278=>(.ask (r278) (.opt (qBq n x2 x3) fun r279=>(.ask (r279) (.ask ((decide (x0≤x2))) (.done (decide (x1≤x3))) (.done false)) (.done false))) (.done false)))
def qD8:Nat→Int→Int→Int→Int→Option (Bool)
 |0,_,_,_,_=>none
 |n+1,x0,x1,x2,x3=>(qHu n x0 x1 x2 x3).run
abbrev qQa (n:Nat):List (Ent (Rn n)):= [en (qFP n)]
theorem qPc:∀n,Ok (Rn n) qQZ (qD8 n)
 |0=>ok0 fun _=>rfl
 |n+1=>stO (T:=qHu n) (by kernel_rfl) (qQa n) [] (fun _=>(by kernel_rfl)) fun _=>(by kernel_rfl)
def qJO:Sg:=⟨249,[(.agg [qI,qI,qI,qI,qS,qI,qI,qB,qB,qI,qI,qB,qB,qL])],[],⟨aB,[],[]⟩⟩
def qDX (n:Nat) (x0 x1 x2 x3:Int) (x4:BA) (x5 x6:Int) (x7 x8:Bool) (x9 x10:Int) (x11 x12:Bool) (x13:RW):Tr (Bool):=(.ask ((x0 !=(2:Int))) (.ask ((x0 !=(3:Int))) (.done true) (.opt (qA9 n x0 x1 x2 x3 x4 x5 x6 x7 x8 x9 x10 x11 x12 x13) fun r277=>(.opt (qD8 n r277.1 r277.2.1 r277.2.2.1 r277.2.2.2) fun r280=>(.done r280)))) (.opt (qA9 n x0 x1 x2 x3 x4 x5 x6 x7 x8 x9 x10 x11 x12 x13) fun r281=>(.opt (qD8 n r281.1 r281.2.1 r281.2.2.1 r281.2.2.2) fun r282=>(.done r282))))
def qAC:Nat→Int→Int→Int→Int→BA→Int→Int→Bool→Bool→Int→Int→Bool→Bool→RW→Option (Bool)
 |0,_,_,_,_,_,_,_,_,_,_,_,_,_,_=>none
 |n+1,x0,x1,x2,x3,x4,x5,x6,x7,x8,x9,x10,x11,x12,x13=>(qDX n x0 x1 x2 x3 x4 x5 x6 x7 x8 x9 x10 x11 x12 x13).run
abbrev qJP (n:Nat):List (Ent (Rn n)):= [en (qGt n),en (qPc n)]
theorem qIi:∀n,Ok (Rn n) qJO (qAC n)
 |0=>ok0 fun _=>rfl
 |n+1=>stO (T:=qDX n) (by kernel_rfl) (qJP n) [] (fun _=>(by kernel_rfl)) fun _=>(by kernel_rfl)
def qKq:Sg:=⟨250,[(.agg [qI,qI,qI,qI,qS,qI,qI,qB,qB,qI,qI,qB,qB,qL])],[],⟨aB,[],[]⟩⟩
def qD4 (n:Nat) (x0 x1 x2 x3:Int) (x4:BA) (x5 x6:Int) (x7 x8:Bool) (x9 x10:Int) (x11 x12:Bool) (x13:RW):Tr (Bool):=(.ask ((x0==(4:Int))) (.ask ((x1==(0:Int))) (.done ((x13.length:Int)==(1:Int))) (.done false)) (.ask ((x0==(5:Int))) (.opt (qAM n x1 (1:Int) (11:Int)) fun r284=>(.ask (r284) (.done ((x13.length:Int)==(2:Int))) (.done false))) (.ask ((x0==(6:Int))) (.opt (qAM n x1 (1:Int) (10:Int)) fun r285=>(.ask ((!r285)) (.done false) (.ask ((x1==(5:Int))) (.opt (qAM n (x13.length:Int) (2:Int) (3:Int)) fun r286=>(.done r286)) (.ask ((decide (x1≥(8:Int)))) (.done ((x13.length:Int)==(1:Int))) (.opt (qAM n (x13.length:Int) (1:Int) (10:Int)) fun r287=>(.done r287)))))) (.ask ((x1==(0:Int))) (.done ((x13.length:Int)==(0:Int))) (.done false)))))
def qAN:Nat→Int→Int→Int→Int→BA→Int→Int→Bool→Bool→Int→Int→Bool→Bool→RW→Option (Bool)
 |0,_,_,_,_,_,_,_,_,_,_,_,_,_,_=>none
 |n+1,x0,x1,x2,x3,x4,x5,x6,x7,x8,x9,x10,x11,x12,x13=>(qD4 n x0 x1 x2 x3 x4 x5 x6 x7 x8 x9 x10 x11 x12 x13).run
abbrev qKr (n:Nat):List (Ent (Rn n)):= [en (qC5 n)]
theorem qJw:∀n,Ok (Rn n) qKq (qAN n)
 |0=>ok0 fun _=>rfl
 |n+1=>stO (T:=qD4 n) (by kernel_rfl) (qKr n) [] (fun _=>(by kernel_rfl)) fun _=>(by kernel_rfl)
def qLb:Sg:=⟨224,[(.agg [qI,qI,qI,qI,qS,qI,qI,qB,qB,qI,qI,qB,qB,qL])],[],⟨aB,[],[]⟩⟩
def qEK (n:Nat) (x0 x1 x2 x3:Int) (x4:BA) (x5 x6:Int) (x7 x8:Bool) (x9 x10:Int) (x11 x12:Bool) (x13:RW):Tr (Bool):=(.ask ((x0==(1:Int))) (.opt (qAS n x2 x3 x4) fun r276=>(.ask ((!r276)) (.done false) (.ask ((x2==(0:Int))) (.done false) (.ask ((x2==(1:Int))) (.ask ((decide (x3<(0:Int)))) (.done false) (.opt (qAC n x0 x1 x2 x3 x4 x5 x6 x7 x8 x9 x10 x11 x12 x13) fun r283=>(.ask (r283) (.opt (qAN n x0 x1 x2 x3 x4 x5 x6 x7 x8 x9 x10 x11 x12 x13) fun r288=>(.ask (r288) (.ask (((x2==x2)&&((x3==x3)&&((x4.toList==x4.toList)&&true)))) (.ask ((((0:Int)==x5)&&(((0:Int)==x6)&&((false==x7)&&((false==x8)&&true))))) (.done (((0:Int)==x9)&&(((0:Int)==x10)&&((false==x11)&&((false==x12)&&true))))) (.done false)) (.done false)) (.done false))) (.done false)))) (.opt (qAC n x0 x1 x2 x3 x4 x5 x6 x7 x8 x9 x10 x11 x12 x13) fun r289=>(.ask (r289) (.opt (qAN n x0 x1 x2 x3 x4 x5 x6 x7 x8 x9 x10 x11 x12 x13) fun r290=>(.ask (r290) (.ask (((x2==x2)&&((x3==x3)&&((x4.toList==x4.toList)&&true)))) (.ask ((((0:Int)==x5)&&(((0:Int)==x6)&&((false==x7)&&((false==x8)&&true))))) (.done (((0:Int)==x9)&&(((0:Int)==x10)&&((false==x11)&&((false==x12)&&true))))) (.done false)) (.done false)) (.done false))) (.done false))))))) (.ask ((x0==(2:Int))) (.opt (qAC n x0 x1 x2 x3 x4 x5 x6 x7 x8 x9 x10 x11 x12 x13) fun r291=>(.ask (r291) (.opt (qAN n x0 x1 x2 x3 x4 x5 x6 x7 x8 x9 x10 x11 x12 x13) fun r292=>(.ask (r292) (.ask ((((0:Int)==x2)&&(((0:Int)==x3)&&(((⟨#[]⟩:BA).toList==x4.toList)&&true)))) (.ask (((x5==x5)&&((x6==x6)&&((x7==x7)&&((x8==x8)&&true))))) (.done (((0:Int)==x9)&&(((0:Int)==x10)&&((false==x11)&&((false==x12)&&true))))) (.done false)) (.done false)) (.done false))) (.done false))) (.ask ((x0==(3:Int))) (.opt (qAC n x0 x1 x2 x3 x4 x5 x6 x7 x8 x9 x10 x11 x12 x13) fun r293=>(.ask (r293) (.opt (qAN n x0 x1 x2 x3 x4 x5 x6 x7 x8 x9 x10 x11 x12 x13) fun r294=>(.ask (r294) (.ask ((((0:Int)==x2)&&(((0:Int)==x3)&&(((⟨#[]⟩:BA).toList==x4.toList)&&true)))) (.ask (((x5==x5)&&((x6==x6)&&((x7==x7)&&((x8==x8)&&true))))) (.done ((x9==x9)&&((x10==x10)&&((x11==x11)&&((x12==x12)&&true))))) (.done false)) (.done false)) (.done false))) (.done false))) (.ask ((x0==(4:Int))) (.opt (qAC n x0 x1 x2 x3 x4 x5 x6 x7 x8 x9 x10 x11 x12 x13) fun r295=>(.ask (r295) (.opt (qAN n x0 x1 x2 x3 x4 x5 x6 x7 x8 x9 x10 x11 x12 x13) fun r296=>(.ask (r296) (.ask ((((0:Int)==x2)&&(((0:Int)==x3)&&(((⟨#[]⟩:BA).toList==x4.toList)&&true)))) (.ask ((((0:Int)==x5)&&(((0:Int)==x6)&&((false==x7)&&((false==x8)&&true))))) (.done (((0:Int)==x9)&&(((0:Int)==x10)&&((false==x11)&&((false==x12)&&true))))) (.done false)) (.done false)) (.done false))) (.done false))) (.ask ((x0==(5:Int))) (.opt (qAC n x0 x1 x2 x3 x4 x5 x6 x7 x8 x9 x10 x11 x12 x13) fun r297=>(.ask (r297) (.opt (qAN n x0 x1 x2 x3 x4 x5 x6 x7 x8 x9 x10 x11 x12 x13) fun r298=>(.ask (r298) (.ask ((((0:Int)==x2)&&(((0:Int)==x3)&&(((⟨#[]⟩:BA).toList==x4.toList)&&true)))) (.ask ((((0:Int)==x5)&&(((0:Int)==x6)&&((false==x7)&&((false==x8)&&true))))) (.done (((0:Int)==x9)&&(((0:Int)==x10)&&((false==x11)&&((false==x12)&&true))))) (.done false)) (.done false)) (.done false))) (.done false))) (.ask ((x0==(6:Int))) (.opt (qAC n x0 x1 x2 x3 x4 x5 x6 x7 x8 x9 x10 x11 x12 x13) fun r299=>(.ask (r299) (.opt (qAN n x0 x1 x2 x3 x4 x5 x6 x7 x8 x9 x10 x11 x12 x13) fun r300=>(.ask (r300) (.ask ((((0:Int)==x2)&&(((0:Int)==x3)&&(((⟨#[]⟩:BA).toList==x4.toList)&&true)))) (.ask ((((0:Int)==x5)&&(((0:Int)==x6)&&((false==x7)&&((false==x8)&&true))))) (.done (((0:Int)==x9)&&(((0:Int)==x10)&&((false==x11)&&((false==x12)&&true))))) (.done false)) (.done false)) (.done false))) (.done false))) (.done false)))))))
def qDI:Nat→Int→Int→Int→Int→BA→Int→Int→Bool→Bool→Int→Int→Bool→Bool→RW→Option (Bool)
 |0,_,_,_,_,_,_,_,_,_,_,_,_,_,_=>none
 |n+1,x0,x1,x2,x3,x4,x5,x6,x7,x8,x9,x10,x11,x12,x13=>(qEK n x0 x1 x2 x3 x4 x5 x6 x7 x8 x9 x10 x11 x12 x13).run
abbrev qLc (n:Nat):List (Ent (Rn n)):= [en (qFk n),en (qIi n),en (qJw n)]
theorem qKs:∀n,Ok (Rn n) qLb (qDI n)
 |0=>ok0 fun _=>rfl
 |n+1=>stO (T:=qEK n) (by kernel_rfl) (qLc n) [] (fun _=>(by kernel_rfl)) fun _=>(by kernel_rfl)
def qJx:Sg:=⟨198,[aL,aI,aI],[],⟨aI,[],[]⟩⟩
def qAT (rec:RW→Int→Int→Option (Int)) (n:Nat) (v:RW×Int×Int×Int×Int):Tr ((RW×Int×Int×Int×Int)⊕((Int)⊕(Int))):=(.ask ((decide (v.2.2.2.2≥(0:Int)))) (.ask (decide (0≤v.2.1∧v.2.1<v.1.length)) (.opt (v.1[(v.2.1).toNat]?) fun e304=>(.ask (decide (e304.length=14)) (.opt (zAk e304 13) fun y305=>(.ask (decide (0≤v.2.2.2.2∧v.2.2.2.2<y305.length)) (.opt (y305[(v.2.2.2.2).toNat]?) fun e306=>(.ask (decide (e306.length=1)) (.opt (zC .i64 e306 0) fun y307=>(.ask ((y307 !=(IntKind.i64.wrap (v.2.2.2.1-(1:Int))))) (.done (.inr (.inl ((-1:Int))))) (.ask ((decide (y307<(0:Int)))) (.done (.inr (.inl ((-1:Int))))) (.ask (decide (0≤y307∧y307<v.1.length)) (.opt (v.1[(y307).toNat]?) fun e308=>(.ask (decide (e308.length=14)) (.opt (zC .i64 e308 0) fun y309=>(.ask ((y309==(3:Int))) (.ask (decide (0≤v.2.1∧v.2.1<v.1.length)) (.opt (v.1[(v.2.1).toNat]?) fun e310=>(.ask (decide (e310.length=14)) (.opt (zC .i64 e310 0) fun y311=>(.ask ((y311 !=(6:Int))) (.done (.inr (.inl ((-1:Int))))) (.opt (rec v.1 y307 (IntKind.i64.wrap (v.2.2.1+(1:Int)))) fun r312=>(.ask ((decide (r312<(0:Int)))) (.done (.inr (.inl ((-1:Int))))) (.done (.inl (v.1,v.2.1,v.2.2.1,r312,(IntKind.i64.wrap (v.2.2.2.2-(1:Int)))))))))) .fail)) .fail) (.opt (rec v.1 y307 (IntKind.i64.wrap (v.2.2.1+(1:Int)))) fun r313=>(.ask ((decide (r313<(0:Int)))) (.done (.inr (.inl ((-1:Int))))) (.done (.inl (v.1,v.2.1,v.2.2.1,r313,(IntKind.i64.wrap (v.2.2.2.2-(1:Int)))))))))) .fail)) .fail)))) .fail)) .fail)) .fail)) .fail) (.done (.inr (.inr (v.2.2.2.1)))))
def qFX (rec:RW→Int→Int→Option (Int)) (n:Nat) (x0:RW) (x1 x2:Int):Tr (Int):=(.ask ((decide (x1<(0:Int)))) (.done (-1:Int)) (.ask ((decide (x2≥(12:Int)))) (.done (-1:Int)) (.ask (decide (0≤x1∧x1<x0.length)) (.opt (x0[(x1).toNat]?) fun e261=>(.ask (decide (e261.length=14)) (.opt (zC .i64 e261 0) fun y262=>(.opt (zC .i64 e261 1) fun y263=>(.opt (zC .i64 e261 2) fun y264=>(.opt (zC .i64 e261 3) fun y265=>(.opt (zZ e261 4) fun y266=>(.opt (zC .i64 e261 5) fun y267=>(.opt (zC .i64 e261 6) fun y268=>(.opt (zy e261 7) fun y269=>(.opt (zy e261 8) fun y270=>(.opt (zC .i64 e261 9) fun y271=>(.opt (zC .i64 e261 10) fun y272=>(.opt (zy e261 11) fun y273=>(.opt (zy e261 12) fun y274=>(.opt (zAk e261 13) fun y275=>(.opt (qDI n y262 y263 y264 y265 y266 y267 y268 y269 y270 y271 y272 y273 y274 y275) fun r301=>(.ask ((!r301)) (.done (-1:Int)) (.ask (decide (0≤x1∧x1<x0.length)) (.opt (x0[(x1).toNat]?) fun e302=>(.ask (decide (e302.length=14)) (.opt (zAk e302 13) fun y303=>(.opt (zD (qAT rec n) n (x0,x1,x2,x1,(IntKind.i64.wrap ((y303.length:Int)-(1:Int))))) fun r314=>(.alt r314 (fun r315=>(.done r315)) (fun r316=>(.done r316))))) .fail)) .fail))))))))))))))))) .fail)) .fail)))
def qAi:Nat→RW→Int→Int→Option (Int)
 |0,_,_,_=>none
 |n+1,x0,x1,x2=>(qFX (qAi n) n x0 x1 x2).run
abbrev qNm (n:Nat) (ih:Ok (Rn n) qJx (qAi n)):List (Ent (Rn n)):= [en (qKs n),en ih]
def qPd (n:Nat) (ih:Ok (Rn n) qJx (qAi n)):LEnt (KB 198) (Rn n) n:=lok (zM 198) 61 ⟨⟨[(0,aL),(1,aI),(2,aI),(7,aI),(8,aI)],[],[]⟩,[(.ret,⟨[(6,aI)],[],[]⟩),(.exit 0,⟨[(7,aI)],[],[]⟩)]⟩ (qAT (qAi n) n) (qNm n ih) [] fun _=>(by kernel_rfl)
theorem qIj:∀n,Ok (Rn n) qJx (qAi n)
 |0=>ok0 fun _=>rfl
 |n+1=>stO (T:=qFX (qAi n) n) (by kernel_rfl) (qNm n (qIj n)) [qPd n (qIj n)] (fun _=>(by kernel_rfl)) fun _=>(by kernel_rfl)
def qNB:Sg:=⟨161,[aL],[],⟨aB,[],[]⟩⟩
def qC8 (n:Nat) (x0:RW):Tr (Bool):=(.opt (qAM n (x0.length:Int) (1:Int) (60:Int)) fun r258=>(.ask (r258) (.ask (decide (0≤(IntKind.i64.wrap ((x0.length:Int)-(1:Int)))∧(IntKind.i64.wrap ((x0.length:Int)-(1:Int)))<x0.length)) (.opt (x0[((IntKind.i64.wrap ((x0.length:Int)-(1:Int)))).toNat]?) fun e259=>(.ask (decide (e259.length=14)) (.opt (zC .i64 e259 0) fun y260=>(.ask ((y260 !=(3:Int))) (.opt (qAi n x0 (IntKind.i64.wrap ((x0.length:Int)-(1:Int))) (0:Int)) fun r317=>(.done (r317==(0:Int)))) (.done false))) .fail)) .fail) (.done false)))
def qBl:Nat→RW→Option (Bool)
 |0,_=>none
 |n+1,x0=>(qC8 n x0).run
abbrev qNC (n:Nat):List (Ent (Rn n)):= [en (qC5 n),en (qIj n)]
theorem qHR:∀n,Ok (Rn n) qNB (qBl n)
 |0=>ok0 fun _=>rfl
 |n+1=>stO (T:=qC8 n) (by kernel_rfl) (qNC n) [] (fun _=>(by kernel_rfl)) fun _=>(by kernel_rfl)
def qLd:Sg:=⟨119,[aS],[],⟨(.tup [(false,[qL]),(false,[qB])]),[],[]⟩⟩
def qGu (n:Nat) (x0:BA):Tr (RW×Bool):=(.opt (qCo n x0 (200:Int)) fun r117=>(.ask ((!r117)) (.ask (decide (0=([]:RW).length)) (.done (([]:RW),false)) .fail) (.opt (qCh n (1:Int) (0:Int) x0 (0:Nat) false ([]:RW)) fun r256=>(.opt (qAv n r256.2.1 r256.2.2.1 r256.2.2.2.1 r256.2.2.2.2) fun r257=>(.ask (r257.2.2.1) (.ask (decide (0=([]:RW).length)) (.done (([]:RW),false)) .fail) (.ask ((!(r257.1.toList==(⟨#[]⟩:BA).toList))) (.ask (decide (0=([]:RW).length)) (.done (([]:RW),false)) .fail) (.ask (decide (r257.2.1=r257.2.2.2.length)) (.opt (qBl n r257.2.2.2) fun r318=>(.ask (zl (⟨(.c (.p (.b r318))),[],[]⟩:Res)) (.ask ((!r318)) (.ask (decide (0=([]:RW).length)) (.done (([]:RW),false)) .fail) (.ask (decide (r257.2.1=r257.2.2.2.length)) (.done (r257.2.2.2,true)) .fail)) .fail)) .fail)))))))
def qDJ:Nat→BA→Option (RW×Bool)
 |0,_=>none
 |n+1,x0=>(qGu n x0).run
abbrev qLe (n:Nat):List (Ent (Rn n)):= [en (qGg n),en (qJN n),en (qCR n),en (qHR n)]
theorem qF4:∀n,Ok (Rn n) qLd (qDJ n)
 |0=>ok0 fun _=>rfl
 |n+1=>stO (T:=qGu n) (by kernel_rfl) (qLe n) [] (fun _=>(by kernel_rfl)) fun _=>(by kernel_rfl)
def qFY:Sg:=⟨251,[aS,aS,aS],[],⟨aS,[],[]⟩⟩
def qDj:Nat→BA→BA→BA→Option ((BA))
 |0,_,_,_=>none
 |n+1,x0,x1,x2=>zb x0 x1 x2
theorem qJQ:∀n,Ok (Rn n) qFY (qDj n)
 |0=>ok0 fun _=>rfl
 |n+1=>stL (by kernel_rfl) (fun a r e=>congrArg (Option.map fun r=>(qFY.Of r).v) e) rfl rfl rfl
def qJy:Sg:=⟨252,[aL,aS],[],⟨aS,[],[]⟩⟩
def qGv:Nat→RW→BA→Option ((BA))
 |0,_,_=>none
 |n+1,x0,x1=>zAa x0 x1
theorem qON:∀n,Ok (Rn n) qJy (qGv n)
 |0=>ok0 fun _=>rfl
 |n+1=>stL (by kernel_rfl) (fun a r e=>congrArg (Option.map fun r=>(qJy.Of r).v) e) rfl rfl rfl
def qEL:Sg:=⟨225,[aL,aI,aI],[],⟨aS,[],[]⟩⟩
def qBW (rec:RW→Int→Int→Option (BA)) (n:Nat) (v:RW×Nat×RW×Int×Int×Int×Int×Int×Int×BA×Int×Int×Bool×Bool×Int×Int×Bool×Bool×RW×RW):Tr ((RW×Nat×RW×Int×Int×Int×Int×Int×Int×BA×Int×Int×Bool×Bool×Int×Int×Bool×Bool×RW×RW)⊕((Nat×Int×Int×Int×Int×BA×Int×Int×Bool×Bool×Int×Int×Bool×Bool×RW×RW))):=(.ask ((decide (v.2.2.2.2.1<v.2.2.2.1))) (.ask (decide (0≤v.2.2.2.2.1∧v.2.2.2.2.1<v.2.2.1.length)) (.opt (v.2.2.1[(v.2.2.2.2.1).toNat]?) fun e352=>(.ask (decide (e352.length=1)) (.opt (zC .i64 e352 0) fun y353=>(.opt (rec v.1 y353 (1:Int)) fun r354=>(.ask (decide (1=([[(.s r354)]]:RW).length)) (.ask (decide (v.2.1=v.2.2.2.2.2.2.2.2.2.2.2.2.2.2.2.2.2.2.2.length∧0<1∧0<16∧(v.2.1+([[(.s r354)]]:RW).length)*16≤140737488355328∧([[(.s r354)]]:RW).all (fun e=>e.length==1)=true)) (.done (.inl (v.1,(v.2.1+1),v.2.2.1,v.2.2.2.1,(IntKind.i64.wrap (v.2.2.2.2.1+(1:Int))),v.2.2.2.2.2.1,v.2.2.2.2.2.2.1,v.2.2.2.2.2.2.2.1,v.2.2.2.2.2.2.2.2.1,v.2.2.2.2.2.2.2.2.2.1,v.2.2.2.2.2.2.2.2.2.2.1,v.2.2.2.2.2.2.2.2.2.2.2.1,v.2.2.2.2.2.2.2.2.2.2.2.2.1,v.2.2.2.2.2.2.2.2.2.2.2.2.2.1,v.2.2.2.2.2.2.2.2.2.2.2.2.2.2.1,v.2.2.2.2.2.2.2.2.2.2.2.2.2.2.2.1,v.2.2.2.2.2.2.2.2.2.2.2.2.2.2.2.2.1,v.2.2.2.2.2.2.2.2.2.2.2.2.2.2.2.2.2.1,v.2.2.2.2.2.2.2.2.2.2.2.2.2.2.2.2.2.2.1,(v.2.2.2.2.2.2.2.2.2.2.2.2.2.2.2.2.2.2.2++([[(.s r354)]]:RW))))) .fail) .fail))) .fail)) .fail) (.done (.inr ((v.2.1,v.2.2.2.2.2.1,v.2.2.2.2.2.2.1,v.2.2.2.2.2.2.2.1,v.2.2.2.2.2.2.2.2.1,v.2.2.2.2.2.2.2.2.2.1,v.2.2.2.2.2.2.2.2.2.2.1,v.2.2.2.2.2.2.2.2.2.2.2.1,v.2.2.2.2.2.2.2.2.2.2.2.2.1,v.2.2.2.2.2.2.2.2.2.2.2.2.2.1,v.2.2.2.2.2.2.2.2.2.2.2.2.2.2.1,v.2.2.2.2.2.2.2.2.2.2.2.2.2.2.2.1,v.2.2.2.2.2.2.2.2.2.2.2.2.2.2.2.2.1,v.2.2.2.2.2.2.2.2.2.2.2.2.2.2.2.2.2.1,v.2.2.2.2.2.2.2.2.2.2.2.2.2.2.2.2.2.2.1,v.2.2.2.2.2.2.2.2.2.2.2.2.2.2.2.2.2.2.2)))))
def qAk (rec:RW→Int→Int→Option (BA)) (n:Nat) (x0:RW) (x1 x2:Int):Tr (BA):=(.ask (decide (0≤x1∧x1<x0.length)) (.opt (x0[(x1).toNat]?) fun e321=>(.ask (decide (e321.length=14)) (.opt (zC .i64 e321 0) fun y322=>(.opt (zC .i64 e321 1) fun y323=>(.opt (zC .i64 e321 2) fun y324=>(.opt (zC .i64 e321 3) fun y325=>(.opt (zZ e321 4) fun y326=>(.opt (zC .i64 e321 5) fun y327=>(.opt (zC .i64 e321 6) fun y328=>(.opt (zy e321 7) fun y329=>(.opt (zy e321 8) fun y330=>(.opt (zC .i64 e321 9) fun y331=>(.opt (zC .i64 e321 10) fun y332=>(.opt (zy e321 11) fun y333=>(.opt (zy e321 12) fun y334=>(.opt (zAk e321 13) fun y335=>(.ask ((y322==(1:Int))) (.ask ((y324==(2:Int))) (.opt (qDj n y326 (⟨#[34]⟩:BA) (⟨#[34,34]⟩:BA)) fun r336=>(.ask (decide ((⟨#[34]⟩:BA).size+r336.size≤9223372036854775807)) (.ask (decide (((⟨#[34]⟩:BA)++r336).size+(⟨#[34]⟩:BA).size≤9223372036854775807)) (.done (((⟨#[34]⟩:BA)++r336)++(⟨#[34]⟩:BA))) .fail) .fail)) (.opt (qq n y324 y325 y326) fun r337=>(.done r337))) (.ask ((y322==(2:Int))) (.opt (qA6 n y327 y328 y329 y330) fun r338=>(.done r338)) (.ask ((y322==(3:Int))) (.opt (qA6 n y327 y328 y329 y330) fun r339=>(.ask (decide (r339.size+(⟨#[58]⟩:BA).size≤9223372036854775807)) (.opt (qA6 n y331 y332 y333 y334) fun r340=>(.ask (decide ((r339++(⟨#[58]⟩:BA)).size+r340.size≤9223372036854775807)) (.done ((r339++(⟨#[58]⟩:BA))++r340)) .fail)) .fail)) (.ask ((y322==(4:Int))) (.ask (decide (0≤(0:Int)∧(0:Int)<y335.length)) (.opt (y335[((0:Int)).toNat]?) fun e341=>(.ask (decide (e341.length=1)) (.opt (zC .i64 e341 0) fun y342=>(.opt (rec x0 y342 (5:Int)) fun r343=>(.ask (decide ((⟨#[45]⟩:BA).size+r343.size≤9223372036854775807)) (.done ((⟨#[45]⟩:BA)++r343)) .fail))) .fail)) .fail) (.ask ((y322==(5:Int))) (.opt (qDs n y323) fun r344=>(.ask (decide (0≤(0:Int)∧(0:Int)<y335.length)) (.opt (y335[((0:Int)).toNat]?) fun e345=>(.ask (decide (e345.length=1)) (.opt (zC .i64 e345 0) fun y346=>(.ask (decide (0≤(1:Int)∧(1:Int)<y335.length)) (.opt (y335[((1:Int)).toNat]?) fun e347=>(.ask (decide (e347.length=1)) (.opt (zC .i64 e347 0) fun y348=>(.opt (rec x0 y346 r344) fun r349=>(.opt (qBQ n y323) fun r350=>(.ask (decide (r349.size+r350.size≤9223372036854775807)) (.opt (rec x0 y348 (IntKind.i64.wrap (r344+(1:Int)))) fun r351=>(.ask (decide ((r349++r350).size+r351.size≤9223372036854775807)) (.ask ((decide (r344<x2))) (.ask (decide ((⟨#[40]⟩:BA).size+((r349++r350)++r351).size≤9223372036854775807)) (.ask (decide (((⟨#[40]⟩:BA)++((r349++r350)++r351)).size+(⟨#[41]⟩:BA).size≤9223372036854775807)) (.done (((⟨#[40]⟩:BA)++((r349++r350)++r351))++(⟨#[41]⟩:BA))) .fail) .fail) (.done ((r349++r350)++r351))) .fail)) .fail)))) .fail)) .fail)) .fail)) .fail)) (.opt (zD (qBW rec n) n (x0,(0:Nat),y335,(y335.length:Int),(0:Int),y322,y323,y324,y325,y326,y327,y328,y329,y330,y331,y332,y333,y334,y335,([]:RW))) fun r355=>(.opt (qCF n r355.2.2.1) fun r356=>(.ask (decide (r356.size+(⟨#[40]⟩:BA).size≤9223372036854775807)) (.ask (decide (r355.1=r355.2.2.2.2.2.2.2.2.2.2.2.2.2.2.2.length)) (.opt (qGv n r355.2.2.2.2.2.2.2.2.2.2.2.2.2.2.2 (⟨#[44]⟩:BA)) fun r357=>(.ask (zl (⟨(.c (.p (.s r357))),[],[]⟩:Res)) (.ask (decide ((r356++(⟨#[40]⟩:BA)).size+r357.size≤9223372036854775807)) (.ask (decide (((r356++(⟨#[40]⟩:BA))++r357).size+(⟨#[41]⟩:BA).size≤9223372036854775807)) (.done (((r356++(⟨#[40]⟩:BA))++r357)++(⟨#[41]⟩:BA))) .fail) .fail) .fail)) .fail) .fail)))))))))))))))))))))) .fail)) .fail)
def qa:Nat→RW→Int→Int→Option (BA)
 |0,_,_,_=>none
 |n+1,x0,x1,x2=>(qAk (qa n) n x0 x1 x2).run
abbrev qGw (n:Nat) (ih:Ok (Rn n) qEL (qa n)):List (Ent (Rn n)):= [en (qJQ n),en (qHN n),en (qHP n),en ih,en (qK6 n),en (qJv n),en (qJu n),en (qON n)]
def qIk (n:Nat) (ih:Ok (Rn n) qEL (qa n)):LEnt (KB 225) (Rn n) n:=lok (zM 225) 125 ⟨⟨[(0,aL),(7,(.c (.ptr 0 448 0 0 0))),(10,(.c (.own 0 5760 0 0))),(92,aL),(93,aI),(94,aI)],[(448,⟨0,14,162,(.box [qI,qI,qI,qI,qS,qI,qI,qB,qB,qI,qI,qB,qB,qL])⟩),(5760,⟨0,1,9,(.row [])⟩)],[]⟩,[(.exit 1,⟨[(7,(.c (.ptr 0 448 0 0 0))),(10,(.c (.own 0 5760 0 0)))],[(448,⟨0,14,162,(.box [qI,qI,qI,qI,qS,qI,qI,qB,qB,qI,qI,qB,qB,qL])⟩),(5760,⟨0,1,9,(.row [])⟩)],[]⟩)]⟩ (qBW (qa n) n) (qGw n ih) [] fun _=>(by kernel_rfl)
theorem qD5:∀n,Ok (Rn n) qEL (qa n)
 |0=>ok0 fun _=>rfl
 |n+1=>stO (T:=qAk (qa n) n) (by kernel_rfl) (qGw n (qD5 n)) [qIk n (qD5 n)] (fun _=>(by kernel_rfl)) fun _=>(by kernel_rfl)
def qLf:Sg:=⟨199,[aL],[],⟨aS,[],[]⟩⟩
def qDK (n:Nat) (x0:RW):Tr (BA):=(.opt (qBl n x0) fun r320=>(.ask ((!r320)) (.done (⟨#[]⟩:BA)) (.opt (qa n x0 (IntKind.i64.wrap ((x0.length:Int)-(1:Int))) (1:Int)) fun r358=>(.ask ((decide ((r358.size:Int)>(200:Int)))) (.done (⟨#[]⟩:BA)) (.done r358)))))
def qBm:Nat→RW→Option (BA)
 |0,_=>none
 |n+1,x0=>(qDK n x0).run
abbrev qLg (n:Nat):List (Ent (Rn n)):= [en (qHR n),en (qD5 n)]
theorem qKt:∀n,Ok (Rn n) qLf (qBm n)
 |0=>ok0 fun _=>rfl
 |n+1=>stO (T:=qDK n) (by kernel_rfl) (qLg n) [] (fun _=>(by kernel_rfl)) fun _=>(by kernel_rfl)
def qOO:Sg:=⟨167,[aL],[],⟨(.tup [(false,[qS]),(false,[qB])]),[],[]⟩⟩
def qI8 (n:Nat) (x0:RW):Tr (BA×Bool):=(.opt (qBm n x0) fun r359=>(.ask (decide ((⟨#[61]⟩:BA).size+r359.size≤9223372036854775807)) (.ask ((!(r359.toList==(⟨#[]⟩:BA).toList))) (.done (((⟨#[61]⟩:BA)++r359),(decide ((r359.size:Int)<(200:Int))))) (.done (((⟨#[61]⟩:BA)++r359),false))) .fail))
def qFm:Nat→RW→Option (BA×Bool)
 |0,_=>none
 |n+1,x0=>(qI8 n x0).run
abbrev qOP (n:Nat):List (Ent (Rn n)):= [en (qKt n)]
theorem qND:∀n,Ok (Rn n) qOO (qFm n)
 |0=>ok0 fun _=>rfl
 |n+1=>stO (T:=qI8 n) (by kernel_rfl) (qOP n) [] (fun _=>(by kernel_rfl)) fun _=>(by kernel_rfl)
def qEV:Sg:=⟨231,[aS,aS],[],⟨aS,[],[]⟩⟩
def qCV (n:Nat) (x0 x1:BA):Tr (BA):=(.opt (qAA n x0 x1) fun r364=>(.ask (r364) (.ask (decide (0≤(x1.size:Int)∧(x1.size:Int)≤(x0.size:Int)∧(x0.size:Int)≤x0.size)) (.done (x0.extract ((x1.size:Int)).toNat ((x0.size:Int)).toNat)) .fail) (.done x0)))
def qBO:Nat→BA→BA→Option (BA)
 |0,_,_=>none
 |n+1,x0,x1=>(qCV n x0 x1).run
abbrev qEW (n:Nat):List (Ent (Rn n)):= [en (qCU n)]
theorem qEM:∀n,Ok (Rn n) qEV (qBO n)
 |0=>ok0 fun _=>rfl
 |n+1=>stO (T:=qCV n) (by kernel_rfl) (qEW n) [] (fun _=>(by kernel_rfl)) fun _=>(by kernel_rfl)
def qJz:Sg:=⟨202,[aS,aS],[],⟨aS,[],[]⟩⟩
def qFZ (n:Nat) (x0 x1:BA):Tr (BA):=(.opt (qBO n x0 x1) fun r365=>(.done r365))
def qDk:Nat→BA→BA→Option (BA)
 |0,_,_=>none
 |n+1,x0,x1=>(qFZ n x0 x1).run
abbrev qJ0 (n:Nat):List (Ent (Rn n)):= [en (qEM n)]
theorem qJR:∀n,Ok (Rn n) qJz (qDk n)
 |0=>ok0 fun _=>rfl
 |n+1=>stO (T:=qFZ n) (by kernel_rfl) (qJ0 n) [] (fun _=>(by kernel_rfl)) fun _=>(by kernel_rfl)
def qJ1:Sg:=⟨109,[aS,aS],[],⟨aS,[],[]⟩⟩
def qGx:Nat→BA→BA→Option ((BA))
 |0,_,_=>none
 |n+1,x0,x1=>zAF x0 x1
theorem qOQ:∀n,Ok (Rn n) qJ1 (qGx n)
 |0=>ok0 fun _=>rfl
 |n+1=>stL (by kernel_rfl) (fun a r e=>congrArg (Option.map fun r=>(qJ1.Of r).v) e) rfl rfl rfl
def qOR:Sg:=⟨169,[aS],[],⟨aB,[],[]⟩⟩
def qI9 (n:Nat) (x0:BA):Tr (Bool):=(.opt (qDk n x0 (⟨#[45]⟩:BA)) fun r366=>(.ask ((!(r366.toList==(⟨#[]⟩:BA).toList))) (.opt (qGx n r366 (⟨#[48,49,50,51,52,53,54,55,56,57]⟩:BA)) fun r367=>(.done (r367.toList==(⟨#[]⟩:BA).toList))) (.done false)))
def qEF:Nat→BA→Option (Bool)
 |0,_=>none
 |n+1,x0=>(qI9 n x0).run
abbrev qOS (n:Nat):List (Ent (Rn n)):= [en (qJR n),en (qOQ n)]
theorem qNE:∀n,Ok (Rn n) qOR (qEF n)
 |0=>ok0 fun _=>rfl
 |n+1=>stO (T:=qI9 n) (by kernel_rfl) (qOS n) [] (fun _=>(by kernel_rfl)) fun _=>(by kernel_rfl)
def qPe:Sg:=⟨133,[aS],[],⟨(.tup [(false,[qS]),(false,[qB])]),[],[]⟩⟩
def qJ2 (n:Nat) (x0:BA):Tr (BA×Bool):=(.opt (qCo n x0 (200:Int)) fun r115=>(.ask ((!r115)) (.done ((⟨#[]⟩:BA),(x0.toList==(⟨#[]⟩:BA).toList))) (.ask ((x0.toList==(⟨#[]⟩:BA).toList)) (.done ((⟨#[]⟩:BA),(x0.toList==(⟨#[]⟩:BA).toList))) (.opt (qv n x0 (⟨#[61]⟩:BA)) fun r116=>(.ask (r116.2) (.opt (qDJ n r116.1) fun r319=>(.opt (qFm n r319.1) fun r360=>(.ask ((!r319.2)) (.done ((⟨#[]⟩:BA),false)) (.ask ((!r360.2)) (.done ((⟨#[]⟩:BA),false)) (.done (r360.1,true)))))) (.opt (qAw n x0 (10:Int) (64:Int)) fun r361=>(.alt r361 (fun r362=>(.ask (true) (.opt (qEF n x0) fun r368=>(.ask (r368) (.opt (qCp n r362) fun r369=>(.opt (qAS n r369.1 r369.2.1 r369.2.2) fun r370=>(.ask (r370) (.opt (qBB n r362) fun r371=>(.done (r371,true))) (.opt (qd n x0) fun r372=>(.ask (r372.2.2.2) (.done (x0,true)) (.ask (((x0.size:Int)==(200:Int))) (.done ((⟨#[]⟩:BA),false)) (.ask (decide ((⟨#[39]⟩:BA).size+x0.size≤9223372036854775807)) (.done (((⟨#[39]⟩:BA)++x0),true)) .fail))))))) (.opt (qd n x0) fun r373=>(.ask (r373.2.2.2) (.done (x0,true)) (.ask (((x0.size:Int)==(200:Int))) (.done ((⟨#[]⟩:BA),false)) (.ask (decide ((⟨#[39]⟩:BA).size+x0.size≤9223372036854775807)) (.done (((⟨#[39]⟩:BA)++x0),true)) .fail)))))) (.opt (qd n x0) fun r374=>(.ask (r374.2.2.2) (.done (x0,true)) (.ask (((x0.size:Int)==(200:Int))) (.done ((⟨#[]⟩:BA),false)) (.ask (decide ((⟨#[39]⟩:BA).size+x0.size≤9223372036854775807)) (.done (((⟨#[39]⟩:BA)++x0),true)) .fail)))))) (fun r363=>(.ask (false) (.opt (qEF n x0) fun r375=>(.ask (r375) (.opt (qCp n r363) fun r376=>(.opt (qAS n r376.1 r376.2.1 r376.2.2) fun r377=>(.ask (r377) (.opt (qBB n r363) fun r378=>(.done (r378,true))) (.opt (qd n x0) fun r379=>(.ask (r379.2.2.2) (.done (x0,true)) (.ask (((x0.size:Int)==(200:Int))) (.done ((⟨#[]⟩:BA),false)) (.ask (decide ((⟨#[39]⟩:BA).size+x0.size≤9223372036854775807)) (.done (((⟨#[39]⟩:BA)++x0),true)) .fail))))))) (.opt (qd n x0) fun r380=>(.ask (r380.2.2.2) (.done (x0,true)) (.ask (((x0.size:Int)==(200:Int))) (.done ((⟨#[]⟩:BA),false)) (.ask (decide ((⟨#[39]⟩:BA).size+x0.size≤9223372036854775807)) (.done (((⟨#[39]⟩:BA)++x0),true)) .fail)))))) (.opt (qd n x0) fun r381=>(.ask (r381.2.2.2) (.done (x0,true)) (.ask (((x0.size:Int)==(200:Int))) (.done ((⟨#[]⟩:BA),false)) (.ask (decide ((⟨#[39]⟩:BA).size+x0.size≤9223372036854775807)) (.done (((⟨#[39]⟩:BA)++x0),true)) .fail)))))))))))))
def qGy:Nat→BA→Option (BA×Bool)
 |0,_=>none
 |n+1,x0=>(qJ2 n x0).run
abbrev qPf (n:Nat):List (Ent (Rn n)):= [en (qGg n),en (qBv n),en (qF4 n),en (qND n),en2 (qD3 n),en (qNE n),en (qJs n),en (qFk n),en (qFl n),en (qHO n)]
theorem qOT:∀n,Ok (Rn n) qPe (qGy n)
 |0=>ok0 fun _=>rfl
 |n+1=>stO (T:=qJ2 n) (by kernel_rfl) (qPf n) [] (fun _=>(by kernel_rfl)) fun _=>(by kernel_rfl)
def qOU:Sg:=⟨91,[aS],[],⟨aB,[],[]⟩⟩
def qJA (n:Nat) (x0:BA):Tr (Bool):=(.opt (qGy n x0) fun r382=>(.ask (r382.2) (.ask ((!(x0.toList==(⟨#[]⟩:BA).toList))) (.done (r382.1.toList==x0.toList)) (.done false)) (.done false)))
def qDP:Nat→BA→Option (Bool)
 |0,_=>none
 |n+1,x0=>(qJA n x0).run
abbrev qOV (n:Nat):List (Ent (Rn n)):= [en (qOT n)]
theorem qNF:∀n,Ok (Rn n) qOU (qDP n)
 |0=>ok0 fun _=>rfl
 |n+1=>stO (T:=qJA n) (by kernel_rfl) (qOV n) [] (fun _=>(by kernel_rfl)) fun _=>(by kernel_rfl)
def qPg:Sg:=⟨47,[aL],[],⟨aB,[],[]⟩⟩
def qEq (n:Nat) (v:RW×RW×Int×Int):Tr ((RW×RW×Int×Int)⊕((Bool)⊕(RW))):=(.ask ((decide (v.2.2.2<v.2.2.1))) (.ask (decide (0≤v.2.2.2∧v.2.2.2<v.2.1.length)) (.opt (v.2.1[(v.2.2.2).toNat]?) fun e89=>(.ask (decide (e89.length=3)) (.opt (zC .i64 e89 0) fun y90=>(.opt (zC .i64 e89 1) fun y91=>(.opt (zZ e89 2) fun y92=>(.opt (qBq n y90 y91) fun r93=>(.ask ((!r93)) (.done (.inr (.inl (false)))) (.ask ((decide (v.2.2.2>(0:Int)))) (.ask (decide (0≤(IntKind.i64.wrap (v.2.2.2-(1:Int)))∧(IntKind.i64.wrap (v.2.2.2-(1:Int)))<v.1.length)) (.opt (v.1[((IntKind.i64.wrap (v.2.2.2-(1:Int)))).toNat]?) fun e94=>(.ask (decide (e94.length=3)) (.opt (zC .i64 e94 0) fun y95=>(.opt (zC .i64 e94 1) fun y96=>(.opt (qBh n y95 y96 y90 y91) fun r97=>(.ask ((decide (r97≥(0:Int)))) (.done (.inr (.inl (false)))) (.opt (qDP n y92) fun r98=>(.ask ((!r98)) (.done (.inr (.inl (false)))) (.done (.inl (v.1,v.2.1,v.2.2.1,(IntKind.i64.wrap (v.2.2.2+(1:Int)))))))))))) .fail)) .fail) (.opt (qDP n y92) fun r99=>(.ask ((!r99)) (.done (.inr (.inl (false)))) (.done (.inl (v.1,v.2.1,v.2.2.1,(IntKind.i64.wrap (v.2.2.2+(1:Int)))))))))))))) .fail)) .fail) (.done (.inr (.inr (v.1)))))
def qJ3 (n:Nat) (x0:RW):Tr (Bool):=(.opt (zD (qEq n) n (x0,x0,(x0.length:Int),(0:Int))) fun r100=>(.alt r100 (fun r101=>(.done r101)) (fun r102=>(.done (decide ((r102.length:Int)≤(120:Int)))))))
def qGz:Nat→RW→Option (Bool)
 |0,_=>none
 |n+1,x0=>(qJ3 n x0).run
abbrev qJ4 (n:Nat):List (Ent (Rn n)):= [en (qFP n),en (qKl n),en (qNF n)]
def qMG (n:Nat):LEnt (KB 47) (Rn n) n:=lok (zM 47) 13 ⟨⟨[(0,aL),(5,aL),(6,aI),(7,aI)],[],[]⟩,[(.ret,⟨[(2,aB)],[],[]⟩),(.exit 0,⟨[(0,aL)],[],[]⟩)]⟩ (qEq n) (qJ4 n) [] fun _=>(by kernel_rfl)
theorem qOW:∀n,Ok (Rn n) qPg (qGz n)
 |0=>ok0 fun _=>rfl
 |n+1=>stO (T:=qJ3 n) (by kernel_rfl) (qJ4 n) [qMG n] (fun _=>(by kernel_rfl)) fun _=>(by kernel_rfl)
def qOX:Sg:=⟨48,[aL,(.agg [qI,qI])],[],⟨aS,[],[]⟩⟩
def qEN (n:Nat) (v:RW×Int×Int×Int×Int):Tr ((RW×Int×Int×Int×Int)⊕((BA)⊕(Unit))):=(.ask ((decide (v.2.2.1<v.2.1))) (.ask (decide (0≤v.2.2.1∧v.2.2.1<v.1.length)) (.opt (v.1[(v.2.2.1).toNat]?) fun e104=>(.ask (decide (e104.length=3)) (.opt (zC .i64 e104 0) fun y105=>(.opt (zC .i64 e104 1) fun y106=>(.opt (zZ e104 2) fun y107=>(.ask (((y105==v.2.2.2.1)&&((y106==v.2.2.2.2)&&true))) (.done (.inr (.inl (y107)))) (.done (.inl (v.1,v.2.1,(IntKind.i64.wrap (v.2.2.1+(1:Int))),v.2.2.2.1,v.2.2.2.2))))))) .fail)) .fail) (.done (.inr (.inr (())))))
def qJB (n:Nat) (x0:RW) (x1 x2:Int):Tr (BA):=(.opt (zD (qEN n) n (x0,(x0.length:Int),(0:Int),x1,x2)) fun r108=>(.alt r108 (fun r109=>(.done r109)) (fun r110=>(.done (⟨#[]⟩:BA)))))
def qFn:Nat→RW→Int→Int→Option (BA)
 |0,_,_,_=>none
 |n+1,x0,x1,x2=>(qJB n x0 x1 x2).run
def qLh (n:Nat):LEnt (KB 48) (Rn n) n:=lok (zM 48) 13 ⟨⟨[(3,(.c (.ptr 0 192 0 0 0))),(7,aL),(8,aI),(9,aI)],[(192,⟨0,2,29,(.box [qI,qI])⟩)],[]⟩,[(.ret,⟨[(4,aS)],[],[]⟩),(.exit 0,⟨[],[],[]⟩)]⟩ (qEN n) [] [] fun _=>(by kernel_rfl)
theorem qNG:∀n,Ok (Rn n) qOX (qFn n)
 |0=>ok0 fun _=>rfl
 |n+1=>stO (T:=qJB n) (by kernel_rfl) [] [qLh n] (fun _=>(by kernel_rfl)) fun _=>(by kernel_rfl)
def qNH:Sg:=⟨76,[aS],[],⟨(.tup [(false,[qL]),(false,[qB])]),[],[]⟩⟩
def qFC (n:Nat) (x0:BA):Tr (RW×Bool):=(.opt (qv n x0 (⟨#[61]⟩:BA)) fun r112=>(.ask ((!r112.2)) (.ask (decide (0=([]:RW).length)) (.done (([]:RW),false)) .fail) (.opt (qDJ n r112.1) fun r113=>(.done (r113.1,r113.2)))))
def qFD:Nat→BA→Option (RW×Bool)
 |0,_=>none
 |n+1,x0=>(qFC n x0).run
abbrev qNI (n:Nat):List (Ent (Rn n)):= [en (qBv n),en (qF4 n)]
theorem qMH:∀n,Ok (Rn n) qNH (qFD n)
 |0=>ok0 fun _=>rfl
 |n+1=>stO (T:=qFC n) (by kernel_rfl) (qNI n) [] (fun _=>(by kernel_rfl)) fun _=>(by kernel_rfl)
def qPh:Sg:=⟨77,[aL],[],⟨aL,[],[]⟩⟩
def qEr (n:Nat) (v:Nat×RW×Int×Int×RW):Tr ((Nat×RW×Int×Int×RW)⊕((Nat×RW))):=(.ask ((decide (v.2.2.2.1<v.2.2.1))) (.ask (decide (0≤v.2.2.2.1∧v.2.2.2.1<v.2.1.length)) (.opt (v.2.1[(v.2.2.2.1).toNat]?) fun e115=>(.ask (decide (e115.length=14)) (.opt (zC .i64 e115 0) fun y116=>(.opt (zC .i64 e115 1) fun y117=>(.opt (zC .i64 e115 2) fun y118=>(.opt (zC .i64 e115 3) fun y119=>(.opt (zZ e115 4) fun y120=>(.opt (zC .i64 e115 5) fun y121=>(.opt (zC .i64 e115 6) fun y122=>(.opt (zy e115 7) fun y123=>(.opt (zy e115 8) fun y124=>(.opt (zC .i64 e115 9) fun y125=>(.opt (zC .i64 e115 10) fun y126=>(.opt (zy e115 11) fun y127=>(.opt (zy e115 12) fun y128=>(.opt (zAk e115 13) fun y129=>(.ask ((y116==(2:Int))) (.opt (qA9 n y116 y117 y118 y119 y120 y121 y122 y123 y124 y125 y126 y127 y128 y129) fun r130=>(.ask (decide (1=([[(.i .i64 r130.1),(.i .i64 r130.2.1),(.i .i64 r130.2.2.1),(.i .i64 r130.2.2.2)]]:RW).length)) (.ask (decide (v.1=v.2.2.2.2.length∧0<4∧0<32∧(v.1+([[(.i .i64 r130.1),(.i .i64 r130.2.1),(.i .i64 r130.2.2.1),(.i .i64 r130.2.2.2)]]:RW).length)*32≤140737488355328∧([[(.i .i64 r130.1),(.i .i64 r130.2.1),(.i .i64 r130.2.2.1),(.i .i64 r130.2.2.2)]]:RW).all (fun e=>e.length==4)=true)) (.done (.inl ((v.1+1),v.2.1,v.2.2.1,(IntKind.i64.wrap (v.2.2.2.1+(1:Int))),(v.2.2.2.2++([[(.i .i64 r130.1),(.i .i64 r130.2.1),(.i .i64 r130.2.2.1),(.i .i64 r130.2.2.2)]]:RW))))) .fail) .fail)) (.ask ((y116==(3:Int))) (.opt (qA9 n y116 y117 y118 y119 y120 y121 y122 y123 y124 y125 y126 y127 y128 y129) fun r131=>(.ask (decide (1=([[(.i .i64 r131.1),(.i .i64 r131.2.1),(.i .i64 r131.2.2.1),(.i .i64 r131.2.2.2)]]:RW).length)) (.ask (decide (v.1=v.2.2.2.2.length∧0<4∧0<32∧(v.1+([[(.i .i64 r131.1),(.i .i64 r131.2.1),(.i .i64 r131.2.2.1),(.i .i64 r131.2.2.2)]]:RW).length)*32≤140737488355328∧([[(.i .i64 r131.1),(.i .i64 r131.2.1),(.i .i64 r131.2.2.1),(.i .i64 r131.2.2.2)]]:RW).all (fun e=>e.length==4)=true)) (.done (.inl ((v.1+1),v.2.1,v.2.2.1,(IntKind.i64.wrap (v.2.2.2.1+(1:Int))),(v.2.2.2.2++([[(.i .i64 r131.1),(.i .i64 r131.2.1),(.i .i64 r131.2.2.1),(.i .i64 r131.2.2.2)]]:RW))))) .fail) .fail)) (.done (.inl (v.1,v.2.1,v.2.2.1,(IntKind.i64.wrap (v.2.2.2.1+(1:Int))),v.2.2.2.2))))))))))))))))))) .fail)) .fail) (.done (.inr ((v.1,v.2.2.2.2)))))
def qJ5 (n:Nat) (x0:RW):Tr (RW):=(.opt (zD (qEr n) n ((0:Nat),x0,(x0.length:Int),(0:Int),([]:RW))) fun r132=>(.ask (decide (r132.1=r132.2.length)) (.done r132.2) .fail))
def qG0:Nat→RW→Option (RW)
 |0,_=>none
 |n+1,x0=>(qJ5 n x0).run
abbrev qJ6 (n:Nat):List (Ent (Rn n)):= [en (qGt n)]
def qMI (n:Nat):LEnt (KB 77) (Rn n) n:=lok (zM 77) 29 ⟨⟨[(3,(.c (.own 0 384 0 0))),(7,aL),(8,aI),(9,aI)],[(384,⟨0,4,159,(.row [])⟩)],[]⟩,[(.exit 0,⟨[(3,(.c (.own 0 384 0 0)))],[(384,⟨0,4,159,(.row [])⟩)],[]⟩)]⟩ (qEr n) (qJ6 n) [] fun _=>(by kernel_rfl)
theorem qOY:∀n,Ok (Rn n) qPh (qG0 n)
 |0=>ok0 fun _=>rfl
 |n+1=>stO (T:=qJ5 n) (by kernel_rfl) (qJ6 n) [qMI n] (fun _=>(by kernel_rfl)) fun _=>(by kernel_rfl)
def qOZ:Sg:=⟨123,[(.agg [qI,qI,qI,qI]),(.agg [qI,qI])],[],⟨aB,[],[]⟩⟩
def qFo (n:Nat) (x0 x1 x2 x3 x4 x5:Int):Tr (Bool):=(.opt (qAM n x4 x0 x2) fun r145=>(.ask (r145) (.opt (qAM n x5 x1 x3) fun r146=>(.done r146)) (.done false)))
def qFp:Nat→Int→Int→Int→Int→Int→Int→Option (Bool)
 |0,_,_,_,_,_,_=>none
 |n+1,x0,x1,x2,x3,x4,x5=>(qFo n x0 x1 x2 x3 x4 x5).run
abbrev qOa (n:Nat):List (Ent (Rn n)):= [en (qC5 n)]
theorem qNJ:∀n,Ok (Rn n) qOZ (qFp n)
 |0=>ok0 fun _=>rfl
 |n+1=>stO (T:=qFo n) (by kernel_rfl) (qOa n) [] (fun _=>(by kernel_rfl)) fun _=>(by kernel_rfl)
def qQb:Sg:=⟨122,[(.agg [qI,qI,qI,qI]),(.c (.rp [vI,vI] 0))],[],⟨aB,[],[]⟩⟩
def qHv (n:Nat) (x0 x1 x2 x3 x4 x5:Int):Tr (Bool):=(.opt (some x4:Option Int) fun y143=>(.opt (some x5:Option Int) fun y144=>(.opt (qFp n x0 x1 x2 x3 y143 y144) fun r147=>(.done r147))))
def qFQ:Nat→Int→Int→Int→Int→Int→Int→Option (Bool)
 |0,_,_,_,_,_,_=>none
 |n+1,x0,x1,x2,x3,x4,x5=>(qHv n x0 x1 x2 x3 x4 x5).run
abbrev qQc (n:Nat):List (Ent (Rn n)):= [en (qNJ n)]
theorem qPi:∀n,Ok (Rn n) qQb (qFQ n)
 |0=>ok0 fun _=>rfl
 |n+1=>stO (T:=qHv n) (by kernel_rfl) (qQc n) [] (fun _=>(by kernel_rfl)) fun _=>(by kernel_rfl)
def qB9:Sg:=⟨162,[aL,(.c (.fn 122 [(.rp [vI,vI])]))],[],⟨aI,[],[]⟩⟩
def qh (n:Nat) (v:RW×Int×Int×Int×Int):Tr ((RW×Int×Int×Int×Int)⊕((Int)⊕(Unit))):=(.ask ((decide (v.2.2.2.2<v.2.2.2.1))) (.ask (decide (0≤v.2.2.2.2∧v.2.2.2.2<v.1.length)) (.opt (v.1[(v.2.2.2.2).toNat]?) fun e138=>(.ask (decide (e138.length=4)) (.opt (zC .i64 e138 0) fun y139=>(.opt (zC .i64 e138 1) fun y140=>(.opt (zC .i64 e138 2) fun y141=>(.opt (zC .i64 e138 3) fun y142=>(.opt (qFQ n y139 y140 y141 y142 v.2.1 v.2.2.1) fun r143=>(.ask (r143) (.done (.inr (.inl (v.2.2.2.2)))) (.done (.inl (v.1,v.2.1,v.2.2.1,v.2.2.2.1,(IntKind.i64.wrap (v.2.2.2.2+(1:Int)))))))))))) .fail)) .fail) (.done (.inr (.inr (())))))
def qm (n:Nat) (x0:RW) (x1 x2:Int):Tr (Int):=(.opt (zD (qh n) n (x0,x1,x2,(x0.length:Int),(0:Int))) fun r144=>(.alt r144 (fun r145=>(.done r145)) (fun r146=>(.done (-1:Int)))))
def qAF:Nat→RW→Int→Int→Option (Int)
 |0,_,_,_=>none
 |n+1,x0,x1,x2=>(qm n x0 x1 x2).run
abbrev qAp (n:Nat):List (Ent (Rn n)):= [en (qPi n)]
def qBx (n:Nat):LEnt (KB 162) (Rn n) n:=lok (zM 162) 13 ⟨⟨[(0,aL),(1,(.c (.fn 122 [(.rp [vI,vI])]))),(7,aI),(8,aI)],[],[]⟩,[(.ret,⟨[(4,aI)],[],[]⟩),(.exit 0,⟨[],[],[]⟩)]⟩ (qh n) (qAp n) [] fun _=>(by kernel_rfl)
theorem qB4:∀n,Ok (Rn n) qB9 (qAF n)
 |0=>ok0 fun _=>rfl
 |n+1=>stO (T:=qm n) (by kernel_rfl) (qAp n) [qBx n] (fun _=>(by kernel_rfl)) fun _=>(by kernel_rfl)
def qBy:Sg:=⟨121,[aL,(.c (.fn 122 [(.rp [vI,vI])]))],[],⟨aB,[],[]⟩⟩
def q7 (n:Nat) (x0:RW) (x1 x2:Int):Tr (Bool):=(.opt (qAF n x0 x1 x2) fun r147=>(.done (decide (r147≥(0:Int)))))
def q8:Nat→RW→Int→Int→Option (Bool)
 |0,_,_,_=>none
 |n+1,x0,x1,x2=>(q7 n x0 x1 x2).run
abbrev qBz (n:Nat):List (Ent (Rn n)):= [en (qB4 n)]
theorem qBs:∀n,Ok (Rn n) qBy (q8 n)
 |0=>ok0 fun _=>rfl
 |n+1=>stO (T:=q7 n) (by kernel_rfl) (qBz n) [] (fun _=>(by kernel_rfl)) fun _=>(by kernel_rfl)
def qRs:Sg:=⟨78,[aL,(.agg [qI,qI])],[],⟨aB,[],[]⟩⟩
def qJ7 (n:Nat) (x0:RW) (x1 x2:Int):Tr (Bool):=(.opt (q8 n x0 x1 x2) fun r148=>(.done r148))
def qHS:Nat→RW→Int→Int→Option (Bool)
 |0,_,_,_=>none
 |n+1,x0,x1,x2=>(qJ7 n x0 x1 x2).run
abbrev qRt (n:Nat):List (Ent (Rn n)):= [en (qBs n)]
theorem qRO:∀n,Ok (Rn n) qRs (qHS n)
 |0=>ok0 fun _=>rfl
 |n+1=>stO (T:=qJ7 n) (by kernel_rfl) (qRt n) [] (fun _=>(by kernel_rfl)) fun _=>(by kernel_rfl)
def qPj:Sg:=⟨32,[aL,(.agg [qI,qI])],[],⟨(.c (.own 0 0 0 0)),[],[⟨0,2,29,(.row [])⟩]⟩⟩
def qDL (n:Nat) (v:RW×Nat×RW×Int×Int×RW):Tr ((RW×Nat×RW×Int×Int×RW)⊕((Nat×RW))):=(.ask ((decide (v.2.2.2.2.1<v.2.2.2.1))) (.ask (decide (0≤v.2.2.2.2.1∧v.2.2.2.2.1<v.2.2.1.length)) (.opt (v.2.2.1[(v.2.2.2.2.1).toNat]?) fun e134=>(.ask (decide (e134.length=3)) (.opt (zC .i64 e134 0) fun y135=>(.opt (zC .i64 e134 1) fun y136=>(.opt (zZ e134 2) fun y137=>(.opt (qHS n v.1 y135 y136) fun r138=>(.ask (r138) (.ask (decide (1=([[(.i .i64 y135),(.i .i64 y136)]]:RW).length)) (.ask (decide (v.2.1=v.2.2.2.2.2.length∧0<2∧0<16∧(v.2.1+([[(.i .i64 y135),(.i .i64 y136)]]:RW).length)*16≤140737488355328∧([[(.i .i64 y135),(.i .i64 y136)]]:RW).all (fun e=>e.length==2)=true)) (.done (.inl (v.1,(v.2.1+1),v.2.2.1,v.2.2.2.1,(IntKind.i64.wrap (v.2.2.2.2.1+(1:Int))),(v.2.2.2.2.2++([[(.i .i64 y135),(.i .i64 y136)]]:RW))))) .fail) .fail) (.done (.inl (v.1,v.2.1,v.2.2.1,v.2.2.2.1,(IntKind.i64.wrap (v.2.2.2.2.1+(1:Int))),v.2.2.2.2.2)))))))) .fail)) .fail) (.done (.inr ((v.2.1,v.2.2.2.2.2)))))
def qG1 (n:Nat) (x0:RW) (x1 x2:Int):Tr (Nat×RW):=(.opt (qGz n x0) fun r103=>(.ask ((!r103)) (.done ((0:Nat),([]:RW))) (.opt (qFn n x0 x1 x2) fun r111=>(.opt (qFD n r111) fun r114=>(.ask ((!r114.2)) (.done ((0:Nat),([]:RW))) (.opt (qG0 n r114.1) fun r133=>(.opt (zD (qDL n) n (r133,(0:Nat),x0,(x0.length:Int),(0:Int),([]:RW))) fun r139=>(.done (r139.1,r139.2)))))))))
def qDl:Nat→RW→Int→Int→Option (Nat×RW)
 |0,_,_,_=>none
 |n+1,x0,x1,x2=>(qG1 n x0 x1 x2).run
abbrev qJ8 (n:Nat):List (Ent (Rn n)):= [en (qOW n),en (qNG n),en (qMH n),en (qOY n),en (qRO n)]
def qLi (n:Nat):LEnt (KB 32) (Rn n) n:=lok (zM 32) 253 ⟨⟨[(7,aL),(8,(.c (.own 0 1600 0 0))),(26,aL),(27,aI),(28,aI)],[(1600,⟨0,2,29,(.row [])⟩)],[]⟩,[(.exit 0,⟨[(8,(.c (.own 0 1600 0 0)))],[(1600,⟨0,2,29,(.row [])⟩)],[]⟩)]⟩ (qDL n) (qJ8 n) [] fun _=>(by kernel_rfl)
theorem qOb:∀n,Ok (Rn n) qPj (qDl n)
 |0=>ok0 fun _=>rfl
 |n+1=>stO (T:=qG1 n) (by kernel_rfl) (qJ8 n) [qLi n] (fun _=>(by kernel_rfl)) fun _=>(by kernel_rfl)
def qRP:Sg:=⟨79,[(.agg [qI,qI]),(.agg [qI,qI])],[],⟨aB,[],[]⟩⟩
def qGC (n:Nat) (x0 x1 x2 x3:Int):Tr (Bool):=(.ask ((x0 !=x2)) (.done false) (.ask ((x1 !=x3)) (.done false) (.done true)))
def qDt:Nat→Int→Int→Int→Int→Option (Bool)
 |0,_,_,_,_=>none
 |n+1,x0,x1,x2,x3=>(qGC n x0 x1 x2 x3).run
theorem qK7:∀n,Ok (Rn n) qRP (qDt n)
 |0=>ok0 fun _=>rfl
 |n+1=>stO (T:=qGC n) (by kernel_rfl) [] [] (fun _=>(by kernel_rfl)) fun _=>(by kernel_rfl)
def qQd:Sg:=⟨33,[aL,aL],[],⟨aB,[],[]⟩⟩
def qC9 (n:Nat) (v:RW×RW×Int):Tr ((RW×RW×Int)⊕((Bool)⊕(Unit))):=(.ask ((decide (v.2.2<(v.1.length:Int)))) (.ask (decide (0≤v.2.2∧v.2.2<v.1.length)) (.opt (v.1[(v.2.2).toNat]?) fun e141=>(.ask (decide (e141.length=2)) (.opt (zC .i64 e141 0) fun y142=>(.opt (zC .i64 e141 1) fun y143=>(.ask (decide (0≤v.2.2∧v.2.2<v.2.1.length)) (.opt (v.2.1[(v.2.2).toNat]?) fun e144=>(.ask (decide (e144.length=2)) (.opt (zC .i64 e144 0) fun y145=>(.opt (zC .i64 e144 1) fun y146=>(.opt (qDt n y142 y143 y145 y146) fun r147=>(.ask ((!r147)) (.done (.inr (.inl (false)))) (.done (.inl (v.1,v.2.1,(IntKind.i64.wrap (v.2.2+(1:Int)))))))))) .fail)) .fail))) .fail)) .fail) (.done (.inr (.inr (())))))
def qHw (n:Nat) (x0 x1:RW):Tr (Bool):=(.ask (((x0.length:Int) !=(x1.length:Int))) (.done false) (.opt (zD (qC9 n) n (x0,x1,(0:Int))) fun r148=>(.alt r148 (fun r149=>(.done r149)) (fun r150=>(.done true)))))
def qDU:Nat→RW→RW→Option (Bool)
 |0,_,_=>none
 |n+1,x0,x1=>(qHw n x0 x1).run
abbrev qK8 (n:Nat):List (Ent (Rn n)):= [en (qK7 n)]
def qNK (n:Nat):LEnt (KB 33) (Rn n) n:=lok (zM 33) 29 ⟨⟨[(0,aL),(1,aL),(5,aI)],[],[]⟩,[(.ret,⟨[(4,aB)],[],[]⟩),(.exit 0,⟨[],[],[]⟩)]⟩ (qC9 n) (qK8 n) [] fun _=>(by kernel_rfl)
theorem qPk:∀n,Ok (Rn n) qQd (qDU n)
 |0=>ok0 fun _=>rfl
 |n+1=>stO (T:=qHw n) (by kernel_rfl) (qK8 n) [qNK n] (fun _=>(by kernel_rfl)) fun _=>(by kernel_rfl)
def qQe:Sg:=⟨49,[(.agg [qI,qI,qS]),(.agg [qI,qI,qS])],[],⟨aB,[],[]⟩⟩
def qHx (n:Nat) (x0 x1:Int) (x2:BA) (x3 x4:Int) (x5:BA):Tr (Bool):=(.opt (qDt n x0 x1 x3 x4) fun r161=>(.ask ((!r161)) (.done false) (.ask ((!(x2.toList==x5.toList))) (.done false) (.done true))))
def qFR:Nat→Int→Int→BA→Int→Int→BA→Option (Bool)
 |0,_,_,_,_,_,_=>none
 |n+1,x0,x1,x2,x3,x4,x5=>(qHx n x0 x1 x2 x3 x4 x5).run
abbrev qQf (n:Nat):List (Ent (Rn n)):= [en (qK7 n)]
theorem qPl:∀n,Ok (Rn n) qQe (qFR n)
 |0=>ok0 fun _=>rfl
 |n+1=>stO (T:=qHx n) (by kernel_rfl) (qQf n) [] (fun _=>(by kernel_rfl)) fun _=>(by kernel_rfl)
def qPm:Sg:=⟨16,[aL,aL],[],⟨aB,[],[]⟩⟩
def qCi (n:Nat) (v:RW×RW×Int):Tr ((RW×RW×Int)⊕((Bool)⊕(Unit))):=(.ask ((decide (v.2.2<(v.1.length:Int)))) (.ask (decide (0≤v.2.2∧v.2.2<v.1.length)) (.opt (v.1[(v.2.2).toNat]?) fun e153=>(.ask (decide (e153.length=3)) (.opt (zC .i64 e153 0) fun y154=>(.opt (zC .i64 e153 1) fun y155=>(.opt (zZ e153 2) fun y156=>(.ask (decide (0≤v.2.2∧v.2.2<v.2.1.length)) (.opt (v.2.1[(v.2.2).toNat]?) fun e157=>(.ask (decide (e157.length=3)) (.opt (zC .i64 e157 0) fun y158=>(.opt (zC .i64 e157 1) fun y159=>(.opt (zZ e157 2) fun y160=>(.opt (qFR n y154 y155 y156 y158 y159 y160) fun r161=>(.ask ((!r161)) (.done (.inr (.inl (false)))) (.done (.inl (v.1,v.2.1,(IntKind.i64.wrap (v.2.2+(1:Int))))))))))) .fail)) .fail)))) .fail)) .fail) (.done (.inr (.inr (())))))
def qG2 (n:Nat) (x0 x1:RW):Tr (Bool):=(.ask (((x0.length:Int) !=(x1.length:Int))) (.done false) (.opt (zD (qCi n) n (x0,x1,(0:Int))) fun r162=>(.alt r162 (fun r163=>(.done r163)) (fun r164=>(.done true)))))
def qEs:Nat→RW→RW→Option (Bool)
 |0,_,_=>none
 |n+1,x0,x1=>(qG2 n x0 x1).run
abbrev qJ9 (n:Nat):List (Ent (Rn n)):= [en (qPl n)]
def qMJ (n:Nat):LEnt (KB 16) (Rn n) n:=lok (zM 16) 29 ⟨⟨[(0,aL),(1,aL),(5,aI)],[],[]⟩,[(.ret,⟨[(4,aB)],[],[]⟩),(.exit 0,⟨[],[],[]⟩)]⟩ (qCi n) (qJ9 n) [] fun _=>(by kernel_rfl)
theorem qOc:∀n,Ok (Rn n) qPm (qEs n)
 |0=>ok0 fun _=>rfl
 |n+1=>stO (T:=qG2 n) (by kernel_rfl) (qJ9 n) [qMJ n] (fun _=>(by kernel_rfl)) fun _=>(by kernel_rfl)
def qOd:Sg:=⟨80,[aI],[],⟨aS,[],[]⟩⟩
def qBn (n:Nat) (v:Int×BA):Tr ((Int×BA)⊕((BA))):=(.ask ((decide (v.1>(0:Int)))) (.ask (decide (1=([[(.i .u8 (IntKind.u8.wrap (IntKind.i64.wrap ((48:Int)+(Int.tmod v.1 (10:Int))))))]]:RW).length)) (.opt (bytesOf ([[(.i .u8 (IntKind.u8.wrap (IntKind.i64.wrap ((48:Int)+(Int.tmod v.1 (10:Int))))))]]:RW)) fun l168=>(.ask (decide ((⟨l168.toArray⟩:BA).size+v.2.size≤9223372036854775807)) (.done (.inl ((IntKind.i64.wrap (Int.tdiv v.1 (10:Int))),((⟨l168.toArray⟩:BA)++v.2)))) .fail)) .fail) (.done (.inr (v.2))))
def qFq (n:Nat) (x0:Int):Tr (BA):=(.ask ((decide (x0≤(0:Int)))) (.done (⟨#[109,48]⟩:BA)) (.opt (zD (qBn n) n (x0,(⟨#[]⟩:BA))) fun r169=>(.ask (decide ((⟨#[109]⟩:BA).size+r169.size≤9223372036854775807)) (.done ((⟨#[109]⟩:BA)++r169)) .fail)))
def qDQ:Nat→Int→Option (BA)
 |0,_=>none
 |n+1,x0=>(qFq n x0).run
def qLj (n:Nat):LEnt (KB 80) (Rn n) n:=lok (zM 80) 30 ⟨⟨[(0,aI),(3,aS)],[],[]⟩,[(.exit 0,⟨[(3,aS)],[],[]⟩)]⟩ (qBn n) [] [] fun _=>(by kernel_rfl)
theorem qNL:∀n,Ok (Rn n) qOd (qDQ n)
 |0=>ok0 fun _=>rfl
 |n+1=>stO (T:=qFq n) (by kernel_rfl) [] [qLj n] (fun _=>(by kernel_rfl)) fun _=>(by kernel_rfl)
def qNM:Sg:=⟨34,[(.c (.own 0 0 0 0)),aI],[[(0,⟨0,3,72,(.row [])⟩)]],⟨aI,[[(0,⟨0,3,72,(.row [])⟩)]],[]⟩⟩
def qD6 (n:Nat) (v:Nat×Int×Int×RW):Tr ((Nat×Int×Int×RW)⊕((Int×RW))):=(.ask ((decide (v.2.2.1<((v.1:Nat):Int)))) (.ask (decide (v.1=v.2.2.2.length∧0≤v.2.2.1∧v.2.2.1<((v.1:Nat):Int))) (.opt (v.2.2.2[(v.2.2.1).toNat]?) fun e166=>(.ask (decide (0+1≤e166.length)) (.ask (decide (v.1=(v.2.2.2.set (v.2.2.1).toNat (zK e166 0 [(.i .i64 v.2.1)])).length∧0≤v.2.2.1∧v.2.2.1<((v.1:Nat):Int))) (.opt ((v.2.2.2.set (v.2.2.1).toNat (zK e166 0 [(.i .i64 v.2.1)]))[(v.2.2.1).toNat]?) fun e167=>(.ask (decide (1+1≤e167.length)) (.opt (qDQ n (IntKind.i64.wrap ((IntKind.i64.wrap (v.2.1+(1:Int)))+(1:Int)))) fun r168=>(.ask (decide (v.1=((v.2.2.2.set (v.2.2.1).toNat (zK e166 0 [(.i .i64 v.2.1)])).set (v.2.2.1).toNat (zK e167 1 [(.i .i64 (IntKind.i64.wrap (v.2.1+(1:Int))))])).length∧0≤v.2.2.1∧v.2.2.1<((v.1:Nat):Int))) (.opt (((v.2.2.2.set (v.2.2.1).toNat (zK e166 0 [(.i .i64 v.2.1)])).set (v.2.2.1).toNat (zK e167 1 [(.i .i64 (IntKind.i64.wrap (v.2.1+(1:Int))))]))[(v.2.2.1).toNat]?) fun e169=>(.ask (decide (2+1≤e169.length)) (.done (.inl (v.1,(IntKind.i64.wrap ((IntKind.i64.wrap ((IntKind.i64.wrap (v.2.1+(1:Int)))+(1:Int)))+(1:Int))),(IntKind.i64.wrap (v.2.2.1+(1:Int))),(((v.2.2.2.set (v.2.2.1).toNat (zK e166 0 [(.i .i64 v.2.1)])).set (v.2.2.1).toNat (zK e167 1 [(.i .i64 (IntKind.i64.wrap (v.2.1+(1:Int))))])).set (v.2.2.1).toNat (zK e169 2 [(.s r168)]))))) .fail)) .fail)) .fail)) .fail) .fail)) .fail) (.done (.inr ((v.2.1,v.2.2.2)))))
def qIH (n x0:Nat) (x1:Int) (x2:RW):Tr (Int×RW):=(.opt (zD (qD6 n) n (x0,x1,(0:Int),x2)) fun r170=>(.done (r170.1,r170.2)))
def qFE:Nat→Nat→Int→RW→Option (Int×RW)
 |0,_,_,_=>none
 |n+1,x0,x1,x2=>(qIH n x0 x1 x2).run
abbrev qII (n:Nat):List (Ent (Rn n)):= [en (qNL n)]
def qKu (n:Nat):LEnt (KB 34) (Rn n) n:=lok (zM 34) 13 ⟨⟨[(0,(.c (.own 0 0 0 0))),(1,aI),(5,aI)],[],[[(0,⟨0,3,72,(.row [])⟩)]]⟩,[(.exit 0,⟨[(1,aI)],[],[[(0,⟨0,3,72,(.row [])⟩)]]⟩)]⟩ (qD6 n) (qII n) [] fun _=>(by kernel_rfl)
theorem qMK:∀n,Ok (Rn n) qNM (qFE n)
 |0=>ok0 fun _=>rfl
 |n+1=>stO (T:=qIH n) (by kernel_rfl) (qII n) [qKu n] (fun _=>(by kernel_rfl)) fun _=>(by kernel_rfl)
def qOe:Sg:=⟨35,[(.c (.own 0 0 0 0)),aI],[[(0,⟨0,2,29,(.row [])⟩)]],⟨aI,[[(0,⟨0,2,29,(.row [])⟩)]],[]⟩⟩
def qCO (n:Nat) (v:Nat×Int×Int×RW):Tr ((Nat×Int×Int×RW)⊕((Int×RW))):=(.ask ((decide (v.2.2.1<((v.1:Nat):Int)))) (.ask (decide (v.1=v.2.2.2.length∧0≤v.2.2.1∧v.2.2.1<((v.1:Nat):Int))) (.opt (v.2.2.2[(v.2.2.1).toNat]?) fun e173=>(.ask (decide (0+1≤e173.length)) (.ask (decide (v.1=(v.2.2.2.set (v.2.2.1).toNat (zK e173 0 [(.i .i64 v.2.1)])).length∧0≤v.2.2.1∧v.2.2.1<((v.1:Nat):Int))) (.opt ((v.2.2.2.set (v.2.2.1).toNat (zK e173 0 [(.i .i64 v.2.1)]))[(v.2.2.1).toNat]?) fun e174=>(.ask (decide (1+1≤e174.length)) (.done (.inl (v.1,(IntKind.i64.wrap ((IntKind.i64.wrap (v.2.1+(1:Int)))+(1:Int))),(IntKind.i64.wrap (v.2.2.1+(1:Int))),((v.2.2.2.set (v.2.2.1).toNat (zK e173 0 [(.i .i64 v.2.1)])).set (v.2.2.1).toNat (zK e174 1 [(.i .i64 (IntKind.i64.wrap (v.2.1+(1:Int))))]))))) .fail)) .fail) .fail)) .fail) (.done (.inr ((v.2.1,v.2.2.2)))))
def qFr (n x0:Nat) (x1:Int) (x2:RW):Tr (Int×RW):=(.opt (zD (qCO n) n (x0,x1,(0:Int),x2)) fun r175=>(.done (r175.1,r175.2)))
def qEG:Nat→Nat→Int→RW→Option (Int×RW)
 |0,_,_,_=>none
 |n+1,x0,x1,x2=>(qFr n x0 x1 x2).run
def qLk (n:Nat):LEnt (KB 35) (Rn n) n:=lok (zM 35) 13 ⟨⟨[(0,(.c (.own 0 0 0 0))),(1,aI),(5,aI)],[],[[(0,⟨0,2,29,(.row [])⟩)]]⟩,[(.exit 0,⟨[(1,aI)],[],[[(0,⟨0,2,29,(.row [])⟩)]]⟩)]⟩ (qCO n) [] [] fun _=>(by kernel_rfl)
theorem qNN:∀n,Ok (Rn n) qOe (qEG n)
 |0=>ok0 fun _=>rfl
 |n+1=>stO (T:=qFr n) (by kernel_rfl) [] [qLk n] (fun _=>(by kernel_rfl)) fun _=>(by kernel_rfl)
def qOf:Sg:=⟨36,[aL,aI],[],⟨aI,[],[]⟩⟩
def qCP (n:Nat) (v:RW×Int×Int):Tr ((RW×Int×Int)⊕((Int)⊕(Int))):=(.ask ((decide (v.2.2<(v.1.length:Int)))) (.ask (decide (0≤v.2.2∧v.2.2<v.1.length)) (.opt (v.1[(v.2.2).toNat]?) fun e177=>(.ask (decide (e177.length=2)) (.opt (zC .i64 e177 0) fun y178=>(.ask ((y178 !=v.2.1)) (.done (.inr (.inl ((-1:Int))))) (.ask (decide (0≤v.2.2∧v.2.2<v.1.length)) (.opt (v.1[(v.2.2).toNat]?) fun e179=>(.ask (decide (e179.length=2)) (.opt (zC .i64 e179 1) fun y180=>(.ask ((y180 !=(IntKind.i64.wrap (v.2.1+(1:Int))))) (.done (.inr (.inl ((-1:Int))))) (.done (.inl (v.1,(IntKind.i64.wrap ((IntKind.i64.wrap (v.2.1+(1:Int)))+(1:Int))),(IntKind.i64.wrap (v.2.2+(1:Int)))))))) .fail)) .fail))) .fail)) .fail) (.done (.inr (.inr (v.2.1)))))
def qFs (n:Nat) (x0:RW) (x1:Int):Tr (Int):=(.opt (zD (qCP n) n (x0,x1,(0:Int))) fun r181=>(.alt r181 (fun r182=>(.done r182)) (fun r183=>(.done r183))))
def qDR:Nat→RW→Int→Option (Int)
 |0,_,_=>none
 |n+1,x0,x1=>(qFs n x0 x1).run
def qLl (n:Nat):LEnt (KB 36) (Rn n) n:=lok (zM 36) 13 ⟨⟨[(0,aL),(1,aI),(5,aI)],[],[]⟩,[(.ret,⟨[(4,aI)],[],[]⟩),(.exit 0,⟨[(1,aI)],[],[]⟩)]⟩ (qCP n) [] [] fun _=>(by kernel_rfl)
theorem qNO:∀n,Ok (Rn n) qOf (qDR n)
 |0=>ok0 fun _=>rfl
 |n+1=>stO (T:=qFs n) (by kernel_rfl) [] [qLl n] (fun _=>(by kernel_rfl)) fun _=>(by kernel_rfl)
def qJS:Sg:=⟨8,[aL,(.agg [qI,qI])],[],⟨aB,[],[]⟩⟩
def qDY (n:Nat) (x0:RW) (x1 x2:Int):Tr (Bool):=(.opt (qEY n x0 (1048576:Int)) fun r9=>(.ask ((decide (r9<(0:Int)))) (.done true) (.opt (qCI n x0) fun r17=>(.opt (qCZ n x1 x2) fun r18=>(.ask (decide (r17.1=r17.2.length)) (.opt (qEi n r17.2 r18.1 r18.2) fun r86=>(.ask (zl (⟨(.c (.own 0 0 0 r86.1)),[],[⟨0,2,29,(.row r86.2)⟩]⟩:Res)) (.opt (qCI n x0) fun r87=>(.opt (qCZ n x1 x2) fun r88=>(.ask (decide (r87.1=r87.2.length)) (.opt (qDl n r87.2 r88.1 r88.2) fun r140=>(.ask (zl (⟨(.c (.own 0 0 0 r140.1)),[],[⟨0,2,29,(.row r140.2)⟩]⟩:Res)) (.ask (decide (r140.1=r140.2.length)) (.ask (decide (r86.1=r86.2.length)) (.opt (qDU n r140.2 r86.2) fun r151=>(.ask (zl (⟨(.c (.p (.b r151))),[],[]⟩:Res)) (.ask ((!r151)) (.done false) (.opt (qCI n x0) fun r152=>(.ask (decide (r87.1=r87.2.length)) (.ask (decide (r152.1=r152.2.length)) (.opt (qEs n r87.2 r152.2) fun r165=>(.ask (zl (⟨(.c (.p (.b r165))),[],[]⟩:Res)) (.ask ((!r165)) (.done false) (.ask (decide (r87.1=r87.2.length)) (.opt (qFE n r87.1 (1:Int) r87.2) fun r171=>(.ask ((decide (r171.1<(0:Int)))) (.done false) (.ask (decide (r140.1=r140.2.length)) (.ask (decide (r86.1=r86.2.length)) (.opt (qDU n r140.2 r86.2) fun r172=>(.ask (zl (⟨(.c (.p (.b r172))),[],[]⟩:Res)) (.ask ((!r172)) (.done false) (.ask (decide (r140.1=r140.2.length)) (.opt (qEG n r140.1 (1:Int) r140.2) fun r176=>(.ask (decide (r140.1=r176.2.length)) (.opt (qDR n r176.2 (1:Int)) fun r184=>(.ask (zl (⟨(.c (.p (.i .i64 r184))),[],[]⟩:Res)) (.ask ((decide (r184<(0:Int)))) (.done false) (.ask ((r184 !=r176.1)) (.done false) (.opt (qCI n x0) fun r185=>(.opt (qCZ n x1 x2) fun r186=>(.ask (decide (r185.1=r185.2.length)) (.opt (qDl n r185.2 r186.1 r186.2) fun r187=>(.ask (zl (⟨(.c (.own 0 0 0 r187.1)),[],[⟨0,2,29,(.row r187.2)⟩]⟩:Res)) (.ask (decide (r187.1=r187.2.length)) (.ask (decide (r86.1=r86.2.length)) (.opt (qDU n r187.2 r86.2) fun r188=>(.ask (zl (⟨(.c (.p (.b r188))),[],[]⟩:Res)) (.ask ((!r188)) (.done false) (.ask (decide (r140.1=r176.2.length)) (.opt (qDR n r176.2 (1:Int)) fun r189=>(.ask (zl (⟨(.c (.p (.i .i64 r189))),[],[]⟩:Res)) (.ask ((decide (r189<(0:Int)))) (.done false) (.ask ((r189 !=r176.1)) (.done false) (.done true))) .fail)) .fail)) .fail)) .fail) .fail) .fail)) .fail))))) .fail)) .fail)) .fail)) .fail)) .fail) .fail))) .fail)) .fail)) .fail) .fail))) .fail)) .fail) .fail) .fail)) .fail))) .fail)) .fail)))))
def qE2:Nat→RW→Int→Int→Option (Bool)
 |0,_,_,_=>none
 |n+1,x0,x1,x2=>(qDY n x0 x1 x2).run
abbrev qJT (n:Nat):List (Ent (Rn n)):= [en (qNw n),en (qNx n),en (qK0 n),en (qOK n),en (qOb n),en (qPk n),en (qOc n),en (qMK n),en (qNN n),en (qNO n)]
theorem qIl:∀n,Ok (Rn n) qJS (qE2 n)
 |0=>ok0 fun _=>rfl
 |n+1=>stO (T:=qDY n) (by kernel_rfl) (qJT n) [] (fun _=>(by kernel_rfl)) fun _=>(by kernel_rfl)
end
end Go.Proofs.YtkkkfjgagjdcoaaGreatDoor.KFnExactLeansOn

