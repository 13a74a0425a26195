import Derived.Test.YtkkkfjgagjdcoaaGreatDoorKFnExactTouched
namespace Go.Proofs.YtkkkfjgagjdcoaaGreatDoor.KFnExactTouched
open Go.Eng
set_option linter.unusedVariables false
set_option maxRecDepth 100000
noncomputable section
abbrev RW:=List (List PV)
abbrev BA:=ByteArray
def qR3:Sg:=⟨43,[(.agg [qI,qI,qS]),aI],[],⟨aI,[],[]⟩⟩
def qId (n:Nat) (x0 x1:Int) (x2:BA) (x3:Int):Tr (Int):=(.ask ((decide ((IntKind.i64.wrap (x3-(x2.size:Int)))<(0:Int)))) (.done (-1:Int)) (.done (IntKind.i64.wrap (x3-(x2.size:Int)))))
def qGM:Nat→Int→Int→BA→Int→Option (Int)
 |0,_,_,_,_=>none
 |n+1,x0,x1,x2,x3=>(qId n x0 x1 x2 x3).run
theorem qQc:∀n,Ok (Rn n) qR3 (qGM n)
 |0=>ok0 fun _=>rfl
 |n+1=>stO (T:=qId n) (by kernel_rfl) [] [] (fun _=>(by kernel_rfl)) fun _=>(by kernel_rfl)
def qQd:Sg:=⟨11,[aL,aI],[],⟨aI,[],[]⟩⟩
def qCQ (n:Nat) (v:RW×Int×Int):Tr ((RW×Int×Int)⊕((Int)⊕(Int))):=(.ask ((decide (v.2.2<(v.1.length:Int)))) (.ask (decide (0≤v.2.2∧v.2.2<v.1.length)) (.opt (v.1[(v.2.2).toNat]?) fun e1=>(.ask (decide (e1.length=3)) (.opt (zB .i64 e1 0) fun y2=>(.opt (zB .i64 e1 1) fun y3=>(.opt (zY e1 2) fun y4=>(.opt (qGM n y2 y3 y4 v.2.1) fun r5=>(.ask ((decide (r5<(0:Int)))) (.done (.inr (.inl ((-1:Int))))) (.done (.inl (v.1,r5,(IntKind.i64.wrap (v.2.2+(1:Int))))))))))) .fail)) .fail) (.done (.inr (.inr (v.2.1)))))
def qHR (n:Nat) (x0:RW) (x1:Int):Tr (Int):=(.ask ((decide ((IntKind.i64.wrap (x1-(x0.length:Int)))<(0:Int)))) (.done (-1:Int)) (.opt (zC (qCQ n) n (x0,(IntKind.i64.wrap (x1-(x0.length:Int))),(0:Int))) fun r6=>(.alt r6 (fun r7=>(.done r7)) (fun r8=>(.done r8)))))
def qFX:Nat→RW→Int→Option (Int)
 |0,_,_=>none
 |n+1,x0,x1=>(qHR n x0 x1).run
abbrev qKp (n:Nat):List (Ent (Rn n)):= [en (qQc n)]
def qNP (n:Nat):LEnt (KB 11) (Rn n) n:=lok (zK 11) 61 ⟨⟨[(0,aL),(1,aI),(5,aI)],[],[]⟩,[(.ret,⟨[(4,aI)],[],[]⟩),(.exit 0,⟨[(1,aI)],[],[]⟩)]⟩ (qCQ n) (qKp n) [] fun _=>(by kernel_rfl)
theorem qPZ:∀n,Ok (Rn n) qQd (qFX n)
 |0=>ok0 fun _=>rfl
 |n+1=>stO (T:=qHR n) (by kernel_rfl) (qKp n) [qNP n] (fun _=>(by kernel_rfl)) fun _=>(by kernel_rfl)
def qR4:Sg:=⟨39,[aL,aI],[],⟨aI,[],[]⟩⟩
def qIe (n:Nat) (x0:RW) (x1:Int):Tr (Int):=(.ask ((decide ((IntKind.i64.wrap (x1-(x0.length:Int)))<(0:Int)))) (.done (-1:Int)) (.done (IntKind.i64.wrap (x1-(x0.length:Int)))))
def qIf:Nat→RW→Int→Option (Int)
 |0,_,_=>none
 |n+1,x0,x1=>(qIe n x0 x1).run
theorem qQe:∀n,Ok (Rn n) qR4 (qIf n)
 |0=>ok0 fun _=>rfl
 |n+1=>stO (T:=qIe n) (by kernel_rfl) [] [] (fun _=>(by kernel_rfl)) fun _=>(by kernel_rfl)
def qSz:Sg:=⟨14,[(.agg [qI,qI])],[],⟨(.agg [qI,qI]),[],[]⟩⟩
def qHH (n:Nat) (x0 x1:Int):Tr (Int×Int):=(.done (x0,x1))
def qEg:Nat→Int→Int→Option (Int×Int)
 |0,_,_=>none
 |n+1,x0,x1=>(qHH n x0 x1).run
theorem qMR:∀n,Ok (Rn n) qSz (qEg n)
 |0=>ok0 fun _=>rfl
 |n+1=>stO (T:=qHH n) (by kernel_rfl) [] [] (fun _=>(by kernel_rfl)) fun _=>(by kernel_rfl)
def qR5:Sg:=⟨46,[(.agg [qI,qI,qS])],[],⟨(.agg [qI,qI,qS]),[],[]⟩⟩
def qIg (n:Nat) (x0 x1:Int) (x2:BA):Tr (Int×Int×BA):=(.opt (qEg n x0 x1) fun r15=>(.done (r15.1,r15.2,x2)))
def qGN:Nat→Int→Int→BA→Option (Int×Int×BA)
 |0,_,_,_=>none
 |n+1,x0,x1,x2=>(qIg n x0 x1 x2).run
abbrev qR6 (n:Nat):List (Ent (Rn n)):= [en (qMR n)]
theorem qQf:∀n,Ok (Rn n) qR5 (qGN n)
 |0=>ok0 fun _=>rfl
 |n+1=>stO (T:=qIg n) (by kernel_rfl) (qR6 n) [] (fun _=>(by kernel_rfl)) fun _=>(by kernel_rfl)
def qQg:Sg:=⟨13,[aL],[],⟨(.c (.own 0 0 0 0)),[],[⟨0,3,72,(.row [])⟩]⟩⟩
def qDD (n:Nat) (v:RW×Nat×Int×RW):Tr ((RW×Nat×Int×RW)⊕((Nat×RW))):=(.ask ((decide (v.2.2.1<(v.1.length:Int)))) (.ask (decide (0≤v.2.2.1∧v.2.2.1<v.1.length)) (.opt (v.1[(v.2.2.1).toNat]?) fun e11=>(.ask (decide (e11.length=3)) (.opt (zB .i64 e11 0) fun y12=>(.opt (zB .i64 e11 1) fun y13=>(.opt (zY e11 2) fun y14=>(.opt (qGN n y12 y13 y14) fun r15=>(.ask (decide (v.2.1=v.2.2.2.length∧0≤v.2.2.1∧v.2.2.1<((v.2.1:Nat):Int))) (.opt (v.2.2.2[(v.2.2.1).toNat]?) fun e16=>(.ask (decide (0+3≤e16.length)) (.done (.inl (v.1,v.2.1,(IntKind.i64.wrap (v.2.2.1+(1:Int))),(v.2.2.2.set (v.2.2.1).toNat (zJ e16 0 [(.i .i64 r15.1),(.i .i64 r15.2.1),(.s r15.2.2)]))))) .fail)) .fail))))) .fail)) .fail) (.done (.inr ((v.2.1,v.2.2.2)))))
def qHS (n:Nat) (x0:RW):Tr (Nat×RW):=(.ask (decide (0≤(x0.length:Int)∧(x0.length:Int)=(x0.length:Int)∧32*(x0.length:Int)≤140737488355328∧(x0.length:Int)≤9223372036854775807)) (.opt (zC (qDD n) n (x0,((x0.length:Int)).toNat,(0:Int),(zAI [(.i .i64 (0:Int)),(.i .i64 (0:Int)),(.s (⟨#[]⟩:BA))] ((x0.length:Int)).toNat))) fun r17=>(.done (r17.1,r17.2))) .fail)
def qCt:Nat→RW→Option (Nat×RW)
 |0,_=>none
 |n+1,x0=>(qHS n x0).run
abbrev qKq (n:Nat):List (Ent (Rn n)):= [en (qQf n)]
def qNQ (n:Nat):LEnt (KB 13) (Rn n) n:=lok (zK 13) 29 ⟨⟨[(0,aL),(3,(.c (.own 0 448 0 0))),(4,aI)],[(448,⟨0,3,72,(.row [])⟩)],[]⟩,[(.exit 0,⟨[(3,(.c (.own 0 448 0 0)))],[(448,⟨0,3,72,(.row [])⟩)],[]⟩)]⟩ (qDD n) (qKq n) [] fun _=>(by kernel_rfl)
theorem qPa:∀n,Ok (Rn n) qQg (qCt n)
 |0=>ok0 fun _=>rfl
 |n+1=>stO (T:=qHS n) (by kernel_rfl) (qKq n) [qNQ n] (fun _=>(by kernel_rfl)) fun _=>(by kernel_rfl)
def qR7:Sg:=⟨41,[aL],[],⟨(.c (.own 0 0 0 0)),[],[⟨0,2,29,(.row [])⟩]⟩⟩
def qDh (n:Nat) (v:RW×Nat×Int×RW):Tr ((RW×Nat×Int×RW)⊕((Nat×RW))):=(.ask ((decide (v.2.2.1<(v.1.length:Int)))) (.ask (decide (0≤v.2.2.1∧v.2.2.1<v.1.length)) (.opt (v.1[(v.2.2.1).toNat]?) fun e19=>(.ask (decide (e19.length=2)) (.opt (zB .i64 e19 0) fun y20=>(.opt (zB .i64 e19 1) fun y21=>(.opt (qEg n y20 y21) fun r22=>(.ask (decide (v.2.1=v.2.2.2.length∧0≤v.2.2.1∧v.2.2.1<((v.2.1:Nat):Int))) (.opt (v.2.2.2[(v.2.2.1).toNat]?) fun e23=>(.ask (decide (0+2≤e23.length)) (.done (.inl (v.1,v.2.1,(IntKind.i64.wrap (v.2.2.1+(1:Int))),(v.2.2.2.set (v.2.2.1).toNat (zJ e23 0 [(.i .i64 r22.1),(.i .i64 r22.2)]))))) .fail)) .fail)))) .fail)) .fail) (.done (.inr ((v.2.1,v.2.2.2)))))
def qIh (n:Nat) (x0:RW):Tr (Nat×RW):=(.ask (decide (0≤(x0.length:Int)∧(x0.length:Int)=(x0.length:Int)∧16*(x0.length:Int)≤140737488355328∧(x0.length:Int)≤9223372036854775807)) (.opt (zC (qDh n) n (x0,((x0.length:Int)).toNat,(0:Int),(zAI [(.i .i64 (0:Int)),(.i .i64 (0:Int))] ((x0.length:Int)).toNat))) fun r24=>(.done (r24.1,r24.2))) .fail)
def qDT:Nat→RW→Option (Nat×RW)
 |0,_=>none
 |n+1,x0=>(qIh n x0).run
abbrev qMS (n:Nat):List (Ent (Rn n)):= [en (qMR n)]
def qOM (n:Nat):LEnt (KB 41) (Rn n) n:=lok (zK 41) 29 ⟨⟨[(0,aL),(3,(.c (.own 0 448 0 0))),(4,aI)],[(448,⟨0,2,29,(.row [])⟩)],[]⟩,[(.exit 0,⟨[(3,(.c (.own 0 448 0 0)))],[(448,⟨0,2,29,(.row [])⟩)],[]⟩)]⟩ (qDh n) (qMS n) [] fun _=>(by kernel_rfl)
theorem qQh:∀n,Ok (Rn n) qR7 (qDT n)
 |0=>ok0 fun _=>rfl
 |n+1=>stO (T:=qIh n) (by kernel_rfl) (qMS n) [qOM n] (fun _=>(by kernel_rfl)) fun _=>(by kernel_rfl)
def qQi:Sg:=⟨92,[aS],[],⟨aB,[],[]⟩⟩
def qBo (n:Nat) (v:BA×Int):Tr ((BA×Int)⊕((Bool)⊕(BA))):=(.ask ((decide (v.2<(v.1.size:Int)))) (.ask (decide (0≤v.2)) (.opt (v.1.toList[(v.2).toNat]?) fun c28=>(.ask ((decide ((c28.toNat:Int)<(32:Int)))) (.done (.inr (.inl (false)))) (.ask (decide (0≤v.2)) (.opt (v.1.toList[(v.2).toNat]?) fun c29=>(.ask ((decide ((c29.toNat:Int)>(126:Int)))) (.done (.inr (.inl (false)))) (.done (.inl (v.1,(IntKind.i64.wrap (v.2+(1:Int)))))))) .fail))) .fail) (.done (.inr (.inr (v.1)))))
def qHT (n:Nat) (x0:BA):Tr (Bool):=(.opt (zC (qBo n) n (x0,(0:Int))) fun r30=>(.alt r30 (fun r31=>(.done r31)) (fun r32=>(.done (decide ((r32.size:Int)≤(200:Int)))))))
def qCu:Nat→BA→Option (Bool)
 |0,_=>none
 |n+1,x0=>(qHT n x0).run
def qNR (n:Nat):LEnt (KB 92) (Rn n) n:=lok (zK 92) 13 ⟨⟨[(0,aS),(3,aI)],[],[]⟩,[(.ret,⟨[(2,aB)],[],[]⟩),(.exit 0,⟨[(0,aS)],[],[]⟩)]⟩ (qBo n) [] [] fun _=>(by kernel_rfl)
theorem qGk:∀n,Ok (Rn n) qQi (qCu n)
 |0=>ok0 fun _=>rfl
 |n+1=>stO (T:=qHT n) (by kernel_rfl) [] [qNR n] (fun _=>(by kernel_rfl)) fun _=>(by kernel_rfl)
def qMk:Sg:=⟨135,[(.c (.ptr 0 0 0 0 0))],[[(0,⟨0,4,175,(.box [qS,qI,qB,(.own 0 1 1 0)])⟩),(1,⟨1,14,162,(.row [])⟩)]],⟨(.tup []),[[(0,⟨0,4,175,(.box [qS,qI,qB,(.own 0 1 1 0)])⟩),(1,⟨1,14,162,(.row [])⟩)]],[]⟩⟩
def qES (n:Nat) (v:BA×Int×Bool×Nat×RW):Tr ((BA×Int×Bool×Nat×RW)⊕((BA×Int×Bool×Nat×RW))):=(.ask ((decide (v.2.1<(v.1.size:Int)))) (.ask (decide (0≤v.2.1)) (.opt (v.1.toList[(v.2.1).toNat]?) fun c36=>(.ask (((c36.toNat:Int)==(32:Int))) (.done (.inl (v.1,(IntKind.i64.wrap (v.2.1+(1:Int))),v.2.2.1,v.2.2.2.1,v.2.2.2.2))) (.done (.inr ((v.1,v.2.1,v.2.2.1,v.2.2.2.1,v.2.2.2.2)))))) .fail) (.done (.inr ((v.1,v.2.1,v.2.2.1,v.2.2.2.1,v.2.2.2.2)))))
def qHU (n:Nat) (x0:BA) (x1:Int) (x2:Bool) (x3:Nat) (x4:RW):Tr (BA×Int×Bool×Nat×RW):=(.opt (zC (qES n) n (x0,x1,x2,x3,x4)) fun r37=>(.done (r37.1,r37.2.1,r37.2.2.1,r37.2.2.2.1,r37.2.2.2.2)))
def qB3:Nat→BA→Int→Bool→Nat→RW→Option (BA×Int×Bool×Nat×RW)
 |0,_,_,_,_,_=>none
 |n+1,x0,x1,x2,x3,x4=>(qHU n x0 x1 x2 x3 x4).run
def qKr (n:Nat):LEnt (KB 135) (Rn n) n:=lok (zK 135) 1 ⟨⟨[(0,(.c (.ptr 0 0 0 0 0)))],[],[[(0,⟨0,4,175,(.box [qS,qI,qB,(.own 0 1 1 0)])⟩),(1,⟨1,14,162,(.row [])⟩)]]⟩,[(.exit 0,⟨[],[],[[(0,⟨0,4,175,(.box [qS,qI,qB,(.own 0 1 1 0)])⟩),(1,⟨1,14,162,(.row [])⟩)]]⟩)]⟩ (qES n) [] [] fun _=>(by kernel_rfl)
theorem qEr:∀n,Ok (Rn n) qMk (qB3 n)
 |0=>ok0 fun _=>rfl
 |n+1=>stO (T:=qHU n) (by kernel_rfl) [] [qKr n] (fun _=>(by kernel_rfl)) fun _=>(by kernel_rfl)
def qQj:Sg:=⟨208,[(.c (.ptr 0 0 0 0 0)),aS],[[(0,⟨0,4,175,(.box [qS,qI,qB,(.own 0 1 1 0)])⟩),(1,⟨1,14,162,(.row [])⟩)]],⟨aB,[[(0,⟨0,4,175,(.box [qS,qI,qB,(.own 0 1 1 0)])⟩),(1,⟨1,14,162,(.row [])⟩)]],[]⟩⟩
def qKs (n:Nat) (x0 x1:BA) (x2:Int) (x3:Bool) (x4:Nat) (x5:RW):Tr (Bool×BA×Int×Bool×Nat×RW):=(.opt (qB3 n x1 x2 x3 x4 x5) fun r38=>(.ask (r38.2.2.1) (.done (false,r38.1,r38.2.1,r38.2.2.1,r38.2.2.2.1,r38.2.2.2.2)) (.ask ((decide ((IntKind.i64.wrap (r38.2.1+(x0.size:Int)))>(r38.1.size:Int)))) (.done (false,r38.1,r38.2.1,r38.2.2.1,r38.2.2.2.1,r38.2.2.2.2)) (.ask (decide (0≤r38.2.1∧r38.2.1≤(IntKind.i64.wrap (r38.2.1+(x0.size:Int)))∧(IntKind.i64.wrap (r38.2.1+(x0.size:Int)))≤r38.1.size)) (.ask ((!((r38.1.extract (r38.2.1).toNat ((IntKind.i64.wrap (r38.2.1+(x0.size:Int)))).toNat).toList==x0.toList))) (.done (false,r38.1,r38.2.1,r38.2.2.1,r38.2.2.2.1,r38.2.2.2.2)) (.done (true,r38.1,(IntKind.i64.wrap (r38.2.1+(x0.size:Int))),r38.2.2.1,r38.2.2.2.1,r38.2.2.2.2))) .fail))))
def qAJ:Nat→BA→BA→Int→Bool→Nat→RW→Option (Bool×BA×Int×Bool×Nat×RW)
 |0,_,_,_,_,_,_=>none
 |n+1,x0,x1,x2,x3,x4,x5=>(qKs n x0 x1 x2 x3 x4 x5).run
abbrev qQk (n:Nat):List (Ent (Rn n)):= [en (qEr n)]
theorem qFB:∀n,Ok (Rn n) qQj (qAJ n)
 |0=>ok0 fun _=>rfl
 |n+1=>stO (T:=qKs n) (by kernel_rfl) (qQk n) [] (fun _=>(by kernel_rfl)) fun _=>(by kernel_rfl)
def qTY:Sg:=⟨54,[aI,aI,aI],[],⟨aB,[],[]⟩⟩
def qGW (n:Nat) (x0 x1 x2:Int):Tr (Bool):=(.ask ((decide (x0≥x1))) (.done (decide (x0≤x2))) (.done false))
def qA1:Nat→Int→Int→Int→Option (Bool)
 |0,_,_,_=>none
 |n+1,x0,x1,x2=>(qGW n x0 x1 x2).run
theorem qEh:∀n,Ok (Rn n) qTY (qA1 n)
 |0=>ok0 fun _=>rfl
 |n+1=>stO (T:=qGW n) (by kernel_rfl) [] [] (fun _=>(by kernel_rfl)) fun _=>(by kernel_rfl)
def qQl:Sg:=⟨139,[(.agg [qI,qI,qS])],[],⟨aB,[],[]⟩⟩
def qHV (n:Nat) (x0 x1:Int) (x2:BA):Tr (Bool):=(.ask ((x0==(0:Int))) (.ask ((x1==(0:Int))) (.done (x2.toList==(⟨#[]⟩:BA).toList)) (.done false)) (.ask ((x0==(1:Int))) (.opt (qA1 n x1 (-1000000000000000:Int) (1000000000000000:Int)) fun r41=>(.ask (r41) (.done (x2.toList==(⟨#[]⟩:BA).toList)) (.done false))) (.ask ((x0==(2:Int))) (.ask ((x1==(0:Int))) (.opt (qCu n x2) fun r42=>(.done r42)) (.done false)) (.ask ((x0==(3:Int))) (.opt (qA1 n x1 (0:Int) (1:Int)) fun r43=>(.ask (r43) (.done (x2.toList==(⟨#[]⟩:BA).toList)) (.done false))) (.ask ((x0==(4:Int))) (.opt (qA1 n x1 (1:Int) (5:Int)) fun r44=>(.ask (r44) (.done (x2.toList==(⟨#[]⟩:BA).toList)) (.done false))) (.done false))))))
def qa:Nat→Int→Int→BA→Option (Bool)
 |0,_,_,_=>none
 |n+1,x0,x1,x2=>(qHV n x0 x1 x2).run
abbrev qQm (n:Nat):List (Ent (Rn n)):= [en (qEh n),en (qGk n)]
theorem qFC:∀n,Ok (Rn n) qQl (qa n)
 |0=>ok0 fun _=>rfl
 |n+1=>stO (T:=qHV n) (by kernel_rfl) (qQm n) [] (fun _=>(by kernel_rfl)) fun _=>(by kernel_rfl)
def qS0:Sg:=⟨51,[(.agg [qI,qI])],[],⟨aB,[],[]⟩⟩
def qJj (n:Nat) (x0 x1:Int):Tr (Bool):=(.opt (qA1 n x0 (1:Int) (52:Int)) fun r46=>(.ask (r46) (.opt (qA1 n x1 (1:Int) (99:Int)) fun r47=>(.done r47)) (.done false)))
def qAT:Nat→Int→Int→Option (Bool)
 |0,_,_=>none
 |n+1,x0,x1=>(qJj n x0 x1).run
abbrev qS1 (n:Nat):List (Ent (Rn n)):= [en (qEh n)]
theorem qE3:∀n,Ok (Rn n) qS0 (qAT n)
 |0=>ok0 fun _=>rfl
 |n+1=>stO (T:=qJj n) (by kernel_rfl) (qS1 n) [] (fun _=>(by kernel_rfl)) fun _=>(by kernel_rfl)
def qR8:Sg:=⟨214,[(.agg [qI,qI,qI,qI])],[],⟨aB,[],[]⟩⟩
def qIi (n:Nat) (x0 x1 x2 x3:Int):Tr (Bool):=(.opt (qAT n x0 x1) fun r49=>(.ask (r49) (.opt (qAT n x2 x3) fun r50=>(.ask (r50) (.ask ((decide (x0≤x2))) (.done (decide (x1≤x3))) (.done false)) (.done false))) (.done false)))
def qGO:Nat→Int→Int→Int→Int→Option (Bool)
 |0,_,_,_,_=>none
 |n+1,x0,x1,x2,x3=>(qIi n x0 x1 x2 x3).run
abbrev qR9 (n:Nat):List (Ent (Rn n)):= [en (qE3 n)]
theorem qQn:∀n,Ok (Rn n) qR8 (qGO n)
 |0=>ok0 fun _=>rfl
 |n+1=>stO (T:=qIi n) (by kernel_rfl) (qR9 n) [] (fun _=>(by kernel_rfl)) fun _=>(by kernel_rfl)
def qSA:Sg:=⟨215,[aI,aI],[],⟨aB,[],[]⟩⟩
def qIj (n:Nat) (x0 x1:Int):Tr (Bool):=(.ask ((x0==(1:Int))) (.ask ((decide (x1≥(1:Int)))) (.done (decide (x1≤(10:Int)))) (.done false)) (.ask ((x0==(2:Int))) (.ask ((decide (x1≥(1:Int)))) (.done (decide (x1≤(10:Int)))) (.done false)) (.ask ((x0==(3:Int))) (.ask ((decide (x1≥(1:Int)))) (.done (decide (x1≤(10:Int)))) (.done false)) (.ask ((x0==(4:Int))) (.ask ((decide (x1≥(1:Int)))) (.done (decide (x1≤(10:Int)))) (.done false)) (.ask ((x0==(6:Int))) (.ask ((decide (x1≥(1:Int)))) (.done (decide (x1≤(10:Int)))) (.done false)) (.ask ((x0==(7:Int))) (.ask ((decide (x1≥(1:Int)))) (.done (decide (x1≤(10:Int)))) (.done false)) (.ask ((x0==(5:Int))) (.ask ((x1==(2:Int))) (.done true) (.done (x1==(3:Int)))) (.ask ((x0==(8:Int))) (.done (x1==(1:Int))) (.ask ((x0==(9:Int))) (.done (x1==(1:Int))) (.ask ((x0==(10:Int))) (.done (x1==(1:Int))) (.done false)))))))))))
def qGP:Nat→Int→Int→Option (Bool)
 |0,_,_=>none
 |n+1,x0,x1=>(qIj n x0 x1).run
theorem qQo:∀n,Ok (Rn n) qSA (qGP n)
 |0=>ok0 fun _=>rfl
 |n+1=>stO (T:=qIj n) (by kernel_rfl) [] [] (fun _=>(by kernel_rfl)) fun _=>(by kernel_rfl)
def qPb:Sg:=⟨176,[(.agg [qI,qI,qI,qI,qS,qI,qI,qB,qB,qI,qI,qB,qB,qL])],[],⟨aB,[],[]⟩⟩
def qGl (n:Nat) (x0 x1 x2 x3:Int) (x4:BA) (x5 x6:Int) (x7 x8:Bool) (x9 x10:Int) (x11 x12:Bool) (x13:RW):Tr (Bool):=(.ask ((x0==(1:Int))) (.ask ((x1==(0:Int))) (.ask (((x5==(0:Int))&&((x6==(0:Int))&&((x7==false)&&((x8==false)&&true))))) (.ask (((x9==(0:Int))&&((x10==(0:Int))&&((x11==false)&&((x12==false)&&true))))) (.ask (((x13.length:Int)==(0:Int))) (.opt (qa n x2 x3 x4) fun r45=>(.ask (r45) (.ask ((x2 !=(0:Int))) (.ask ((x2 !=(1:Int))) (.done true) (.done (decide (x3≥(0:Int))))) (.done false)) (.done false))) (.done false)) (.done false)) (.done false)) (.done false)) (.ask ((x0==(2:Int))) (.ask ((x1==(0:Int))) (.ask (((x2==(0:Int))&&((x3==(0:Int))&&((x4.toList==(⟨#[]⟩:BA).toList)&&true)))) (.ask (((x9==(0:Int))&&((x10==(0:Int))&&((x11==false)&&((x12==false)&&true))))) (.ask (((x13.length:Int)==(0:Int))) (.opt (qAT n x5 x6) fun r48=>(.done r48)) (.done false)) (.done false)) (.done false)) (.done false)) (.ask ((x0==(3:Int))) (.ask ((x1==(0:Int))) (.ask (((x2==(0:Int))&&((x3==(0:Int))&&((x4.toList==(⟨#[]⟩:BA).toList)&&true)))) (.ask (((x13.length:Int)==(0:Int))) (.opt (qGO n x5 x6 x9 x10) fun r51=>(.done r51)) (.done false)) (.done false)) (.done false)) (.ask ((x0==(4:Int))) (.ask ((x1==(0:Int))) (.ask (((x2==(0:Int))&&((x3==(0:Int))&&((x4.toList==(⟨#[]⟩:BA).toList)&&true)))) (.ask (((x5==(0:Int))&&((x6==(0:Int))&&((x7==false)&&((x8==false)&&true))))) (.ask (((x9==(0:Int))&&((x10==(0:Int))&&((x11==false)&&((x12==false)&&true))))) (.done ((x13.length:Int)==(1:Int))) (.done false)) (.done false)) (.done false)) (.done false)) (.ask ((x0==(5:Int))) (.opt (qA1 n x1 (1:Int) (11:Int)) fun r52=>(.ask (r52) (.ask (((x2==(0:Int))&&((x3==(0:Int))&&((x4.toList==(⟨#[]⟩:BA).toList)&&true)))) (.ask (((x5==(0:Int))&&((x6==(0:Int))&&((x7==false)&&((x8==false)&&true))))) (.ask (((x9==(0:Int))&&((x10==(0:Int))&&((x11==false)&&((x12==false)&&true))))) (.done ((x13.length:Int)==(2:Int))) (.done false)) (.done false)) (.done false)) (.done false))) (.ask ((x0==(6:Int))) (.opt (qGP n x1 (x13.length:Int)) fun r53=>(.ask (r53) (.ask (((x2==(0:Int))&&((x3==(0:Int))&&((x4.toList==(⟨#[]⟩:BA).toList)&&true)))) (.ask (((x5==(0:Int))&&((x6==(0:Int))&&((x7==false)&&((x8==false)&&true))))) (.done ((x9==(0:Int))&&((x10==(0:Int))&&((x11==false)&&((x12==false)&&true))))) (.done false)) (.done false)) (.done false))) (.done false)))))))
def qCV:Nat→Int→Int→Int→Int→BA→Int→Int→Bool→Bool→Int→Int→Bool→Bool→RW→Option (Bool)
 |0,_,_,_,_,_,_,_,_,_,_,_,_,_,_=>none
 |n+1,x0,x1,x2,x3,x4,x5,x6,x7,x8,x9,x10,x11,x12,x13=>(qGl n x0 x1 x2 x3 x4 x5 x6 x7 x8 x9 x10 x11 x12 x13).run
abbrev qPc (n:Nat):List (Ent (Rn n)):= [en (qFC n),en (qE3 n),en (qQn n),en (qEh n),en (qQo n)]
theorem qJD:∀n,Ok (Rn n) qPb (qCV n)
 |0=>ok0 fun _=>rfl
 |n+1=>stO (T:=qGl n) (by kernel_rfl) (qPc n) [] (fun _=>(by kernel_rfl)) fun _=>(by kernel_rfl)
def qPd:Sg:=⟨175,[(.c (.ptr 0 0 0 0 0)),(.agg [qI,qI,qI,qI,qS,qI,qI,qB,qB,qI,qI,qB,qB,qL])],[[(0,⟨0,4,175,(.box [qS,qI,qB,(.own 0 1 1 0)])⟩),(1,⟨1,14,162,(.row [])⟩)]],⟨aI,[[(0,⟨0,4,175,(.box [qS,qI,qB,(.own 0 1 1 0)])⟩),(1,⟨1,14,162,(.row [])⟩)]],[]⟩⟩
def qKC (n:Nat) (x0 x1 x2 x3:Int) (x4:BA) (x5 x6:Int) (x7 x8:Bool) (x9 x10:Int) (x11 x12:Bool) (x13:RW) (x14:BA) (x15:Int) (x16:Bool) (x17:Nat) (x18:RW):Tr (Int×BA×Int×Bool×Nat×RW):=(.ask (decide (1=([[(.i .i64 x0),(.i .i64 x1),(.i .i64 x2),(.i .i64 x3),(.s x4),(.i .i64 x5),(.i .i64 x6),(.b x7),(.b x8),(.i .i64 x9),(.i .i64 x10),(.b x11),(.b x12),(.ls x13)]]:RW).length)) (.ask (decide (x17=x18.length∧0<14∧0<120∧(x17+([[(.i .i64 x0),(.i .i64 x1),(.i .i64 x2),(.i .i64 x3),(.s x4),(.i .i64 x5),(.i .i64 x6),(.b x7),(.b x8),(.i .i64 x9),(.i .i64 x10),(.b x11),(.b x12),(.ls x13)]]:RW).length)*120≤140737488355328∧([[(.i .i64 x0),(.i .i64 x1),(.i .i64 x2),(.i .i64 x3),(.s x4),(.i .i64 x5),(.i .i64 x6),(.b x7),(.b x8),(.i .i64 x9),(.i .i64 x10),(.b x11),(.b x12),(.ls x13)]]:RW).all (fun e=>e.length==14)=true)) (.ask ((decide ((((x17+1):Nat):Int)>(60:Int)))) (.done ((IntKind.i64.wrap ((((x17+1):Nat):Int)-(1:Int))),x14,x15,true,(x17+1),(x18++([[(.i .i64 x0),(.i .i64 x1),(.i .i64 x2),(.i .i64 x3),(.s x4),(.i .i64 x5),(.i .i64 x6),(.b x7),(.b x8),(.i .i64 x9),(.i .i64 x10),(.b x11),(.b x12),(.ls x13)]]:RW)))) (.opt (qCV n x0 x1 x2 x3 x4 x5 x6 x7 x8 x9 x10 x11 x12 x13) fun r54=>(.ask ((!r54)) (.done ((IntKind.i64.wrap ((((x17+1):Nat):Int)-(1:Int))),x14,x15,true,(x17+1),(x18++([[(.i .i64 x0),(.i .i64 x1),(.i .i64 x2),(.i .i64 x3),(.s x4),(.i .i64 x5),(.i .i64 x6),(.b x7),(.b x8),(.i .i64 x9),(.i .i64 x10),(.b x11),(.b x12),(.ls x13)]]:RW)))) (.done ((IntKind.i64.wrap ((((x17+1):Nat):Int)-(1:Int))),x14,x15,x16,(x17+1),(x18++([[(.i .i64 x0),(.i .i64 x1),(.i .i64 x2),(.i .i64 x3),(.s x4),(.i .i64 x5),(.i .i64 x6),(.b x7),(.b x8),(.i .i64 x9),(.i .i64 x10),(.b x11),(.b x12),(.ls x13)]]:RW))))))) .fail) .fail)
def qv:Nat→Int→Int→Int→Int→BA→Int→Int→Bool→Bool→Int→Int→Bool→Bool→RW→BA→Int→Bool→Nat→RW→Option (Int×BA×Int×Bool×Nat×RW)
 |0,_,_,_,_,_,_,_,_,_,_,_,_,_,_,_,_,_,_,_=>none
 |n+1,x0,x1,x2,x3,x4,x5,x6,x7,x8,x9,x10,x11,x12,x13,x14,x15,x16,x17,x18=>(qKC n x0 x1 x2 x3 x4 x5 x6 x7 x8 x9 x10 x11 x12 x13 x14 x15 x16 x17 x18).run
abbrev qPe (n:Nat):List (Ent (Rn n)):= [en (qJD n)]
theorem qDi:∀n,Ok (Rn n) qPd (qv n)
 |0=>ok0 fun _=>rfl
 |n+1=>stO (T:=qKC n) (by kernel_rfl) (qPe n) [] (fun _=>(by kernel_rfl)) fun _=>(by kernel_rfl)
def qON:Sg:=⟨209,[(.c (.ptr 0 0 0 0 0))],[[(0,⟨0,4,175,(.box [qS,qI,qB,(.own 0 1 1 0)])⟩),(1,⟨1,14,162,(.row [])⟩)]],⟨aI,[[(0,⟨0,4,175,(.box [qS,qI,qB,(.own 0 1 1 0)])⟩),(1,⟨1,14,162,(.row [])⟩)]],[]⟩⟩
def qEs (n:Nat) (v:BA×BA×Int×Bool×Nat×RW):Tr ((BA×BA×Int×Bool×Nat×RW)⊕((Int×BA×Int×Bool×Nat×RW)⊕(BA×Int×Bool×Nat×RW))):=(.ask ((decide (v.2.2.1<(v.2.1.size:Int)))) (.ask (decide (0≤v.2.2.1)) (.opt (v.2.1.toList[(v.2.2.1).toNat]?) fun c60=>(.ask (((c60.toNat:Int) !=(34:Int))) (.ask (decide (0≤v.2.2.1∧v.2.2.1≤(IntKind.i64.wrap (v.2.2.1+(1:Int)))∧(IntKind.i64.wrap (v.2.2.1+(1:Int)))≤v.2.1.size)) (.ask (decide (v.1.size+(v.2.1.extract (v.2.2.1).toNat ((IntKind.i64.wrap (v.2.2.1+(1:Int)))).toNat).size≤9223372036854775807)) (.done (.inl ((v.1++(v.2.1.extract (v.2.2.1).toNat ((IntKind.i64.wrap (v.2.2.1+(1:Int)))).toNat)),v.2.1,(IntKind.i64.wrap (v.2.2.1+(1:Int))),v.2.2.2.1,v.2.2.2.2.1,v.2.2.2.2.2))) .fail) .fail) (.ask ((decide ((IntKind.i64.wrap (v.2.2.1+(1:Int)))≥(v.2.1.size:Int)))) (.opt (qv n (1:Int) (0:Int) (2:Int) (0:Int) v.1 (0:Int) (0:Int) false false (0:Int) (0:Int) false false ([]:RW) v.2.1 (IntKind.i64.wrap (v.2.2.1+(1:Int))) v.2.2.2.1 v.2.2.2.2.1 v.2.2.2.2.2) fun r61=>(.done (.inr (.inl ((r61.1,r61.2.1,r61.2.2.1,r61.2.2.2.1,r61.2.2.2.2.1,r61.2.2.2.2.2)))))) (.ask (decide (0≤(IntKind.i64.wrap (v.2.2.1+(1:Int))))) (.opt (v.2.1.toList[((IntKind.i64.wrap (v.2.2.1+(1:Int)))).toNat]?) fun c62=>(.ask (((c62.toNat:Int) !=(34:Int))) (.opt (qv n (1:Int) (0:Int) (2:Int) (0:Int) v.1 (0:Int) (0:Int) false false (0:Int) (0:Int) false false ([]:RW) v.2.1 (IntKind.i64.wrap (v.2.2.1+(1:Int))) v.2.2.2.1 v.2.2.2.2.1 v.2.2.2.2.2) fun r63=>(.done (.inr (.inl ((r63.1,r63.2.1,r63.2.2.1,r63.2.2.2.1,r63.2.2.2.2.1,r63.2.2.2.2.2)))))) (.ask (decide (v.1.size+(⟨#[34]⟩:BA).size≤9223372036854775807)) (.done (.inl ((v.1++(⟨#[34]⟩:BA)),v.2.1,(IntKind.i64.wrap ((IntKind.i64.wrap (v.2.2.1+(1:Int)))+(1:Int))),v.2.2.2.1,v.2.2.2.2.1,v.2.2.2.2.2))) .fail))) .fail)))) .fail) (.done (.inr (.inr ((v.2.1,v.2.2.1,v.2.2.2.1,v.2.2.2.2.1,v.2.2.2.2.2))))))
def qJE (n:Nat) (x0:BA) (x1:Int) (x2:Bool) (x3:Nat) (x4:RW):Tr (Int×BA×Int×Bool×Nat×RW):=(.opt (zC (qEs n) n ((⟨#[]⟩:BA),x0,x1,x2,x3,x4)) fun r64=>(.alt r64 (fun r65=>(.done (r65.1,r65.2.1,r65.2.2.1,r65.2.2.2.1,r65.2.2.2.2.1,r65.2.2.2.2.2))) (fun r66=>(.done ((0:Int),r66.1,r66.2.1,true,r66.2.2.2.1,r66.2.2.2.2)))))
def qF7:Nat→BA→Int→Bool→Nat→RW→Option (Int×BA×Int×Bool×Nat×RW)
 |0,_,_,_,_,_=>none
 |n+1,x0,x1,x2,x3,x4=>(qJE n x0 x1 x2 x3 x4).run
abbrev qJF (n:Nat):List (Ent (Rn n)):= [en (qDi n)]
def qL1 (n:Nat):LEnt (KB 209) (Rn n) n:=lok (zK 209) 14 ⟨⟨[(0,(.c (.ptr 0 0 0 0 0))),(3,aS)],[],[[(0,⟨0,4,175,(.box [qS,qI,qB,(.own 0 1 1 0)])⟩),(1,⟨1,14,162,(.row [])⟩)]]⟩,[(.ret,⟨[(2,aI)],[],[[(0,⟨0,4,175,(.box [qS,qI,qB,(.own 0 1 1 0)])⟩),(1,⟨1,14,162,(.row [])⟩)]]⟩),(.exit 0,⟨[(0,(.c (.ptr 0 0 0 0 0)))],[],[[(0,⟨0,4,175,(.box [qS,qI,qB,(.own 0 1 1 0)])⟩),(1,⟨1,14,162,(.row [])⟩)]]⟩)]⟩ (qEs n) (qJF n) [] fun _=>(by kernel_rfl)
theorem qNS:∀n,Ok (Rn n) qON (qF7 n)
 |0=>ok0 fun _=>rfl
 |n+1=>stO (T:=qJE n) (by kernel_rfl) (qJF n) [qL1 n] (fun _=>(by kernel_rfl)) fun _=>(by kernel_rfl)
def qSB:Sg:=⟨141,[aI],[],⟨aS,[],[]⟩⟩
def qIk (n:Nat) (x0:Int):Tr (BA):=(.ask (decide (6=([[(.s (⟨#[]⟩:BA))],[(.s (⟨#[35,68,73,86,33]⟩:BA))],[(.s (⟨#[35,84,89,80,69,33]⟩:BA))],[(.s (⟨#[35,82,69,70,33]⟩:BA))],[(.s (⟨#[35,79,86,69,82,33]⟩:BA))],[(.s (⟨#[35,67,89,67,76,69,33]⟩:BA))]]:RW).length∧0≤x0∧x0<((6:Nat):Int))) (.opt (([[(.s (⟨#[]⟩:BA))],[(.s (⟨#[35,68,73,86,33]⟩:BA))],[(.s (⟨#[35,84,89,80,69,33]⟩:BA))],[(.s (⟨#[35,82,69,70,33]⟩:BA))],[(.s (⟨#[35,79,86,69,82,33]⟩:BA))],[(.s (⟨#[35,67,89,67,76,69,33]⟩:BA))]]:RW)[(x0).toNat]?) fun e69=>(.opt (zY e69 0) fun y70=>(.done y70))) .fail)
def qBm:Nat→Int→Option (BA)
 |0,_=>none
 |n+1,x0=>(qIk n x0).run
theorem qHW:∀n,Ok (Rn n) qSB (qBm n)
 |0=>ok0 fun _=>rfl
 |n+1=>stO (T:=qIk n) (by kernel_rfl) [] [] (fun _=>(by kernel_rfl)) fun _=>(by kernel_rfl)
def qQp:Sg:=⟨210,[aI],[],⟨(.agg [qI,qI,qS]),[],[]⟩⟩
def qHX (n:Nat) (x0:Int):Tr (Int×Int×BA):=(.done ((4:Int),x0,(⟨#[]⟩:BA)))
def qDj:Nat→Int→Option (Int×Int×BA)
 |0,_=>none
 |n+1,x0=>(qHX n x0).run
theorem qPf:∀n,Ok (Rn n) qQp (qDj n)
 |0=>ok0 fun _=>rfl
 |n+1=>stO (T:=qHX n) (by kernel_rfl) [] [] (fun _=>(by kernel_rfl)) fun _=>(by kernel_rfl)
def qOO:Sg:=⟨211,[(.c (.ptr 0 0 0 0 0))],[[(0,⟨0,4,175,(.box [qS,qI,qB,(.own 0 1 1 0)])⟩),(1,⟨1,14,162,(.row [])⟩)]],⟨aS,[[(0,⟨0,4,175,(.box [qS,qI,qB,(.own 0 1 1 0)])⟩),(1,⟨1,14,162,(.row [])⟩)]],[]⟩⟩
def qCY (n:Nat) (v:Int×BA×Int×Bool×Nat×RW):Tr ((Int×BA×Int×Bool×Nat×RW)⊕((Int×BA×Int×Bool×Nat×RW))):=(.ask ((decide (v.2.2.1<(v.2.1.size:Int)))) (.ask (decide (0≤v.2.2.1)) (.opt (v.2.1.toList[(v.2.2.1).toNat]?) fun c75=>(.ask ((decide ((c75.toNat:Int)≥(65:Int)))) (.ask (decide (0≤v.2.2.1)) (.opt (v.2.1.toList[(v.2.2.1).toNat]?) fun c76=>(.ask ((decide ((c76.toNat:Int)≤(90:Int)))) (.done (.inl (v.1,v.2.1,(IntKind.i64.wrap (v.2.2.1+(1:Int))),v.2.2.2.1,v.2.2.2.2.1,v.2.2.2.2.2))) (.ask (decide (0≤v.2.2.1)) (.opt (v.2.1.toList[(v.2.2.1).toNat]?) fun c77=>(.ask ((decide ((c77.toNat:Int)≥(48:Int)))) (.ask (decide (0≤v.2.2.1)) (.opt (v.2.1.toList[(v.2.2.1).toNat]?) fun c78=>(.ask ((decide ((c78.toNat:Int)≤(57:Int)))) (.done (.inl (v.1,v.2.1,(IntKind.i64.wrap (v.2.2.1+(1:Int))),v.2.2.2.1,v.2.2.2.2.1,v.2.2.2.2.2))) (.ask (decide (0≤v.2.2.1)) (.opt (v.2.1.toList[(v.2.2.1).toNat]?) fun c79=>(.ask (((c79.toNat:Int)==(36:Int))) (.done (.inl (v.1,v.2.1,(IntKind.i64.wrap (v.2.2.1+(1:Int))),v.2.2.2.1,v.2.2.2.2.1,v.2.2.2.2.2))) (.done (.inr ((v.1,v.2.1,v.2.2.1,v.2.2.2.1,v.2.2.2.2.1,v.2.2.2.2.2)))))) .fail))) .fail) (.ask (decide (0≤v.2.2.1)) (.opt (v.2.1.toList[(v.2.2.1).toNat]?) fun c80=>(.ask (((c80.toNat:Int)==(36:Int))) (.done (.inl (v.1,v.2.1,(IntKind.i64.wrap (v.2.2.1+(1:Int))),v.2.2.2.1,v.2.2.2.2.1,v.2.2.2.2.2))) (.done (.inr ((v.1,v.2.1,v.2.2.1,v.2.2.2.1,v.2.2.2.2.1,v.2.2.2.2.2)))))) .fail))) .fail))) .fail) (.ask (decide (0≤v.2.2.1)) (.opt (v.2.1.toList[(v.2.2.1).toNat]?) fun c81=>(.ask ((decide ((c81.toNat:Int)≥(48:Int)))) (.ask (decide (0≤v.2.2.1)) (.opt (v.2.1.toList[(v.2.2.1).toNat]?) fun c82=>(.ask ((decide ((c82.toNat:Int)≤(57:Int)))) (.done (.inl (v.1,v.2.1,(IntKind.i64.wrap (v.2.2.1+(1:Int))),v.2.2.2.1,v.2.2.2.2.1,v.2.2.2.2.2))) (.ask (decide (0≤v.2.2.1)) (.opt (v.2.1.toList[(v.2.2.1).toNat]?) fun c83=>(.ask (((c83.toNat:Int)==(36:Int))) (.done (.inl (v.1,v.2.1,(IntKind.i64.wrap (v.2.2.1+(1:Int))),v.2.2.2.1,v.2.2.2.2.1,v.2.2.2.2.2))) (.done (.inr ((v.1,v.2.1,v.2.2.1,v.2.2.2.1,v.2.2.2.2.1,v.2.2.2.2.2)))))) .fail))) .fail) (.ask (decide (0≤v.2.2.1)) (.opt (v.2.1.toList[(v.2.2.1).toNat]?) fun c84=>(.ask (((c84.toNat:Int)==(36:Int))) (.done (.inl (v.1,v.2.1,(IntKind.i64.wrap (v.2.2.1+(1:Int))),v.2.2.2.1,v.2.2.2.2.1,v.2.2.2.2.2))) (.done (.inr ((v.1,v.2.1,v.2.2.1,v.2.2.2.1,v.2.2.2.2.1,v.2.2.2.2.2)))))) .fail))) .fail))) .fail) (.done (.inr ((v.1,v.2.1,v.2.2.1,v.2.2.2.1,v.2.2.2.2.1,v.2.2.2.2.2)))))
def qJG (n:Nat) (x0:BA) (x1:Int) (x2:Bool) (x3:Nat) (x4:RW):Tr (BA×BA×Int×Bool×Nat×RW):=(.opt (zC (qCY n) n (x1,x0,x1,x2,x3,x4)) fun r85=>(.ask (decide (0≤r85.1∧r85.1≤r85.2.2.1∧r85.2.2.1≤r85.2.1.size)) (.done ((r85.2.1.extract (r85.1).toNat (r85.2.2.1).toNat),r85.2.1,r85.2.2.1,r85.2.2.2.1,r85.2.2.2.2.1,r85.2.2.2.2.2)) .fail))
def qDk:Nat→BA→Int→Bool→Nat→RW→Option (BA×BA×Int×Bool×Nat×RW)
 |0,_,_,_,_,_=>none
 |n+1,x0,x1,x2,x3,x4=>(qJG n x0 x1 x2 x3 x4).run
def qL2 (n:Nat):LEnt (KB 211) (Rn n) n:=lok (zK 211) 14 ⟨⟨[(0,(.c (.ptr 0 0 0 0 0))),(3,aI)],[],[[(0,⟨0,4,175,(.box [qS,qI,qB,(.own 0 1 1 0)])⟩),(1,⟨1,14,162,(.row [])⟩)]]⟩,[(.exit 0,⟨[(0,(.c (.ptr 0 0 0 0 0))),(3,aI)],[],[[(0,⟨0,4,175,(.box [qS,qI,qB,(.own 0 1 1 0)])⟩),(1,⟨1,14,162,(.row [])⟩)]]⟩)]⟩ (qCY n) [] [] fun _=>(by kernel_rfl)
theorem qIL:∀n,Ok (Rn n) qOO (qDk n)
 |0=>ok0 fun _=>rfl
 |n+1=>stO (T:=qJG n) (by kernel_rfl) [] [qL2 n] (fun _=>(by kernel_rfl)) fun _=>(by kernel_rfl)
def qTZ:Sg:=⟨182,[aI],[],⟨aS,[],[]⟩⟩
def qKt (n:Nat) (x0:Int):Tr (BA):=(.ask (decide (11=([[(.s (⟨#[]⟩:BA))],[(.s (⟨#[83,85,77]⟩:BA))],[(.s (⟨#[77,73,78]⟩:BA))],[(.s (⟨#[77,65,88]⟩:BA))],[(.s (⟨#[67,79,85,78,84]⟩:BA))],[(.s (⟨#[73,70]⟩:BA))],[(.s (⟨#[65,78,68]⟩:BA))],[(.s (⟨#[79,82]⟩:BA))],[(.s (⟨#[78,79,84]⟩:BA))],[(.s (⟨#[65,66,83]⟩:BA))],[(.s (⟨#[76,69,78]⟩:BA))]]:RW).length∧0≤x0∧x0<((11:Nat):Int))) (.opt (([[(.s (⟨#[]⟩:BA))],[(.s (⟨#[83,85,77]⟩:BA))],[(.s (⟨#[77,73,78]⟩:BA))],[(.s (⟨#[77,65,88]⟩:BA))],[(.s (⟨#[67,79,85,78,84]⟩:BA))],[(.s (⟨#[73,70]⟩:BA))],[(.s (⟨#[65,78,68]⟩:BA))],[(.s (⟨#[79,82]⟩:BA))],[(.s (⟨#[78,79,84]⟩:BA))],[(.s (⟨#[65,66,83]⟩:BA))],[(.s (⟨#[76,69,78]⟩:BA))]]:RW)[(x0).toNat]?) fun e87=>(.opt (zY e87 0) fun y88=>(.done y88))) .fail)
def qDE:Nat→Int→Option (BA)
 |0,_=>none
 |n+1,x0=>(qKt n x0).run
theorem qNT:∀n,Ok (Rn n) qTZ (qDE n)
 |0=>ok0 fun _=>rfl
 |n+1=>stO (T:=qKt n) (by kernel_rfl) [] [] (fun _=>(by kernel_rfl)) fun _=>(by kernel_rfl)
def qQq:Sg:=⟨99,[aI],[],⟨aS,[],[]⟩⟩
def qBp (n:Nat) (v:Int×BA):Tr ((Int×BA)⊕((BA))):=(.ask ((decide (v.1>(0:Int)))) (.ask (decide (1=([[(.i .u8 (IntKind.u8.wrap (IntKind.i64.wrap ((65:Int)+(Int.tmod (IntKind.i64.wrap (v.1-(1:Int))) (26:Int))))))]]:RW).length)) (.opt (bytesOf ([[(.i .u8 (IntKind.u8.wrap (IntKind.i64.wrap ((65:Int)+(Int.tmod (IntKind.i64.wrap (v.1-(1:Int))) (26:Int))))))]]:RW)) fun l98=>(.ask (decide ((⟨l98.toArray⟩:BA).size+v.2.size≤9223372036854775807)) (.done (.inl ((IntKind.i64.wrap (Int.tdiv (IntKind.i64.wrap (v.1-(1:Int))) (26:Int))),((⟨l98.toArray⟩:BA)++v.2)))) .fail)) .fail) (.done (.inr (v.2))))
def qFY (n:Nat) (x0:Int):Tr (BA):=(.opt (qA1 n x0 (1:Int) (52:Int)) fun r97=>(.ask ((!r97)) (.done (⟨#[]⟩:BA)) (.opt (zC (qBp n) n (x0,(⟨#[]⟩:BA))) fun r99=>(.done r99))))
def qDl:Nat→Int→Option (BA)
 |0,_=>none
 |n+1,x0=>(qFY n x0).run
abbrev qKu (n:Nat):List (Ent (Rn n)):= [en (qEh n)]
def qNU (n:Nat):LEnt (KB 99) (Rn n) n:=lok (zK 99) 30 ⟨⟨[(0,aI),(3,aS)],[],[]⟩,[(.exit 0,⟨[(3,aS)],[],[]⟩)]⟩ (qBp n) (qKu n) [] fun _=>(by kernel_rfl)
theorem qKD:∀n,Ok (Rn n) qQq (qDl n)
 |0=>ok0 fun _=>rfl
 |n+1=>stO (T:=qFY n) (by kernel_rfl) (qKu n) [qNU n] (fun _=>(by kernel_rfl)) fun _=>(by kernel_rfl)
def qQr:Sg:=⟨233,[aS],[],⟨aI,[],[]⟩⟩
def qDF (n:Nat) (v:BA×Int):Tr ((BA×Int)⊕((Int)⊕(Unit))):=(.ask ((decide (v.2≤(52:Int)))) (.opt (qDl n v.2) fun r97=>(.ask ((r97.toList==v.1.toList)) (.done (.inr (.inl (v.2)))) (.done (.inl (v.1,(IntKind.i64.wrap (v.2+(1:Int)))))))) (.done (.inr (.inr (())))))
def qHY (n:Nat) (x0:BA):Tr (Int):=(.opt (zC (qDF n) n (x0,(1:Int))) fun r98=>(.alt r98 (fun r99=>(.done r99)) (fun r100=>(.done (0:Int)))))
def qCv:Nat→BA→Option (Int)
 |0,_=>none
 |n+1,x0=>(qHY n x0).run
abbrev qKv (n:Nat):List (Ent (Rn n)):= [en (qKD n)]
def qNV (n:Nat):LEnt (KB 233) (Rn n) n:=lok (zK 233) 13 ⟨⟨[(0,aS),(3,aI)],[],[]⟩,[(.ret,⟨[(2,aI)],[],[]⟩),(.exit 0,⟨[],[],[]⟩)]⟩ (qDF n) (qKv n) [] fun _=>(by kernel_rfl)
theorem qPg:∀n,Ok (Rn n) qQr (qCv n)
 |0=>ok0 fun _=>rfl
 |n+1=>stO (T:=qHY n) (by kernel_rfl) (qKv n) [qNV n] (fun _=>(by kernel_rfl)) fun _=>(by kernel_rfl)
def qS2:Sg:=⟨138,[aS,aI],[],⟨(.tup [(false,[qI]),(false,[qB])]),[],[]⟩⟩
def qBz (n:Nat) (v:BA×Int×Int):Tr ((BA×Int×Int)⊕((Int×Bool)⊕(Int))):=(.ask ((decide (v.2.2<(v.1.size:Int)))) (.ask (decide (0≤v.2.2)) (.opt (v.1.toList[(v.2.2).toNat]?) fun c104=>(.ask ((decide ((c104.toNat:Int)<(48:Int)))) (.done (.inr (.inl (((0:Int),false))))) (.ask (decide (0≤v.2.2)) (.opt (v.1.toList[(v.2.2).toNat]?) fun c105=>(.ask ((decide ((c105.toNat:Int)>(57:Int)))) (.done (.inr (.inl (((0:Int),false))))) (.ask (decide (0≤v.2.2)) (.opt (v.1.toList[(v.2.2).toNat]?) fun c106=>(.done (.inl (v.1,(IntKind.i64.wrap ((IntKind.i64.wrap (v.2.1*(10:Int)))+(IntKind.i64.wrap (IntKind.u8.wrap ((c106.toNat:Int)-(48:Int)))))),(IntKind.i64.wrap (v.2.2+(1:Int))))))) .fail))) .fail))) .fail) (.done (.inr (.inr (v.2.1)))))
def qFZ (n:Nat) (x0:BA) (x1:Int):Tr (Int×Bool):=(.ask ((decide ((x0.size:Int)<(1:Int)))) (.done ((0:Int),false)) (.ask ((decide ((x0.size:Int)>x1))) (.done ((0:Int),false)) (.ask (decide (0≤(0:Int))) (.opt (x0.toList[((0:Int)).toNat]?) fun c103=>(.ask (((c103.toNat:Int)==(48:Int))) (.ask ((decide ((x0.size:Int)>(1:Int)))) (.done ((0:Int),false)) (.opt (zC (qBz n) n (x0,(0:Int),(0:Int))) fun r107=>(.alt r107 (fun r108=>(.done (r108.1,r108.2))) (fun r109=>(.done (r109,true)))))) (.opt (zC (qBz n) n (x0,(0:Int),(0:Int))) fun r110=>(.alt r110 (fun r111=>(.done (r111.1,r111.2))) (fun r112=>(.done (r112,true))))))) .fail)))
def qz:Nat→BA→Int→Option (Int×Bool)
 |0,_,_=>none
 |n+1,x0,x1=>(qFZ n x0 x1).run
def qPh (n:Nat):LEnt (KB 138) (Rn n) n:=lok (zK 138) 61 ⟨⟨[(0,aS),(6,aI),(7,aI)],[],[]⟩,[(.ret,⟨[(4,aI),(5,aB)],[],[]⟩),(.exit 0,⟨[(6,aI)],[],[]⟩)]⟩ (qBz n) [] [] fun _=>(by kernel_rfl)
theorem qIl:∀n,Ok (Rn n) qS2 (qz n)
 |0=>ok0 fun _=>rfl
 |n+1=>stO (T:=qFZ n) (by kernel_rfl) [] [qPh n] (fun _=>(by kernel_rfl)) fun _=>(by kernel_rfl)
def qOP:Sg:=⟨213,[aS],[],⟨(.tup [(true,[qI,qI,qB,qB]),(false,[qB])]),[],[]⟩⟩
def qAV (n:Nat) (v:BA×Int×Int×Int×Bool×Bool×Int×Int×Bool×Bool):Tr ((BA×Int×Int×Int×Bool×Bool×Int×Int×Bool×Bool)⊕((BA×Int×Int×Int×Bool×Bool×Int×Int×Bool×Bool))):=(.ask ((decide (v.2.1<(v.1.size:Int)))) (.ask (decide (0≤v.2.1)) (.opt (v.1.toList[(v.2.1).toNat]?) fun c94=>(.ask ((decide ((c94.toNat:Int)≥(65:Int)))) (.ask (decide (0≤v.2.1)) (.opt (v.1.toList[(v.2.1).toNat]?) fun c95=>(.ask ((decide ((c95.toNat:Int)≤(90:Int)))) (.done (.inl (v.1,(IntKind.i64.wrap (v.2.1+(1:Int))),v.2.2.1,v.2.2.2.1,v.2.2.2.2.1,v.2.2.2.2.2.1,v.2.2.2.2.2.2.1,v.2.2.2.2.2.2.2.1,v.2.2.2.2.2.2.2.2.1,v.2.2.2.2.2.2.2.2.2))) (.done (.inr ((v.1,v.2.1,v.2.2.1,v.2.2.2.1,v.2.2.2.2.1,v.2.2.2.2.2.1,v.2.2.2.2.2.2.1,v.2.2.2.2.2.2.2.1,v.2.2.2.2.2.2.2.2.1,v.2.2.2.2.2.2.2.2.2)))))) .fail) (.done (.inr ((v.1,v.2.1,v.2.2.1,v.2.2.2.1,v.2.2.2.2.1,v.2.2.2.2.2.1,v.2.2.2.2.2.2.1,v.2.2.2.2.2.2.2.1,v.2.2.2.2.2.2.2.2.1,v.2.2.2.2.2.2.2.2.2)))))) .fail) (.done (.inr ((v.1,v.2.1,v.2.2.1,v.2.2.2.1,v.2.2.2.2.1,v.2.2.2.2.2.1,v.2.2.2.2.2.2.1,v.2.2.2.2.2.2.2.1,v.2.2.2.2.2.2.2.2.1,v.2.2.2.2.2.2.2.2.2)))))
def qCq (n:Nat) (x0:BA):Tr (Int×Int×Bool×Bool×Bool):=(.ask ((decide ((x0.size:Int)>(0:Int)))) (.ask (decide (0≤(0:Int))) (.opt (x0.toList[((0:Int)).toNat]?) fun c93=>(.ask (((c93.toNat:Int)==(36:Int))) (.ask (decide (0≤(1:Int)∧(1:Int)≤(x0.size:Int)∧(x0.size:Int)≤x0.size)) (.opt (zC (qAV n) n ((x0.extract ((1:Int)).toNat ((x0.size:Int)).toNat),(0:Int),(0:Int),(0:Int),false,false,(0:Int),(0:Int),true,false)) fun r96=>(.ask (decide (0≤(0:Int)∧(0:Int)≤r96.2.1∧r96.2.1≤r96.1.size)) (.opt (qCv n (r96.1.extract ((0:Int)).toNat (r96.2.1).toNat)) fun r101=>(.ask (decide (0≤r96.2.1∧r96.2.1≤(r96.1.size:Int)∧(r96.1.size:Int)≤r96.1.size)) (.ask ((decide (((r96.1.extract (r96.2.1).toNat ((r96.1.size:Int)).toNat).size:Int)>(0:Int)))) (.ask (decide (0≤(0:Int))) (.opt ((r96.1.extract (r96.2.1).toNat ((r96.1.size:Int)).toNat).toList[((0:Int)).toNat]?) fun c102=>(.ask (((c102.toNat:Int)==(36:Int))) (.ask (decide (0≤(1:Int)∧(1:Int)≤((r96.1.extract (r96.2.1).toNat ((r96.1.size:Int)).toNat).size:Int)∧((r96.1.extract (r96.2.1).toNat ((r96.1.size:Int)).toNat).size:Int)≤(r96.1.extract (r96.2.1).toNat ((r96.1.size:Int)).toNat).size)) (.opt (qz n ((r96.1.extract (r96.2.1).toNat ((r96.1.size:Int)).toNat).extract ((1:Int)).toNat (((r96.1.extract (r96.2.1).toNat ((r96.1.size:Int)).toNat).size:Int)).toNat) (2:Int)) fun r113=>(.ask ((!r113.2)) (.done ((0:Int),(0:Int),false,false,false)) (.opt (qAT n r101 r113.1) fun r114=>(.ask ((!r114)) (.done ((0:Int),(0:Int),false,false,false)) (.done (r101,r113.1,r96.2.2.2.2.2.2.2.2.1,true,true)))))) .fail) (.opt (qz n (r96.1.extract (r96.2.1).toNat ((r96.1.size:Int)).toNat) (2:Int)) fun r115=>(.ask ((!r115.2)) (.done ((0:Int),(0:Int),false,false,false)) (.opt (qAT n r101 r115.1) fun r116=>(.ask ((!r116)) (.done ((0:Int),(0:Int),false,false,false)) (.done (r101,r115.1,r96.2.2.2.2.2.2.2.2.1,r96.2.2.2.2.2.2.2.2.2,true)))))))) .fail) (.opt (qz n (r96.1.extract (r96.2.1).toNat ((r96.1.size:Int)).toNat) (2:Int)) fun r117=>(.ask ((!r117.2)) (.done ((0:Int),(0:Int),false,false,false)) (.opt (qAT n r101 r117.1) fun r118=>(.ask ((!r118)) (.done ((0:Int),(0:Int),false,false,false)) (.done (r101,r117.1,r96.2.2.2.2.2.2.2.2.1,r96.2.2.2.2.2.2.2.2.2,true))))))) .fail)) .fail)) .fail) (.opt (zC (qAV n) n (x0,(0:Int),(0:Int),(0:Int),false,false,(0:Int),(0:Int),false,false)) fun r119=>(.ask (decide (0≤(0:Int)∧(0:Int)≤r119.2.1∧r119.2.1≤r119.1.size)) (.opt (qCv n (r119.1.extract ((0:Int)).toNat (r119.2.1).toNat)) fun r120=>(.ask (decide (0≤r119.2.1∧r119.2.1≤(r119.1.size:Int)∧(r119.1.size:Int)≤r119.1.size)) (.ask ((decide (((r119.1.extract (r119.2.1).toNat ((r119.1.size:Int)).toNat).size:Int)>(0:Int)))) (.ask (decide (0≤(0:Int))) (.opt ((r119.1.extract (r119.2.1).toNat ((r119.1.size:Int)).toNat).toList[((0:Int)).toNat]?) fun c121=>(.ask (((c121.toNat:Int)==(36:Int))) (.ask (decide (0≤(1:Int)∧(1:Int)≤((r119.1.extract (r119.2.1).toNat ((r119.1.size:Int)).toNat).size:Int)∧((r119.1.extract (r119.2.1).toNat ((r119.1.size:Int)).toNat).size:Int)≤(r119.1.extract (r119.2.1).toNat ((r119.1.size:Int)).toNat).size)) (.opt (qz n ((r119.1.extract (r119.2.1).toNat ((r119.1.size:Int)).toNat).extract ((1:Int)).toNat (((r119.1.extract (r119.2.1).toNat ((r119.1.size:Int)).toNat).size:Int)).toNat) (2:Int)) fun r122=>(.ask ((!r122.2)) (.done ((0:Int),(0:Int),false,false,false)) (.opt (qAT n r120 r122.1) fun r123=>(.ask ((!r123)) (.done ((0:Int),(0:Int),false,false,false)) (.done (r120,r122.1,r119.2.2.2.2.2.2.2.2.1,true,true)))))) .fail) (.opt (qz n (r119.1.extract (r119.2.1).toNat ((r119.1.size:Int)).toNat) (2:Int)) fun r124=>(.ask ((!r124.2)) (.done ((0:Int),(0:Int),false,false,false)) (.opt (qAT n r120 r124.1) fun r125=>(.ask ((!r125)) (.done ((0:Int),(0:Int),false,false,false)) (.done (r120,r124.1,r119.2.2.2.2.2.2.2.2.1,r119.2.2.2.2.2.2.2.2.2,true)))))))) .fail) (.opt (qz n (r119.1.extract (r119.2.1).toNat ((r119.1.size:Int)).toNat) (2:Int)) fun r126=>(.ask ((!r126.2)) (.done ((0:Int),(0:Int),false,false,false)) (.opt (qAT n r120 r126.1) fun r127=>(.ask ((!r127)) (.done ((0:Int),(0:Int),false,false,false)) (.done (r120,r126.1,r119.2.2.2.2.2.2.2.2.1,r119.2.2.2.2.2.2.2.2.2,true))))))) .fail)) .fail)))) .fail) (.opt (zC (qAV n) n (x0,(0:Int),(0:Int),(0:Int),false,false,(0:Int),(0:Int),false,false)) fun r128=>(.ask (decide (0≤(0:Int)∧(0:Int)≤r128.2.1∧r128.2.1≤r128.1.size)) (.opt (qCv n (r128.1.extract ((0:Int)).toNat (r128.2.1).toNat)) fun r129=>(.ask (decide (0≤r128.2.1∧r128.2.1≤(r128.1.size:Int)∧(r128.1.size:Int)≤r128.1.size)) (.ask ((decide (((r128.1.extract (r128.2.1).toNat ((r128.1.size:Int)).toNat).size:Int)>(0:Int)))) (.ask (decide (0≤(0:Int))) (.opt ((r128.1.extract (r128.2.1).toNat ((r128.1.size:Int)).toNat).toList[((0:Int)).toNat]?) fun c130=>(.ask (((c130.toNat:Int)==(36:Int))) (.ask (decide (0≤(1:Int)∧(1:Int)≤((r128.1.extract (r128.2.1).toNat ((r128.1.size:Int)).toNat).size:Int)∧((r128.1.extract (r128.2.1).toNat ((r128.1.size:Int)).toNat).size:Int)≤(r128.1.extract (r128.2.1).toNat ((r128.1.size:Int)).toNat).size)) (.opt (qz n ((r128.1.extract (r128.2.1).toNat ((r128.1.size:Int)).toNat).extract ((1:Int)).toNat (((r128.1.extract (r128.2.1).toNat ((r128.1.size:Int)).toNat).size:Int)).toNat) (2:Int)) fun r131=>(.ask ((!r131.2)) (.done ((0:Int),(0:Int),false,false,false)) (.opt (qAT n r129 r131.1) fun r132=>(.ask ((!r132)) (.done ((0:Int),(0:Int),false,false,false)) (.done (r129,r131.1,r128.2.2.2.2.2.2.2.2.1,true,true)))))) .fail) (.opt (qz n (r128.1.extract (r128.2.1).toNat ((r128.1.size:Int)).toNat) (2:Int)) fun r133=>(.ask ((!r133.2)) (.done ((0:Int),(0:Int),false,false,false)) (.opt (qAT n r129 r133.1) fun r134=>(.ask ((!r134)) (.done ((0:Int),(0:Int),false,false,false)) (.done (r129,r133.1,r128.2.2.2.2.2.2.2.2.1,r128.2.2.2.2.2.2.2.2.2,true)))))))) .fail) (.opt (qz n (r128.1.extract (r128.2.1).toNat ((r128.1.size:Int)).toNat) (2:Int)) fun r135=>(.ask ((!r135.2)) (.done ((0:Int),(0:Int),false,false,false)) (.opt (qAT n r129 r135.1) fun r136=>(.ask ((!r136)) (.done ((0:Int),(0:Int),false,false,false)) (.done (r129,r135.1,r128.2.2.2.2.2.2.2.2.1,r128.2.2.2.2.2.2.2.2.2,true))))))) .fail)) .fail)))
def qAy:Nat→BA→Option (Int×Int×Bool×Bool×Bool)
 |0,_=>none
 |n+1,x0=>(qCq n x0).run
abbrev qJH (n:Nat):List (Ent (Rn n)):= [en (qPg n),en (qIl n),en (qE3 n)]
def qL3 (n:Nat):LEnt (KB 213) (Rn n) n:=lok (zK 213) 62 ⟨⟨[(0,aS),(2,(.c (.ptr 0 128 0 0 0))),(4,(.c (.ptr 0 256 0 0 0))),(5,aI)],[(128,⟨0,4,90,(.box [qI,qI,qB,qB])⟩),(256,⟨0,4,90,(.box [qI,qI,qB,qB])⟩)],[]⟩,[(.exit 0,⟨[(0,aS),(2,(.c (.ptr 0 128 0 0 0))),(4,(.c (.ptr 0 256 0 0 0))),(5,aI)],[(128,⟨0,4,90,(.box [qI,qI,qB,qB])⟩),(256,⟨0,4,90,(.box [qI,qI,qB,qB])⟩)],[]⟩)]⟩ (qAV n) (qJH n) [] fun _=>(by kernel_rfl)
theorem qIM:∀n,Ok (Rn n) qOP (qAy n)
 |0=>ok0 fun _=>rfl
 |n+1=>stO (T:=qCq n) (by kernel_rfl) (qJH n) [qL3 n] (fun _=>(by kernel_rfl)) fun _=>(by kernel_rfl)
def qOQ:Sg:=⟨97,[aS],[],⟨(.tup [(true,[qI,qI,qS]),(false,[qB])]),[],[]⟩⟩
def qBq (n:Nat) (v:BA×Int×Int×Int×BA×Int×Int×BA):Tr ((BA×Int×Int×Int×BA×Int×Int×BA)⊕((Int×Int×BA×Int×Int×BA))):=(.ask ((decide (v.2.1≤(5:Int)))) (.opt (qBm n v.2.1) fun r100=>(.ask ((r100.toList==v.1.toList)) (.done (.inl (v.1,(IntKind.i64.wrap (v.2.1+(1:Int))),v.2.2.1,v.2.2.2.1,v.2.2.2.2.1,v.2.2.2.2.2.1,v.2.1,v.2.2.2.2.2.2.2))) (.done (.inl (v.1,(IntKind.i64.wrap (v.2.1+(1:Int))),v.2.2.1,v.2.2.2.1,v.2.2.2.2.1,v.2.2.2.2.2.1,v.2.2.2.2.2.2.1,v.2.2.2.2.2.2.2))))) (.done (.inr ((v.2.2.1,v.2.2.2.1,v.2.2.2.2.1,v.2.2.2.2.2.1,v.2.2.2.2.2.2.1,v.2.2.2.2.2.2.2)))))
def qBI (n:Nat) (x0:BA):Tr (Int×Int×BA×Bool):=(.ask ((x0.toList==(⟨#[]⟩:BA).toList)) (.done ((0:Int),(0:Int),(⟨#[]⟩:BA),true)) (.ask (decide (0≤(0:Int))) (.opt (x0.toList[((0:Int)).toNat]?) fun c93=>(.ask (((c93.toNat:Int)==(39:Int))) (.ask (decide (0≤(1:Int)∧(1:Int)≤(x0.size:Int)∧(x0.size:Int)≤x0.size)) (.opt (qa n (2:Int) (0:Int) (x0.extract ((1:Int)).toNat ((x0.size:Int)).toNat)) fun r94=>(.ask ((!r94)) (.done ((0:Int),(0:Int),(⟨#[]⟩:BA),false)) (.done ((2:Int),(0:Int),(x0.extract ((1:Int)).toNat ((x0.size:Int)).toNat),true)))) .fail) (.ask ((x0.toList==(⟨#[84,82,85,69]⟩:BA).toList)) (.ask ((x0.toList==(⟨#[84,82,85,69]⟩:BA).toList)) (.opt (qa n (3:Int) (1:Int) (⟨#[]⟩:BA)) fun r95=>(.ask ((!r95)) (.done ((0:Int),(0:Int),(⟨#[]⟩:BA),false)) (.done ((3:Int),(1:Int),(⟨#[]⟩:BA),true)))) (.opt (qa n (3:Int) (0:Int) (⟨#[]⟩:BA)) fun r96=>(.ask ((!r96)) (.done ((0:Int),(0:Int),(⟨#[]⟩:BA),false)) (.done ((3:Int),(0:Int),(⟨#[]⟩:BA),true))))) (.ask ((x0.toList==(⟨#[70,65,76,83,69]⟩:BA).toList)) (.ask ((x0.toList==(⟨#[84,82,85,69]⟩:BA).toList)) (.opt (qa n (3:Int) (1:Int) (⟨#[]⟩:BA)) fun r97=>(.ask ((!r97)) (.done ((0:Int),(0:Int),(⟨#[]⟩:BA),false)) (.done ((3:Int),(1:Int),(⟨#[]⟩:BA),true)))) (.opt (qa n (3:Int) (0:Int) (⟨#[]⟩:BA)) fun r98=>(.ask ((!r98)) (.done ((0:Int),(0:Int),(⟨#[]⟩:BA),false)) (.done ((3:Int),(0:Int),(⟨#[]⟩:BA),true))))) (.ask (decide (0≤(0:Int))) (.opt (x0.toList[((0:Int)).toNat]?) fun c99=>(.ask (((c99.toNat:Int)==(35:Int))) (.opt (zC (qBq n) n (x0,(1:Int),(0:Int),(0:Int),(⟨#[]⟩:BA),(4:Int),(0:Int),(⟨#[]⟩:BA))) fun r101=>(.opt (qa n r101.2.2.2.1 r101.2.2.2.2.1 r101.2.2.2.2.2) fun r102=>(.ask ((!r102)) (.done ((0:Int),(0:Int),(⟨#[]⟩:BA),false)) (.done (r101.2.2.2.1,r101.2.2.2.2.1,r101.2.2.2.2.2,true))))) (.ask (decide (0≤(0:Int))) (.opt (x0.toList[((0:Int)).toNat]?) fun c103=>(.ask (((c103.toNat:Int)==(45:Int))) (.ask (decide (0≤(1:Int)∧(1:Int)≤(x0.size:Int)∧(x0.size:Int)≤x0.size)) (.opt (qz n (x0.extract ((1:Int)).toNat ((x0.size:Int)).toNat) (16:Int)) fun r104=>(.ask ((!r104.2)) (.done ((0:Int),(0:Int),(⟨#[]⟩:BA),false)) (.ask (((c103.toNat:Int)==(45:Int))) (.ask ((r104.1==(0:Int))) (.done ((0:Int),(0:Int),(⟨#[]⟩:BA),false)) (.ask (((c103.toNat:Int)==(45:Int))) (.opt (qa n (1:Int) (IntKind.i64.wrap (0-r104.1)) (⟨#[]⟩:BA)) fun r105=>(.ask ((!r105)) (.done ((0:Int),(0:Int),(⟨#[]⟩:BA),false)) (.done ((1:Int),(IntKind.i64.wrap (0-r104.1)),(⟨#[]⟩:BA),true)))) (.opt (qa n (1:Int) r104.1 (⟨#[]⟩:BA)) fun r106=>(.ask ((!r106)) (.done ((0:Int),(0:Int),(⟨#[]⟩:BA),false)) (.done ((1:Int),r104.1,(⟨#[]⟩:BA),true)))))) (.ask (((c103.toNat:Int)==(45:Int))) (.opt (qa n (1:Int) (IntKind.i64.wrap (0-r104.1)) (⟨#[]⟩:BA)) fun r107=>(.ask ((!r107)) (.done ((0:Int),(0:Int),(⟨#[]⟩:BA),false)) (.done ((1:Int),(IntKind.i64.wrap (0-r104.1)),(⟨#[]⟩:BA),true)))) (.opt (qa n (1:Int) r104.1 (⟨#[]⟩:BA)) fun r108=>(.ask ((!r108)) (.done ((0:Int),(0:Int),(⟨#[]⟩:BA),false)) (.done ((1:Int),r104.1,(⟨#[]⟩:BA),true)))))))) .fail) (.opt (qz n x0 (16:Int)) fun r109=>(.ask ((!r109.2)) (.done ((0:Int),(0:Int),(⟨#[]⟩:BA),false)) (.ask (((c103.toNat:Int)==(45:Int))) (.ask ((r109.1==(0:Int))) (.done ((0:Int),(0:Int),(⟨#[]⟩:BA),false)) (.ask (((c103.toNat:Int)==(45:Int))) (.opt (qa n (1:Int) (IntKind.i64.wrap (0-r109.1)) (⟨#[]⟩:BA)) fun r110=>(.ask ((!r110)) (.done ((0:Int),(0:Int),(⟨#[]⟩:BA),false)) (.done ((1:Int),(IntKind.i64.wrap (0-r109.1)),(⟨#[]⟩:BA),true)))) (.opt (qa n (1:Int) r109.1 (⟨#[]⟩:BA)) fun r111=>(.ask ((!r111)) (.done ((0:Int),(0:Int),(⟨#[]⟩:BA),false)) (.done ((1:Int),r109.1,(⟨#[]⟩:BA),true)))))) (.ask (((c103.toNat:Int)==(45:Int))) (.opt (qa n (1:Int) (IntKind.i64.wrap (0-r109.1)) (⟨#[]⟩:BA)) fun r112=>(.ask ((!r112)) (.done ((0:Int),(0:Int),(⟨#[]⟩:BA),false)) (.done ((1:Int),(IntKind.i64.wrap (0-r109.1)),(⟨#[]⟩:BA),true)))) (.opt (qa n (1:Int) r109.1 (⟨#[]⟩:BA)) fun r113=>(.ask ((!r113)) (.done ((0:Int),(0:Int),(⟨#[]⟩:BA),false)) (.done ((1:Int),r109.1,(⟨#[]⟩:BA),true)))))))))) .fail))) .fail))))) .fail))
def qAR:Nat→BA→Option (Int×Int×BA×Bool)
 |0,_=>none
 |n+1,x0=>(qBI n x0).run
abbrev qJI (n:Nat):List (Ent (Rn n)):= [en (qFC n),en (qHW n),en (qIl n)]
def qJk (n:Nat):LEnt (KB 97) (Rn n) n:=lok (zK 97) 15355 ⟨⟨[(0,aS),(2,(.c (.ptr 0 128 0 0 0))),(4,(.c (.ptr 0 256 0 0 0))),(5,aI)],[(128,⟨0,3,128,(.box [qI,qI,qS])⟩),(256,⟨0,3,128,(.box [qI,qI,qS])⟩)],[]⟩,[(.exit 1,⟨[(2,(.c (.ptr 0 128 0 0 0))),(4,(.c (.ptr 0 256 0 0 0)))],[(128,⟨0,3,128,(.box [qI,qI,qS])⟩),(256,⟨0,3,128,(.box [qI,qI,qS])⟩)],[]⟩)]⟩ (qBq n) (qJI n) [] fun _=>(by kernel_rfl)
theorem qIN:∀n,Ok (Rn n) qOQ (qAR n)
 |0=>ok0 fun _=>rfl
 |n+1=>stO (T:=qBI n) (by kernel_rfl) (qJI n) [qJk n] (fun _=>(by kernel_rfl)) fun _=>(by kernel_rfl)
def qQs:Sg:=⟨180,[aI],[],⟨aI,[],[]⟩⟩
def qHZ (n:Nat) (x0:Int):Tr (Int):=(.ask ((decide (x0≥(6:Int)))) (.done (1:Int)) (.ask ((x0==(5:Int))) (.done (2:Int)) (.ask ((decide (x0≥(3:Int)))) (.done (4:Int)) (.done (3:Int)))))
def qCw:Nat→Int→Option (Int)
 |0,_=>none
 |n+1,x0=>(qHZ n x0).run
theorem qKE:∀n,Ok (Rn n) qQs (qCw n)
 |0=>ok0 fun _=>rfl
 |n+1=>stO (T:=qHZ n) (by kernel_rfl) [] [] (fun _=>(by kernel_rfl)) fun _=>(by kernel_rfl)
def qSC:Sg:=⟨181,[aI],[],⟨aS,[],[]⟩⟩
def qIm (n:Nat) (x0:Int):Tr (BA):=(.ask (decide (12=([[(.s (⟨#[]⟩:BA))],[(.s (⟨#[43]⟩:BA))],[(.s (⟨#[45]⟩:BA))],[(.s (⟨#[42]⟩:BA))],[(.s (⟨#[47]⟩:BA))],[(.s (⟨#[38]⟩:BA))],[(.s (⟨#[61]⟩:BA))],[(.s (⟨#[60,62]⟩:BA))],[(.s (⟨#[60]⟩:BA))],[(.s (⟨#[60,61]⟩:BA))],[(.s (⟨#[62]⟩:BA))],[(.s (⟨#[62,61]⟩:BA))]]:RW).length∧0≤x0∧x0<((12:Nat):Int))) (.opt (([[(.s (⟨#[]⟩:BA))],[(.s (⟨#[43]⟩:BA))],[(.s (⟨#[45]⟩:BA))],[(.s (⟨#[42]⟩:BA))],[(.s (⟨#[47]⟩:BA))],[(.s (⟨#[38]⟩:BA))],[(.s (⟨#[61]⟩:BA))],[(.s (⟨#[60,62]⟩:BA))],[(.s (⟨#[60]⟩:BA))],[(.s (⟨#[60,61]⟩:BA))],[(.s (⟨#[62]⟩:BA))],[(.s (⟨#[62,61]⟩:BA))]]:RW)[(x0).toNat]?) fun e127=>(.opt (zY e127 0) fun y128=>(.done y128))) .fail)
def qDU:Nat→Int→Option (BA)
 |0,_=>none
 |n+1,x0=>(qIm n x0).run
theorem qKw:∀n,Ok (Rn n) qSC (qDU n)
 |0=>ok0 fun _=>rfl
 |n+1=>stO (T:=qIm n) (by kernel_rfl) [] [] (fun _=>(by kernel_rfl)) fun _=>(by kernel_rfl)
def qQt:Sg:=⟨174,[(.c (.ptr 0 0 0 0 0)),aI],[[(0,⟨0,4,175,(.box [qS,qI,qB,(.own 0 1 1 0)])⟩),(1,⟨1,14,162,(.row [])⟩)]],⟨aI,[[(0,⟨0,4,175,(.box [qS,qI,qB,(.own 0 1 1 0)])⟩),(1,⟨1,14,162,(.row [])⟩)]],[]⟩⟩
def qFa (n:Nat) (v:Int×Nat×Int×RW×BA×Int×Bool×Nat×RW):Tr ((Int×Nat×Int×RW×BA×Int×Bool×Nat×RW)⊕((Int×BA×Int×Bool×Nat×RW)⊕(BA×Int×Bool×Nat×RW))):=(.ask ((decide (v.2.2.1<((v.2.1:Nat):Int)))) (.ask (decide (v.2.1=v.2.2.2.1.length∧0≤v.2.2.1∧v.2.2.1<((v.2.1:Nat):Int))) (.opt (v.2.2.2.1[(v.2.2.1).toNat]?) fun e122=>(.opt (zB .i64 e122 0) fun y123=>(.opt (qCw n y123) fun r124=>(.ask ((r124==v.1)) (.ask (decide (v.2.1=v.2.2.2.1.length∧0≤v.2.2.1∧v.2.2.1<((v.2.1:Nat):Int))) (.opt (v.2.2.2.1[(v.2.2.1).toNat]?) fun e125=>(.opt (zB .i64 e125 0) fun y126=>(.opt (qDU n y126) fun r127=>(.opt (qAJ n r127 v.2.2.2.2.1 v.2.2.2.2.2.1 v.2.2.2.2.2.2.1 v.2.2.2.2.2.2.2.1 v.2.2.2.2.2.2.2.2) fun r128=>(.ask (r128.1) (.ask (decide (v.2.1=v.2.2.2.1.length∧0≤v.2.2.1∧v.2.2.1<((v.2.1:Nat):Int))) (.opt (v.2.2.2.1[(v.2.2.1).toNat]?) fun e129=>(.opt (zB .i64 e129 0) fun y130=>(.done (.inr (.inl ((y130,r128.2.1,r128.2.2.1,r128.2.2.2.1,r128.2.2.2.2.1,r128.2.2.2.2.2))))))) .fail) (.done (.inl (v.1,v.2.1,(IntKind.i64.wrap (v.2.2.1+(1:Int))),v.2.2.2.1,r128.2.1,r128.2.2.1,r128.2.2.2.1,r128.2.2.2.2.1,r128.2.2.2.2.2)))))))) .fail) (.done (.inl (v.1,v.2.1,(IntKind.i64.wrap (v.2.2.1+(1:Int))),v.2.2.2.1,v.2.2.2.2.1,v.2.2.2.2.2.1,v.2.2.2.2.2.2.1,v.2.2.2.2.2.2.2.1,v.2.2.2.2.2.2.2.2))))))) .fail) (.done (.inr (.inr ((v.2.2.2.2.1,v.2.2.2.2.2.1,v.2.2.2.2.2.2.1,v.2.2.2.2.2.2.2.1,v.2.2.2.2.2.2.2.2))))))
def qKx (n:Nat) (x0:Int) (x1:BA) (x2:Int) (x3:Bool) (x4:Nat) (x5:RW):Tr (Int×BA×Int×Bool×Nat×RW):=(.opt (zC (qFa n) n (x0,(11:Nat),(0:Int),([[(.i .i64 (7:Int))],[(.i .i64 (9:Int))],[(.i .i64 (11:Int))],[(.i .i64 (6:Int))],[(.i .i64 (8:Int))],[(.i .i64 (10:Int))],[(.i .i64 (1:Int))],[(.i .i64 (2:Int))],[(.i .i64 (3:Int))],[(.i .i64 (4:Int))],[(.i .i64 (5:Int))]]:RW),x1,x2,x3,x4,x5)) fun r131=>(.alt r131 (fun r132=>(.done (r132.1,r132.2.1,r132.2.2.1,r132.2.2.2.1,r132.2.2.2.2.1,r132.2.2.2.2.2))) (fun r133=>(.done ((0:Int),r133.1,r133.2.1,r133.2.2.1,r133.2.2.2.1,r133.2.2.2.2)))))
def qFb:Nat→Int→BA→Int→Bool→Nat→RW→Option (Int×BA×Int×Bool×Nat×RW)
 |0,_,_,_,_,_,_=>none
 |n+1,x0,x1,x2,x3,x4,x5=>(qKx n x0 x1 x2 x3 x4 x5).run
abbrev qKy (n:Nat):List (Ent (Rn n)):= [en (qKE n),en (qKw n),en (qFB n)]
def qNW (n:Nat):LEnt (KB 174) (Rn n) n:=lok (zK 174) 29 ⟨⟨[(0,(.c (.ptr 0 0 0 0 0))),(1,aI),(5,(.c (.own 1 448 0 0))),(6,aI)],[(448,⟨0,1,2,(.row [])⟩)],[[(0,⟨0,4,175,(.box [qS,qI,qB,(.own 0 1 1 0)])⟩),(1,⟨1,14,162,(.row [])⟩)]]⟩,[(.ret,⟨[(4,aI)],[],[[(0,⟨0,4,175,(.box [qS,qI,qB,(.own 0 1 1 0)])⟩),(1,⟨1,14,162,(.row [])⟩)]]⟩),(.exit 0,⟨[],[],[[(0,⟨0,4,175,(.box [qS,qI,qB,(.own 0 1 1 0)])⟩),(1,⟨1,14,162,(.row [])⟩)]]⟩)]⟩ (qFa n) (qKy n) [] fun _=>(by kernel_rfl)
theorem qPi:∀n,Ok (Rn n) qQt (qFb n)
 |0=>ok0 fun _=>rfl
 |n+1=>stO (T:=qKx n) (by kernel_rfl) (qKy n) [qNW n] (fun _=>(by kernel_rfl)) fun _=>(by kernel_rfl)
def qKF:Sg:=⟨134,[(.c (.ptr 0 0 0 0 0)),aI],[[(0,⟨0,4,175,(.box [qS,qI,qB,(.own 0 1 1 0)])⟩),(1,⟨1,14,162,(.row [])⟩)]],⟨aI,[[(0,⟨0,4,175,(.box [qS,qI,qB,(.own 0 1 1 0)])⟩),(1,⟨1,14,162,(.row [])⟩)]],[]⟩⟩
def qPj:Sg:=⟨173,[(.c (.ptr 0 0 0 0 0))],[[(0,⟨0,4,175,(.box [qS,qI,qB,(.own 0 1 1 0)])⟩),(1,⟨1,14,162,(.row [])⟩)]],⟨aI,[[(0,⟨0,4,175,(.box [qS,qI,qB,(.own 0 1 1 0)])⟩),(1,⟨1,14,162,(.row [])⟩)]],[]⟩⟩
def qOR:Sg:=⟨212,[(.c (.ptr 0 0 0 0 0)),aI],[[(0,⟨0,4,175,(.box [qS,qI,qB,(.own 0 1 1 0)])⟩),(1,⟨1,14,162,(.row [])⟩)]],⟨aI,[[(0,⟨0,4,175,(.box [qS,qI,qB,(.own 0 1 1 0)])⟩),(1,⟨1,14,162,(.row [])⟩)]],[]⟩⟩
def qPk:Sg:=⟨232,[(.c (.ptr 0 0 0 0 0))],[[(0,⟨0,4,175,(.box [qS,qI,qB,(.own 0 1 1 0)])⟩),(1,⟨1,14,162,(.row [])⟩)]],⟨aI,[[(0,⟨0,4,175,(.box [qS,qI,qB,(.own 0 1 1 0)])⟩),(1,⟨1,14,162,(.row [])⟩)]],[]⟩⟩
structure G_spec_l3Rd_row where
 spec_l3Rd_row:Int→BA→Int→Bool→Nat→RW→Option (Int×BA×Int×Bool×Nat×RW)
 spec_l3Rd_one:BA→Int→Bool→Nat→RW→Option (Int×BA×Int×Bool×Nat×RW)
 spec_l3Rd_call:Int→BA→Int→Bool→Nat→RW→Option (Int×BA×Int×Bool×Nat×RW)
 spec_l3Rd_arg:BA→Int→Bool→Nat→RW→Option (Int×BA×Int×Bool×Nat×RW)
def qFF (rec:G_spec_l3Rd_row) (n:Nat) (v:Int×Int×BA×Int×Bool×Nat×RW):Tr ((Int×Int×BA×Int×Bool×Nat×RW)⊕((Int×BA×Int×Bool×Nat×RW)⊕(Int×BA×Int×Bool×Nat×RW))):=(.ask ((!v.2.2.2.2.1)) (.opt (qFb n v.1 v.2.2.1 v.2.2.2.1 v.2.2.2.2.1 v.2.2.2.2.2.1 v.2.2.2.2.2.2) fun r122=>(.ask ((r122.1==(0:Int))) (.done (.inr (.inl ((v.2.1,r122.2.1,r122.2.2.1,r122.2.2.2.1,r122.2.2.2.2.1,r122.2.2.2.2.2))))) (.opt (rec.spec_l3Rd_row (IntKind.i64.wrap (v.1+(1:Int))) r122.2.1 r122.2.2.1 r122.2.2.2.1 r122.2.2.2.2.1 r122.2.2.2.2.2) fun r123=>(.ask (decide (2=([[(.i .i64 v.2.1)],[(.i .i64 r123.1)]]:RW).length)) (.opt (qv n (5:Int) r122.1 (0:Int) (0:Int) (⟨#[]⟩:BA) (0:Int) (0:Int) false false (0:Int) (0:Int) false false ([[(.i .i64 v.2.1)],[(.i .i64 r123.1)]]:RW) r123.2.1 r123.2.2.1 r123.2.2.2.1 r123.2.2.2.2.1 r123.2.2.2.2.2) fun r124=>(.done (.inl (v.1,r124.1,r124.2.1,r124.2.2.1,r124.2.2.2.1,r124.2.2.2.2.1,r124.2.2.2.2.2)))) .fail)))) (.done (.inr (.inr ((v.2.1,v.2.2.1,v.2.2.2.1,v.2.2.2.2.1,v.2.2.2.2.2.1,v.2.2.2.2.2.2))))))
def qKG (rec:G_spec_l3Rd_row) (n:Nat) (x0:Int) (x1:BA) (x2:Int) (x3:Bool) (x4:Nat) (x5:RW):Tr (Int×BA×Int×Bool×Nat×RW):=(.ask (x3) (.done ((0:Int),x1,x2,x3,x4,x5)) (.ask ((x0==(5:Int))) (.opt (rec.spec_l3Rd_one x1 x2 x3 x4 x5) fun r120=>(.done (r120.1,r120.2.1,r120.2.2.1,r120.2.2.2.1,r120.2.2.2.2.1,r120.2.2.2.2.2))) (.opt (rec.spec_l3Rd_row (IntKind.i64.wrap (x0+(1:Int))) x1 x2 x3 x4 x5) fun r121=>(.opt (zC (qFF rec n) n (x0,r121.1,r121.2.1,r121.2.2.1,r121.2.2.2.1,r121.2.2.2.2.1,r121.2.2.2.2.2)) fun r125=>(.alt r125 (fun r126=>(.done (r126.1,r126.2.1,r126.2.2.1,r126.2.2.2.1,r126.2.2.2.2.1,r126.2.2.2.2.2))) (fun r127=>(.done (r127.1,r127.2.1,r127.2.2.1,r127.2.2.2.1,r127.2.2.2.2.1,r127.2.2.2.2.2))))))))
def qDG (n:Nat) (v:Int×BA×Int×Bool×Nat×RW):Tr ((Int×BA×Int×Bool×Nat×RW)⊕((Int×BA×Int×Bool×Nat×RW)⊕(BA×Int×Bool×Nat×RW))):=(.ask ((decide (v.1≤(5:Int)))) (.opt (qBm n v.1) fun r69=>(.ask (decide (0≤(1:Int)∧(1:Int)≤(r69.size:Int)∧(r69.size:Int)≤r69.size)) (.ask ((decide ((IntKind.i64.wrap (v.2.2.1+((r69.extract ((1:Int)).toNat ((r69.size:Int)).toNat).size:Int)))≤(v.2.1.size:Int)))) (.ask (decide (0≤v.2.2.1∧v.2.2.1≤(IntKind.i64.wrap (v.2.2.1+((r69.extract ((1:Int)).toNat ((r69.size:Int)).toNat).size:Int)))∧(IntKind.i64.wrap (v.2.2.1+((r69.extract ((1:Int)).toNat ((r69.size:Int)).toNat).size:Int)))≤v.2.1.size)) (.ask (((v.2.1.extract (v.2.2.1).toNat ((IntKind.i64.wrap (v.2.2.1+((r69.extract ((1:Int)).toNat ((r69.size:Int)).toNat).size:Int)))).toNat).toList==(r69.extract ((1:Int)).toNat ((r69.size:Int)).toNat).toList)) (.opt (qDj n v.1) fun r70=>(.opt (qv n (1:Int) (0:Int) r70.1 r70.2.1 r70.2.2 (0:Int) (0:Int) false false (0:Int) (0:Int) false false ([]:RW) v.2.1 (IntKind.i64.wrap (v.2.2.1+((r69.extract ((1:Int)).toNat ((r69.size:Int)).toNat).size:Int))) v.2.2.2.1 v.2.2.2.2.1 v.2.2.2.2.2) fun r71=>(.done (.inr (.inl ((r71.1,r71.2.1,r71.2.2.1,r71.2.2.2.1,r71.2.2.2.2.1,r71.2.2.2.2.2))))))) (.done (.inl ((IntKind.i64.wrap (v.1+(1:Int))),v.2.1,v.2.2.1,v.2.2.2.1,v.2.2.2.2.1,v.2.2.2.2.2)))) .fail) (.done (.inl ((IntKind.i64.wrap (v.1+(1:Int))),v.2.1,v.2.2.1,v.2.2.2.1,v.2.2.2.2.1,v.2.2.2.2.2)))) .fail)) (.done (.inr (.inr ((v.2.1,v.2.2.1,v.2.2.2.1,v.2.2.2.2.1,v.2.2.2.2.2))))))
def qDx (rec:G_spec_l3Rd_row) (n:Nat) (v:BA×Int×BA×Int×Bool×Nat×RW):Tr ((BA×Int×BA×Int×Bool×Nat×RW)⊕((Int×BA×Int×Bool×Nat×RW)⊕(BA×BA×Int×Bool×Nat×RW))):=(.ask ((decide (v.2.1≤(10:Int)))) (.opt (qDE n v.2.1) fun r87=>(.ask ((r87.toList==v.1.toList)) (.opt (qAJ n (⟨#[40]⟩:BA) v.2.2.1 v.2.2.2.1 v.2.2.2.2.1 v.2.2.2.2.2.1 v.2.2.2.2.2.2) fun r88=>(.ask (r88.1) (.opt (rec.spec_l3Rd_call v.2.1 r88.2.1 r88.2.2.1 r88.2.2.2.1 r88.2.2.2.2.1 r88.2.2.2.2.2) fun r89=>(.done (.inr (.inl ((r89.1,r89.2.1,r89.2.2.1,r89.2.2.2.1,r89.2.2.2.2.1,r89.2.2.2.2.2)))))) (.done (.inl (v.1,(IntKind.i64.wrap (v.2.1+(1:Int))),r88.2.1,r88.2.2.1,r88.2.2.2.1,r88.2.2.2.2.1,r88.2.2.2.2.2))))) (.done (.inl (v.1,(IntKind.i64.wrap (v.2.1+(1:Int))),v.2.2.1,v.2.2.2.1,v.2.2.2.2.1,v.2.2.2.2.2.1,v.2.2.2.2.2.2))))) (.done (.inr (.inr ((v.1,v.2.2.1,v.2.2.2.1,v.2.2.2.2.1,v.2.2.2.2.2.1,v.2.2.2.2.2.2))))))
def qKH (rec:G_spec_l3Rd_row) (n:Nat) (x0:BA) (x1:Int) (x2:Bool) (x3:Nat) (x4:RW):Tr (Int×BA×Int×Bool×Nat×RW):=(.opt (qAJ n (⟨#[45]⟩:BA) x0 x1 x2 x3 x4) fun r39=>(.ask (r39.1) (.opt (rec.spec_l3Rd_row (5:Int) r39.2.1 r39.2.2.1 r39.2.2.2.1 r39.2.2.2.2.1 r39.2.2.2.2.2) fun r40=>(.ask (decide (1=([[(.i .i64 r40.1)]]:RW).length)) (.opt (qv n (4:Int) (0:Int) (0:Int) (0:Int) (⟨#[]⟩:BA) (0:Int) (0:Int) false false (0:Int) (0:Int) false false ([[(.i .i64 r40.1)]]:RW) r40.2.1 r40.2.2.1 r40.2.2.2.1 r40.2.2.2.2.1 r40.2.2.2.2.2) fun r55=>(.done (r55.1,r55.2.1,r55.2.2.1,r55.2.2.2.1,r55.2.2.2.2.1,r55.2.2.2.2.2))) .fail)) (.opt (qAJ n (⟨#[40]⟩:BA) r39.2.1 r39.2.2.1 r39.2.2.2.1 r39.2.2.2.2.1 r39.2.2.2.2.2) fun r56=>(.ask (r56.1) (.opt (rec.spec_l3Rd_row (1:Int) r56.2.1 r56.2.2.1 r56.2.2.2.1 r56.2.2.2.2.1 r56.2.2.2.2.2) fun r57=>(.opt (qAJ n (⟨#[41]⟩:BA) r57.2.1 r57.2.2.1 r57.2.2.2.1 r57.2.2.2.2.1 r57.2.2.2.2.2) fun r58=>(.ask ((!r58.1)) (.done (r57.1,r58.2.1,r58.2.2.1,true,r58.2.2.2.2.1,r58.2.2.2.2.2)) (.done (r57.1,r58.2.1,r58.2.2.1,r58.2.2.2.1,r58.2.2.2.2.1,r58.2.2.2.2.2))))) (.opt (qAJ n (⟨#[34]⟩:BA) r56.2.1 r56.2.2.1 r56.2.2.2.1 r56.2.2.2.2.1 r56.2.2.2.2.2) fun r59=>(.ask (r59.1) (.opt (qF7 n r59.2.1 r59.2.2.1 r59.2.2.2.1 r59.2.2.2.2.1 r59.2.2.2.2.2) fun r67=>(.done (r67.1,r67.2.1,r67.2.2.1,r67.2.2.2.1,r67.2.2.2.2.1,r67.2.2.2.2.2))) (.opt (qAJ n (⟨#[35]⟩:BA) r59.2.1 r59.2.2.1 r59.2.2.2.1 r59.2.2.2.2.1 r59.2.2.2.2.2) fun r68=>(.ask (r68.1) (.opt (zC (qDG n) n ((1:Int),r68.2.1,r68.2.2.1,r68.2.2.2.1,r68.2.2.2.2.1,r68.2.2.2.2.2)) fun r72=>(.alt r72 (fun r73=>(.done (r73.1,r73.2.1,r73.2.2.1,r73.2.2.2.1,r73.2.2.2.2.1,r73.2.2.2.2.2))) (fun r74=>(.done ((0:Int),r74.1,r74.2.1,true,r74.2.2.2.1,r74.2.2.2.2))))) (.opt (qDk n r68.2.1 r68.2.2.1 r68.2.2.2.1 r68.2.2.2.2.1 r68.2.2.2.2.2) fun r86=>(.opt (zC (qDx rec n) n (r86.1,(1:Int),r86.2.1,r86.2.2.1,r86.2.2.2.1,r86.2.2.2.2.1,r86.2.2.2.2.2)) fun r90=>(.alt r90 (fun r91=>(.done (r91.1,r91.2.1,r91.2.2.1,r91.2.2.2.1,r91.2.2.2.2.1,r91.2.2.2.2.2))) (fun r92=>(.opt (qAR n r92.1) fun r114=>(.ask (r114.2.2.2) (.ask ((!(r92.1.toList==(⟨#[]⟩:BA).toList))) (.opt (qv n (1:Int) (0:Int) r114.1 r114.2.1 r114.2.2.1 (0:Int) (0:Int) false false (0:Int) (0:Int) false false ([]:RW) r92.2.1 r92.2.2.1 r92.2.2.2.1 r92.2.2.2.2.1 r92.2.2.2.2.2) fun r115=>(.done (r115.1,r115.2.1,r115.2.2.1,r115.2.2.2.1,r115.2.2.2.2.1,r115.2.2.2.2.2))) (.opt (qAy n r92.1) fun r116=>(.ask ((!r116.2.2.2.2)) (.done ((0:Int),r92.2.1,r92.2.2.1,true,r92.2.2.2.2.1,r92.2.2.2.2.2)) (.opt (qv n (2:Int) (0:Int) (0:Int) (0:Int) (⟨#[]⟩:BA) r116.1 r116.2.1 r116.2.2.1 r116.2.2.2.1 (0:Int) (0:Int) false false ([]:RW) r92.2.1 r92.2.2.1 r92.2.2.2.1 r92.2.2.2.2.1 r92.2.2.2.2.2) fun r117=>(.done (r117.1,r117.2.1,r117.2.2.1,r117.2.2.2.1,r117.2.2.2.2.1,r117.2.2.2.2.2)))))) (.opt (qAy n r92.1) fun r118=>(.ask ((!r118.2.2.2.2)) (.done ((0:Int),r92.2.1,r92.2.2.1,true,r92.2.2.2.2.1,r92.2.2.2.2.2)) (.opt (qv n (2:Int) (0:Int) (0:Int) (0:Int) (⟨#[]⟩:BA) r118.1 r118.2.1 r118.2.2.1 r118.2.2.2.1 (0:Int) (0:Int) false false ([]:RW) r92.2.1 r92.2.2.1 r92.2.2.2.1 r92.2.2.2.2.1 r92.2.2.2.2.2) fun r119=>(.done (r119.1,r119.2.1,r119.2.2.1,r119.2.2.2.1,r119.2.2.2.2.1,r119.2.2.2.2.2)))))))))))))))))))
def qEt (rec:G_spec_l3Rd_row) (n:Nat) (v:Int×Nat×RW×BA×Int×Bool×Nat×RW):Tr ((Int×Nat×RW×BA×Int×Bool×Nat×RW)⊕((Int×BA×Int×Bool×Nat×RW)⊕(BA×Int×Bool×Nat×RW))):=(.ask ((!v.2.2.2.2.2.1)) (.opt (rec.spec_l3Rd_arg v.2.2.2.1 v.2.2.2.2.1 v.2.2.2.2.2.1 v.2.2.2.2.2.2.1 v.2.2.2.2.2.2.2) fun r91=>(.ask (decide (1=([[(.i .i64 r91.1)]]:RW).length)) (.ask (decide (v.2.1=v.2.2.1.length∧0<1∧0<8∧(v.2.1+([[(.i .i64 r91.1)]]:RW).length)*8≤140737488355328∧([[(.i .i64 r91.1)]]:RW).all (fun e=>e.length==1)=true)) (.opt (qAJ n (⟨#[41]⟩:BA) r91.2.1 r91.2.2.1 r91.2.2.2.1 r91.2.2.2.2.1 r91.2.2.2.2.2) fun r92=>(.ask (r92.1) (.ask (decide ((v.2.1+1)=(v.2.2.1++([[(.i .i64 r91.1)]]:RW)).length)) (.opt (qv n (6:Int) v.1 (0:Int) (0:Int) (⟨#[]⟩:BA) (0:Int) (0:Int) false false (0:Int) (0:Int) false false (v.2.2.1++([[(.i .i64 r91.1)]]:RW)) r92.2.1 r92.2.2.1 r92.2.2.2.1 r92.2.2.2.2.1 r92.2.2.2.2.2) fun r93=>(.done (.inr (.inl ((r93.1,r93.2.1,r93.2.2.1,r93.2.2.2.1,r93.2.2.2.2.1,r93.2.2.2.2.2)))))) .fail) (.opt (qAJ n (⟨#[44]⟩:BA) r92.2.1 r92.2.2.1 r92.2.2.2.1 r92.2.2.2.2.1 r92.2.2.2.2.2) fun r94=>(.ask ((!r94.1)) (.done (.inl (v.1,(v.2.1+1),(v.2.2.1++([[(.i .i64 r91.1)]]:RW)),r94.2.1,r94.2.2.1,true,r94.2.2.2.2.1,r94.2.2.2.2.2))) (.done (.inl (v.1,(v.2.1+1),(v.2.2.1++([[(.i .i64 r91.1)]]:RW)),r94.2.1,r94.2.2.1,r94.2.2.2.1,r94.2.2.2.2.1,r94.2.2.2.2.2))))))) .fail) .fail)) (.done (.inr (.inr ((v.2.2.2.1,v.2.2.2.2.1,v.2.2.2.2.2.1,v.2.2.2.2.2.2.1,v.2.2.2.2.2.2.2))))))
def qJJ (rec:G_spec_l3Rd_row) (n:Nat) (x0:Int) (x1:BA) (x2:Int) (x3:Bool) (x4:Nat) (x5:RW):Tr (Int×BA×Int×Bool×Nat×RW):=(.opt (zC (qEt rec n) n (x0,(0:Nat),([]:RW),x1,x2,x3,x4,x5)) fun r95=>(.alt r95 (fun r96=>(.done (r96.1,r96.2.1,r96.2.2.1,r96.2.2.2.1,r96.2.2.2.2.1,r96.2.2.2.2.2))) (fun r97=>(.done ((0:Int),r97.1,r97.2.1,r97.2.2.1,r97.2.2.2.1,r97.2.2.2.2)))))
def qKI (rec:G_spec_l3Rd_row) (n:Nat) (x0:BA) (x1:Int) (x2:Bool) (x3:Nat) (x4:RW):Tr (Int×BA×Int×Bool×Nat×RW):=(.opt (qB3 n x0 x1 x2 x3 x4) fun r91=>(.opt (qDk n r91.1 r91.2.1 r91.2.2.1 r91.2.2.2.1 r91.2.2.2.2) fun r92=>(.opt (qAy n r92.1) fun r137=>(.ask (r137.2.2.2.2) (.opt (qAJ n (⟨#[58]⟩:BA) r92.2.1 r92.2.2.1 r92.2.2.2.1 r92.2.2.2.2.1 r92.2.2.2.2.2) fun r138=>(.ask (r138.1) (.opt (qB3 n r138.2.1 r138.2.2.1 r138.2.2.2.1 r138.2.2.2.2.1 r138.2.2.2.2.2) fun r139=>(.opt (qDk n r139.1 r139.2.1 r139.2.2.1 r139.2.2.2.1 r139.2.2.2.2) fun r140=>(.opt (qAy n r140.1) fun r141=>(.ask ((!r141.2.2.2.2)) (.done ((0:Int),r140.2.1,r140.2.2.1,true,r140.2.2.2.2.1,r140.2.2.2.2.2)) (.opt (qv n (3:Int) (0:Int) (0:Int) (0:Int) (⟨#[]⟩:BA) r137.1 r137.2.1 r137.2.2.1 r137.2.2.2.1 r141.1 r141.2.1 r141.2.2.1 r141.2.2.2.1 ([]:RW) r140.2.1 r140.2.2.1 r140.2.2.2.1 r140.2.2.2.2.1 r140.2.2.2.2.2) fun r142=>(.done (r142.1,r142.2.1,r142.2.2.1,r142.2.2.2.1,r142.2.2.2.2.1,r142.2.2.2.2.2))))))) (.opt (rec.spec_l3Rd_row (1:Int) r138.2.1 r91.2.1 r138.2.2.2.1 r138.2.2.2.2.1 r138.2.2.2.2.2) fun r143=>(.done (r143.1,r143.2.1,r143.2.2.1,r143.2.2.2.1,r143.2.2.2.2.1,r143.2.2.2.2.2))))) (.opt (rec.spec_l3Rd_row (1:Int) r92.2.1 r91.2.1 r92.2.2.2.1 r92.2.2.2.2.1 r92.2.2.2.2.2) fun r144=>(.done (r144.1,r144.2.1,r144.2.2.1,r144.2.2.2.1,r144.2.2.2.2.1,r144.2.2.2.2.2)))))))
def qe:Nat→G_spec_l3Rd_row
 |0=>⟨fun _ _ _ _ _ _=>none,fun _ _ _ _ _=>none,fun _ _ _ _ _ _=>none,fun _ _ _ _ _=>none⟩
 |n+1=>⟨fun x0 x1 x2 x3 x4 x5=>(qKG (qe n) n x0 x1 x2 x3 x4 x5).run,fun x0 x1 x2 x3 x4=>(qKH (qe n) n x0 x1 x2 x3 x4).run,fun x0 x1 x2 x3 x4 x5=>(qJJ (qe n) n x0 x1 x2 x3 x4 x5).run,fun x0 x1 x2 x3 x4=>(qKI (qe n) n x0 x1 x2 x3 x4).run⟩
def qFD (n:Nat) (x0:Int) (x1:BA) (x2:Int) (x3:Bool) (x4:Nat) (x5:RW):Option (Int×BA×Int×Bool×Nat×RW):=(qe n).spec_l3Rd_row x0 x1 x2 x3 x4 x5
def qKJ (n:Nat) (x0:BA) (x1:Int) (x2:Bool) (x3:Nat) (x4:RW):Option (Int×BA×Int×Bool×Nat×RW):=(qe n).spec_l3Rd_one x0 x1 x2 x3 x4
def qJK (n:Nat) (x0:Int) (x1:BA) (x2:Int) (x3:Bool) (x4:Nat) (x5:RW):Option (Int×BA×Int×Bool×Nat×RW):=(qe n).spec_l3Rd_call x0 x1 x2 x3 x4 x5
def qKK (n:Nat) (x0:BA) (x1:Int) (x2:Bool) (x3:Nat) (x4:RW):Option (Int×BA×Int×Bool×Nat×RW):=(qe n).spec_l3Rd_arg x0 x1 x2 x3 x4
def qBJ (n:Nat):Prop:=
 Ok (Rn n) qKF (qFD n)∧
 Ok (Rn n) qPj (qKJ n)∧
 Ok (Rn n) qOR (qJK n)∧
 Ok (Rn n) qPk (qKK n)
abbrev qKL (n:Nat) (ih:qBJ n):List (Ent (Rn n)):= [en ih.2.1,en ih.1,en (qPi n),en (qDi n)]
def qMl (n:Nat) (ih:qBJ n):LEnt (KB 134) (Rn n) n:=lok (zK 134) 62 ⟨⟨[(0,(.c (.ptr 0 0 0 0 0))),(1,aI),(5,aI)],[],[[(0,⟨0,4,175,(.box [qS,qI,qB,(.own 0 1 1 0)])⟩),(1,⟨1,14,162,(.row [])⟩)]]⟩,[(.ret,⟨[(4,aI)],[],[[(0,⟨0,4,175,(.box [qS,qI,qB,(.own 0 1 1 0)])⟩),(1,⟨1,14,162,(.row [])⟩)]]⟩),(.exit 0,⟨[(5,aI)],[],[[(0,⟨0,4,175,(.box [qS,qI,qB,(.own 0 1 1 0)])⟩),(1,⟨1,14,162,(.row [])⟩)]]⟩)]⟩ (qFF (qe n) n) (qKL n ih) [] fun _=>(by kernel_rfl)
abbrev qGm (n:Nat) (ih:qBJ n):List (Ent (Rn n)):= [en (qFB n),en ih.1,en (qDi n),en (qNS n),en (qHW n),en (qPf n),en (qIL n),en (qNT n),en ih.2.2.1,en (qIN n),en (qIM n)]
def qKz (n:Nat) (ih:qBJ n):LEnt (KB 173) (Rn n) n:=lok (zK 173) 7161 ⟨⟨[(0,(.c (.ptr 0 0 0 0 0))),(5,aI)],[],[[(0,⟨0,4,175,(.box [qS,qI,qB,(.own 0 1 1 0)])⟩),(1,⟨1,14,162,(.row [])⟩)]]⟩,[(.ret,⟨[(2,aI)],[],[[(0,⟨0,4,175,(.box [qS,qI,qB,(.own 0 1 1 0)])⟩),(1,⟨1,14,162,(.row [])⟩)]]⟩),(.exit 1,⟨[(0,(.c (.ptr 0 0 0 0 0)))],[],[[(0,⟨0,4,175,(.box [qS,qI,qB,(.own 0 1 1 0)])⟩),(1,⟨1,14,162,(.row [])⟩)]]⟩)]⟩ (qDG n) (qGm n ih) [] fun _=>(by kernel_rfl)
def qMm (n:Nat) (ih:qBJ n):LEnt (KB 173) (Rn n) n:=lok (zK 173) 61 ⟨⟨[(0,(.c (.ptr 0 0 0 0 0))),(7,aS),(8,aI)],[],[[(0,⟨0,4,175,(.box [qS,qI,qB,(.own 0 1 1 0)])⟩),(1,⟨1,14,162,(.row [])⟩)]]⟩,[(.ret,⟨[(2,aI)],[],[[(0,⟨0,4,175,(.box [qS,qI,qB,(.own 0 1 1 0)])⟩),(1,⟨1,14,162,(.row [])⟩)]]⟩),(.exit 3,⟨[(0,(.c (.ptr 0 0 0 0 0))),(7,aS)],[],[[(0,⟨0,4,175,(.box [qS,qI,qB,(.own 0 1 1 0)])⟩),(1,⟨1,14,162,(.row [])⟩)]]⟩)]⟩ (qDx (qe n) n) (qGm n ih) [] fun _=>(by kernel_rfl)
abbrev qJL (n:Nat) (ih:qBJ n):List (Ent (Rn n)):= [en ih.2.2.2,en (qFB n),en (qDi n)]
def qL4 (n:Nat) (ih:qBJ n):LEnt (KB 212) (Rn n) n:=lok (zK 212) 14 ⟨⟨[(0,(.c (.ptr 0 0 0 0 0))),(1,aI),(5,(.c (.own 1 384 0 0)))],[(384,⟨0,1,2,(.row [])⟩)],[[(0,⟨0,4,175,(.box [qS,qI,qB,(.own 0 1 1 0)])⟩),(1,⟨1,14,162,(.row [])⟩)]]⟩,[(.ret,⟨[(4,aI)],[],[[(0,⟨0,4,175,(.box [qS,qI,qB,(.own 0 1 1 0)])⟩),(1,⟨1,14,162,(.row [])⟩)]]⟩),(.exit 0,⟨[],[],[[(0,⟨0,4,175,(.box [qS,qI,qB,(.own 0 1 1 0)])⟩),(1,⟨1,14,162,(.row [])⟩)]]⟩)]⟩ (qEt (qe n) n) (qJL n ih) [] fun _=>(by kernel_rfl)
abbrev qPl (n:Nat) (ih:qBJ n):List (Ent (Rn n)):= [en (qEr n),en (qIL n),en (qIM n),en (qFB n),en (qDi n),en ih.1]
theorem qBK:∀n,qBJ n
 |0=>⟨ok0 fun _=>rfl,ok0 fun _=>rfl,ok0 fun _=>rfl,ok0 fun _=>rfl⟩
 |n+1=>⟨stO (T:=qKG (qe n) n) (by kernel_rfl) (qKL n (qBK n)) [qMl n (qBK n)] (fun _=>(by kernel_rfl)) fun _=>(by kernel_rfl),stO (T:=qKH (qe n) n) (by kernel_rfl) (qGm n (qBK n)) [qKz n (qBK n),qMm n (qBK n)] (fun _=>(by kernel_rfl)) fun _=>(by kernel_rfl),stO (T:=qJJ (qe n) n) (by kernel_rfl) (qJL n (qBK n)) [qL4 n (qBK n)] (fun _=>(by kernel_rfl)) fun _=>(by kernel_rfl),stO (T:=qKI (qe n) n) (by kernel_rfl) (qPl n (qBK n)) [] (fun _=>(by kernel_rfl)) fun _=>(by kernel_rfl)⟩
theorem qOS (n:Nat):Ok (Rn n) qKF (qFD n):=(qBK n).1
def qIn:Sg:=⟨177,[aL,aI],[],⟨aI,[],[]⟩⟩
def qBL (rec:RW→Int→Option (Int)) (n:Nat) (v:RW×Int×Int×Int):Tr ((RW×Int×Int×Int)⊕((Int)⊕(Int))):=(.ask ((decide (v.2.2.2≥(0:Int)))) (.ask ((decide (v.2.2.1<(0:Int)))) (.done (.inr (.inl ((-1:Int))))) (.ask (decide (0≤v.2.1∧v.2.1<v.1.length)) (.opt (v.1[(v.2.1).toNat]?) fun e165=>(.ask (decide (e165.length=14)) (.opt (zAb e165 13) fun y166=>(.ask (decide (0≤v.2.2.2∧v.2.2.2<y166.length)) (.opt (y166[(v.2.2.2).toNat]?) fun e167=>(.ask (decide (e167.length=1)) (.opt (zB .i64 e167 0) fun y168=>(.ask ((y168 !=v.2.2.1)) (.done (.inr (.inl ((-1:Int))))) (.opt (rec v.1 v.2.2.1) fun r169=>(.ask ((decide (r169<(0:Int)))) (.done (.inr (.inl ((-1:Int))))) (.done (.inl (v.1,v.2.1,(IntKind.i64.wrap (r169-(1:Int))),(IntKind.i64.wrap (v.2.2.2-(1:Int)))))))))) .fail)) .fail)) .fail)) .fail)) (.done (.inr (.inr (v.2.2.1)))))
def qIo (rec:RW→Int→Option (Int)) (n:Nat) (x0:RW) (x1:Int):Tr (Int):=(.ask (decide (0≤x1∧x1<x0.length)) (.opt (x0[(x1).toNat]?) fun e163=>(.ask (decide (e163.length=14)) (.opt (zAb e163 13) fun y164=>(.opt (zC (qBL rec n) n (x0,x1,(IntKind.i64.wrap (x1-(1:Int))),(IntKind.i64.wrap ((y164.length:Int)-(1:Int))))) fun r170=>(.alt r170 (fun r171=>(.done r171)) (fun r172=>(.done (IntKind.i64.wrap (r172+(1:Int)))))))) .fail)) .fail)
def qAz:Nat→RW→Int→Option (Int)
 |0,_,_=>none
 |n+1,x0,x1=>(qIo (qAz n) n x0 x1).run
abbrev qMT (n:Nat) (ih:Ok (Rn n) qIn (qAz n)):List (Ent (Rn n)):= [en ih]
def qOT (n:Nat) (ih:Ok (Rn n) qIn (qAz n)):LEnt (KB 177) (Rn n) n:=lok (zK 177) 29 ⟨⟨[(0,aL),(1,aI),(5,aI),(6,aI)],[],[]⟩,[(.ret,⟨[(4,aI)],[],[]⟩),(.exit 0,⟨[(5,aI)],[],[]⟩)]⟩ (qBL (qAz n) n) (qMT n ih) [] fun _=>(by kernel_rfl)
theorem qHa:∀n,Ok (Rn n) qIn (qAz n)
 |0=>ok0 fun _=>rfl
 |n+1=>stO (T:=qIo (qAz n) n) (by kernel_rfl) (qMT n (qHa n)) [qOT n (qHa n)] (fun _=>(by kernel_rfl)) fun _=>(by kernel_rfl)
def qIp:Sg:=⟨178,[aL,aI],[],⟨aI,[],[]⟩⟩
def qDm (rec:RW→Int→Option (Int)) (n:Nat) (v:RW×Int×Int×Int):Tr ((RW×Int×Int×Int)⊕((Int))):=(.ask (decide (0≤v.2.1∧v.2.1<v.1.length)) (.opt (v.1[(v.2.1).toNat]?) fun e176=>(.ask (decide (e176.length=14)) (.opt (zAb e176 13) fun y177=>(.ask ((decide (v.2.2.2<(y177.length:Int)))) (.ask (decide (0≤v.2.1∧v.2.1<v.1.length)) (.opt (v.1[(v.2.1).toNat]?) fun e178=>(.ask (decide (e178.length=14)) (.opt (zAb e178 13) fun y179=>(.ask (decide (0≤v.2.2.2∧v.2.2.2<y179.length)) (.opt (y179[(v.2.2.2).toNat]?) fun e180=>(.ask (decide (e180.length=1)) (.opt (zB .i64 e180 0) fun y181=>(.opt (rec v.1 y181) fun r182=>(.done (.inl (v.1,v.2.1,(if r182>v.2.2.1 then r182 else v.2.2.1),(IntKind.i64.wrap (v.2.2.2+(1:Int)))))))) .fail)) .fail)) .fail)) .fail) (.done (.inr (v.2.2.1))))) .fail)) .fail)
def qIq (rec:RW→Int→Option (Int)) (n:Nat) (x0:RW) (x1:Int):Tr (Int):=(.opt (zC (qDm rec n) n (x0,x1,(0:Int),(0:Int))) fun r183=>(.done (IntKind.i64.wrap (r183+(1:Int)))))
def qA0:Nat→RW→Int→Option (Int)
 |0,_,_=>none
 |n+1,x0,x1=>(qIq (qA0 n) n x0 x1).run
abbrev qMU (n:Nat) (ih:Ok (Rn n) qIp (qA0 n)):List (Ent (Rn n)):= [en ih]
def qOU (n:Nat) (ih:Ok (Rn n) qIp (qA0 n)):LEnt (KB 178) (Rn n) n:=lok (zK 178) 29 ⟨⟨[(0,aL),(1,aI),(5,aI),(6,aI)],[],[]⟩,[(.exit 0,⟨[(5,aI)],[],[]⟩)]⟩ (qDm (qA0 n) n) (qMU n ih) [] fun _=>(by kernel_rfl)
theorem qHb:∀n,Ok (Rn n) qIp (qA0 n)
 |0=>ok0 fun _=>rfl
 |n+1=>stO (T:=qIq (qA0 n) n) (by kernel_rfl) (qMU n (qHb n)) [qOU n (qHb n)] (fun _=>(by kernel_rfl)) fun _=>(by kernel_rfl)
def qOV:Sg:=⟨136,[aL],[],⟨aB,[],[]⟩⟩
def qAt (n:Nat) (v:RW×Int×Int):Tr ((RW×Int×Int)⊕((Bool)⊕(RW×Int))):=(.ask (decide (0≤v.2.1∧v.2.1<v.1.length)) (.opt (v.1[(v.2.1).toNat]?) fun e146=>(.ask (decide (e146.length=14)) (.opt (zAb e146 13) fun y147=>(.ask ((decide (v.2.2<(y147.length:Int)))) (.ask (decide (0≤v.2.1∧v.2.1<v.1.length)) (.opt (v.1[(v.2.1).toNat]?) fun e148=>(.ask (decide (e148.length=14)) (.opt (zAb e148 13) fun y149=>(.ask (decide (0≤v.2.2∧v.2.2<y149.length)) (.opt (y149[(v.2.2).toNat]?) fun e150=>(.ask (decide (e150.length=1)) (.opt (zB .i64 e150 0) fun y151=>(.opt (qA1 n y151 (0:Int) (IntKind.i64.wrap (v.2.1-(1:Int)))) fun r152=>(.ask ((!r152)) (.done (.inr (.inl (false)))) (.ask (decide (0≤y151∧y151<v.1.length)) (.opt (v.1[(y151).toNat]?) fun e153=>(.ask (decide (e153.length=14)) (.opt (zB .i64 e153 0) fun y154=>(.ask ((y154==(3:Int))) (.ask (decide (0≤v.2.1∧v.2.1<v.1.length)) (.opt (v.1[(v.2.1).toNat]?) fun e155=>(.ask (decide (e155.length=14)) (.opt (zB .i64 e155 0) fun y156=>(.ask ((y156 !=(6:Int))) (.done (.inr (.inl (false)))) (.done (.inl (v.1,v.2.1,(IntKind.i64.wrap (v.2.2+(1:Int)))))))) .fail)) .fail) (.done (.inl (v.1,v.2.1,(IntKind.i64.wrap (v.2.2+(1:Int)))))))) .fail)) .fail)))) .fail)) .fail)) .fail)) .fail) (.done (.inr (.inr ((v.1,v.2.1))))))) .fail)) .fail)
def qBP (n:Nat) (v:RW×Int):Tr ((RW×Int)⊕((Bool)⊕(RW))):=(.ask ((decide (v.2<(v.1.length:Int)))) (.ask (decide (0≤v.2∧v.2<v.1.length)) (.opt (v.1[(v.2).toNat]?) fun e130=>(.ask (decide (e130.length=14)) (.opt (zB .i64 e130 0) fun y131=>(.opt (zB .i64 e130 1) fun y132=>(.opt (zB .i64 e130 2) fun y133=>(.opt (zB .i64 e130 3) fun y134=>(.opt (zY e130 4) fun y135=>(.opt (zB .i64 e130 5) fun y136=>(.opt (zB .i64 e130 6) fun y137=>(.opt (zo e130 7) fun y138=>(.opt (zo e130 8) fun y139=>(.opt (zB .i64 e130 9) fun y140=>(.opt (zB .i64 e130 10) fun y141=>(.opt (zo e130 11) fun y142=>(.opt (zo e130 12) fun y143=>(.opt (zAb e130 13) fun y144=>(.opt (qCV n y131 y132 y133 y134 y135 y136 y137 y138 y139 y140 y141 y142 y143 y144) fun r145=>(.ask ((!r145)) (.done (.inr (.inl (false)))) (.opt (zC (qAt n) n (v.1,v.2,(0:Int))) fun r157=>(.alt r157 (fun r158=>(.done (.inr (.inl (r158))))) (fun r159=>(.done (.inl (r159.1,(IntKind.i64.wrap (r159.2+(1:Int))))))))))))))))))))))))) .fail)) .fail) (.done (.inr (.inr (v.1)))))
def qDn (n:Nat) (x0:RW):Tr (Bool):=(.ask ((decide ((x0.length:Int)<(1:Int)))) (.done false) (.ask ((decide ((x0.length:Int)>(60:Int)))) (.done false) (.opt (zC (qBP n) n (x0,(0:Int))) fun r160=>(.alt r160 (fun r161=>(.done r161)) (fun r162=>(.opt (qAz n r162 (IntKind.i64.wrap ((r162.length:Int)-(1:Int)))) fun r173=>(.ask ((r173==(0:Int))) (.ask (decide (0≤(IntKind.i64.wrap ((r162.length:Int)-(1:Int)))∧(IntKind.i64.wrap ((r162.length:Int)-(1:Int)))<r162.length)) (.opt (r162[((IntKind.i64.wrap ((r162.length:Int)-(1:Int)))).toNat]?) fun e174=>(.ask (decide (e174.length=14)) (.opt (zB .i64 e174 0) fun y175=>(.ask ((y175 !=(3:Int))) (.opt (qA0 n r162 (IntKind.i64.wrap ((r162.length:Int)-(1:Int)))) fun r184=>(.done (decide (r184≤(12:Int))))) (.done false))) .fail)) .fail) (.done false))))))))
def qBd:Nat→RW→Option (Bool)
 |0,_=>none
 |n+1,x0=>(qDn n x0).run
abbrev qF8 (n:Nat):List (Ent (Rn n)):= [en (qJD n),en (qEh n),en (qHa n),en (qHb n)]
def qK0 (n:Nat):LEnt (lb 29 (KB 136)) (Rn n) n:=lok (Uniq.pick (zK 136) 29) 475 ⟨⟨[(0,aL),(3,aI),(4,aI)],[],[]⟩,[(.ret,⟨[(2,aB)],[],[]⟩),(.exit 2,⟨[(0,aL),(3,aI)],[],[]⟩)]⟩ (qAt n) (qF8 n) [] fun _=>(by kernel_rfl)
def qL5 (n:Nat):LEnt (KB 136) (Rn n) n:=lok (zK 136) 29 ⟨⟨[(0,aL),(3,aI)],[],[]⟩,[(.ret,⟨[(2,aB)],[],[]⟩),(.exit 0,⟨[(0,aL)],[],[]⟩)]⟩ (qBP n) (qF8 n) [qK0 n] fun _=>(by kernel_rfl)
theorem qFc:∀n,Ok (Rn n) qOV (qBd n)
 |0=>ok0 fun _=>rfl
 |n+1=>stO (T:=qDn n) (by kernel_rfl) (qF8 n) [qL5 n] (fun _=>(by kernel_rfl)) fun _=>(by kernel_rfl)
def qMn:Sg:=⟨93,[aS],[],⟨(.tup [(false,[qL]),(false,[qB])]),[],[]⟩⟩
def qHc (n:Nat) (x0:BA):Tr (RW×Bool):=(.opt (qCu n x0) fun r35=>(.ask ((!r35)) (.ask (decide (0=([]:RW).length)) (.done (([]:RW),false)) .fail) (.opt (qFD n (1:Int) x0 (0:Int) false (0:Nat) ([]:RW)) fun r128=>(.opt (qB3 n r128.2.1 r128.2.2.1 r128.2.2.2.1 r128.2.2.2.2.1 r128.2.2.2.2.2) fun r129=>(.ask (r129.2.2.1) (.ask (decide (0=([]:RW).length)) (.done (([]:RW),false)) .fail) (.ask ((decide (r129.2.1<(x0.size:Int)))) (.ask (decide (0=([]:RW).length)) (.done (([]:RW),false)) .fail) (.ask (decide (r129.2.2.2.1=r129.2.2.2.2.length)) (.opt (qBd n r129.2.2.2.2) fun r185=>(.ask (zd (⟨(.c (.p (.b r185))),[],[]⟩:Res)) (.ask ((!r185)) (.ask (decide (0=([]:RW).length)) (.done (([]:RW),false)) .fail) (.ask (decide (r129.2.2.2.1=r129.2.2.2.2.length)) (.done (r129.2.2.2.2,true)) .fail)) .fail)) .fail)))))))
def qDy:Nat→BA→Option (RW×Bool)
 |0,_=>none
 |n+1,x0=>(qHc n x0).run
abbrev qMo (n:Nat):List (Ent (Rn n)):= [en (qGk n),en (qOS n),en (qEr n),en (qFc n)]
theorem qG5:∀n,Ok (Rn n) qMn (qDy n)
 |0=>ok0 fun _=>rfl
 |n+1=>stO (T:=qHc n) (by kernel_rfl) (qMo n) [] (fun _=>(by kernel_rfl)) fun _=>(by kernel_rfl)
def qQu:Sg:=⟨179,[aS],[],⟨aS,[],[]⟩⟩
def qBr (n:Nat) (v:BA×BA×Int):Tr ((BA×BA×Int)⊕((BA))):=(.ask ((decide (v.2.2<(v.1.size:Int)))) (.ask (decide (0≤v.2.2)) (.opt (v.1.toList[(v.2.2).toNat]?) fun c203=>(.ask (((c203.toNat:Int)==(34:Int))) (.ask (decide (v.2.1.size+(⟨#[34]⟩:BA).size≤9223372036854775807)) (.ask (decide (0≤v.2.2∧v.2.2≤(IntKind.i64.wrap (v.2.2+(1:Int)))∧(IntKind.i64.wrap (v.2.2+(1:Int)))≤v.1.size)) (.ask (decide ((v.2.1++(⟨#[34]⟩:BA)).size+(v.1.extract (v.2.2).toNat ((IntKind.i64.wrap (v.2.2+(1:Int)))).toNat).size≤9223372036854775807)) (.done (.inl (v.1,((v.2.1++(⟨#[34]⟩:BA))++(v.1.extract (v.2.2).toNat ((IntKind.i64.wrap (v.2.2+(1:Int)))).toNat)),(IntKind.i64.wrap (v.2.2+(1:Int)))))) .fail) .fail) .fail) (.ask (decide (0≤v.2.2∧v.2.2≤(IntKind.i64.wrap (v.2.2+(1:Int)))∧(IntKind.i64.wrap (v.2.2+(1:Int)))≤v.1.size)) (.ask (decide (v.2.1.size+(v.1.extract (v.2.2).toNat ((IntKind.i64.wrap (v.2.2+(1:Int)))).toNat).size≤9223372036854775807)) (.done (.inl (v.1,(v.2.1++(v.1.extract (v.2.2).toNat ((IntKind.i64.wrap (v.2.2+(1:Int)))).toNat)),(IntKind.i64.wrap (v.2.2+(1:Int)))))) .fail) .fail))) .fail) (.done (.inr (v.2.1))))
def qHd (n:Nat) (x0:BA):Tr (BA):=(.opt (zC (qBr n) n (x0,(⟨#[34]⟩:BA),(0:Int))) fun r204=>(.ask (decide (r204.size+(⟨#[34]⟩:BA).size≤9223372036854775807)) (.done (r204++(⟨#[34]⟩:BA))) .fail))
def qFd:Nat→BA→Option (BA)
 |0,_=>none
 |n+1,x0=>(qHd n x0).run
def qNX (n:Nat):LEnt (KB 179) (Rn n) n:=lok (zK 179) 29 ⟨⟨[(0,aS),(3,aS),(4,aI)],[],[]⟩,[(.exit 0,⟨[(3,aS)],[],[]⟩)]⟩ (qBr n) [] [] fun _=>(by kernel_rfl)
theorem qPm:∀n,Ok (Rn n) qQu (qFd n)
 |0=>ok0 fun _=>rfl
 |n+1=>stO (T:=qHd n) (by kernel_rfl) [] [qNX n] (fun _=>(by kernel_rfl)) fun _=>(by kernel_rfl)
def qJl:Sg:=⟨59,[aI],[],⟨aS,[],[]⟩⟩
def qEB (n:Nat) (v:Int×BA):Tr ((Int×BA)⊕((Int×BA))):=(.ask ((decide (v.1≥(10:Int)))) (.ask (decide (1=([[(.i .u8 (IntKind.u8.wrap (IntKind.i64.wrap ((48:Int)+(Int.tmod v.1 (10:Int))))))]]:RW).length)) (.opt (bytesOf ([[(.i .u8 (IntKind.u8.wrap (IntKind.i64.wrap ((48:Int)+(Int.tmod v.1 (10:Int))))))]]:RW)) fun l208=>(.ask (decide ((⟨l208.toArray⟩:BA).size+v.2.size≤9223372036854775807)) (.done (.inl ((IntKind.i64.wrap (Int.tdiv v.1 (10:Int))),((⟨l208.toArray⟩:BA)++v.2)))) .fail)) .fail) (.done (.inr ((v.1,v.2)))))
def qHI (rec:Int→Option (BA)) (n:Nat) (x0:Int):Tr (BA):=(.ask ((decide (x0<(0:Int)))) (.opt (rec (IntKind.i64.wrap (0-x0))) fun r207=>(.ask (decide ((⟨#[45]⟩:BA).size+r207.size≤9223372036854775807)) (.done ((⟨#[45]⟩:BA)++r207)) .fail)) (.opt (zC (qEB n) n (x0,(⟨#[]⟩:BA))) fun r209=>(.ask (decide (1=([[(.i .u8 (IntKind.u8.wrap (IntKind.i64.wrap ((48:Int)+r209.1))))]]:RW).length)) (.opt (bytesOf ([[(.i .u8 (IntKind.u8.wrap (IntKind.i64.wrap ((48:Int)+r209.1))))]]:RW)) fun l210=>(.ask (decide ((⟨l210.toArray⟩:BA).size+r209.2.size≤9223372036854775807)) (.done ((⟨l210.toArray⟩:BA)++r209.2)) .fail)) .fail)))
def qA4:Nat→Int→Option (BA)
 |0,_=>none
 |n+1,x0=>(qHI (qA4 n) n x0).run
abbrev qNY (n:Nat) (ih:Ok (Rn n) qJl (qA4 n)):List (Ent (Rn n)):= [en ih]
def qPn (n:Nat) (ih:Ok (Rn n) qJl (qA4 n)):LEnt (KB 59) (Rn n) n:=lok (zK 59) 30 ⟨⟨[(0,aI),(3,aS)],[],[]⟩,[(.exit 0,⟨[(0,aI),(3,aS)],[],[]⟩)]⟩ (qEB n) (qNY n ih) [] fun _=>(by kernel_rfl)
theorem qGQ:∀n,Ok (Rn n) qJl (qA4 n)
 |0=>ok0 fun _=>rfl
 |n+1=>stO (T:=qHI (qA4 n) n) (by kernel_rfl) (qNY n (qGQ n)) [qPn n (qGQ n)] (fun _=>(by kernel_rfl)) fun _=>(by kernel_rfl)
def qSD:Sg:=⟨140,[aI],[],⟨aS,[],[]⟩⟩
def qIr (n:Nat) (x0:Int):Tr (BA):=(.ask ((x0==(1:Int))) (.done (⟨#[84,82,85,69]⟩:BA)) (.done (⟨#[70,65,76,83,69]⟩:BA)))
def qGR:Nat→Int→Option (BA)
 |0,_=>none
 |n+1,x0=>(qIr n x0).run
theorem qQv:∀n,Ok (Rn n) qSD (qGR n)
 |0=>ok0 fun _=>rfl
 |n+1=>stO (T:=qIr n) (by kernel_rfl) [] [] (fun _=>(by kernel_rfl)) fun _=>(by kernel_rfl)
def qOW:Sg:=⟨96,[(.agg [qI,qI,qS])],[],⟨aS,[],[]⟩⟩
def qBe (n:Nat) (x0 x1:Int) (x2:BA):Tr (BA):=(.opt (qa n x0 x1 x2) fun r206=>(.ask ((!r206)) (.done (⟨#[]⟩:BA)) (.ask ((x0==(1:Int))) (.opt (qA4 n x1) fun r211=>(.done r211)) (.ask ((x0==(2:Int))) (.ask (decide ((⟨#[39]⟩:BA).size+x2.size≤9223372036854775807)) (.done ((⟨#[39]⟩:BA)++x2)) .fail) (.ask ((x0==(3:Int))) (.opt (qGR n x1) fun r212=>(.done r212)) (.ask ((x0==(4:Int))) (.opt (qBm n x1) fun r213=>(.done r213)) (.done (⟨#[]⟩:BA))))))))
def qAb:Nat→Int→Int→BA→Option (BA)
 |0,_,_,_=>none
 |n+1,x0,x1,x2=>(qBe n x0 x1 x2).run
abbrev qOX (n:Nat):List (Ent (Rn n)):= [en (qFC n),en (qGQ n),en (qQv n),en (qHW n)]
theorem qIO:∀n,Ok (Rn n) qOW (qAb n)
 |0=>ok0 fun _=>rfl
 |n+1=>stO (T:=qBe n) (by kernel_rfl) (qOX n) [] (fun _=>(by kernel_rfl)) fun _=>(by kernel_rfl)
def qOY:Sg:=⟨58,[(.agg [qI,qI,qB,qB])],[],⟨aS,[],[]⟩⟩
def qEi (n:Nat) (x0 x1:Int) (x2 x3:Bool):Tr (BA):=(.opt (qAT n x0 x1) fun r215=>(.ask ((!r215)) (.done (⟨#[]⟩:BA)) (.opt (qDl n x0) fun r216=>(.ask (x2) (.ask (decide ((⟨#[36]⟩:BA).size+r216.size≤9223372036854775807)) (.ask (x3) (.ask (decide (((⟨#[36]⟩:BA)++r216).size+(⟨#[36]⟩:BA).size≤9223372036854775807)) (.opt (qA4 n x1) fun r217=>(.ask (decide ((((⟨#[36]⟩:BA)++r216)++(⟨#[36]⟩:BA)).size+r217.size≤9223372036854775807)) (.done ((((⟨#[36]⟩:BA)++r216)++(⟨#[36]⟩:BA))++r217)) .fail)) .fail) (.opt (qA4 n x1) fun r218=>(.ask (decide (((⟨#[36]⟩:BA)++r216).size+r218.size≤9223372036854775807)) (.done (((⟨#[36]⟩:BA)++r216)++r218)) .fail))) .fail) (.ask (x3) (.ask (decide (r216.size+(⟨#[36]⟩:BA).size≤9223372036854775807)) (.opt (qA4 n x1) fun r219=>(.ask (decide ((r216++(⟨#[36]⟩:BA)).size+r219.size≤9223372036854775807)) (.done ((r216++(⟨#[36]⟩:BA))++r219)) .fail)) .fail) (.opt (qA4 n x1) fun r220=>(.ask (decide (r216.size+r220.size≤9223372036854775807)) (.done (r216++r220)) .fail)))))))
def qB4:Nat→Int→Int→Bool→Bool→Option (BA)
 |0,_,_,_,_=>none
 |n+1,x0,x1,x2,x3=>(qEi n x0 x1 x2 x3).run
abbrev qOZ (n:Nat):List (Ent (Rn n)):= [en (qE3 n),en (qKD n),en (qGQ n)]
theorem qNZ:∀n,Ok (Rn n) qOY (qB4 n)
 |0=>ok0 fun _=>rfl
 |n+1=>stO (T:=qEi n) (by kernel_rfl) (qOZ n) [] (fun _=>(by kernel_rfl)) fun _=>(by kernel_rfl)
def qIs:Sg:=⟨137,[aL,aI,aI],[],⟨aS,[],[]⟩⟩
def qBs (rec:RW→Int→Int→Option (BA)) (n:Nat) (v:RW×BA×Int×Int×Int×Int×Int×BA×Int×Int×Bool×Bool×Int×Int×Bool×Bool×RW):Tr ((RW×BA×Int×Int×Int×Int×Int×BA×Int×Int×Bool×Bool×Int×Int×Bool×Bool×RW)⊕((BA))):=(.ask ((decide (v.2.2.1<(v.2.2.2.2.2.2.2.2.2.2.2.2.2.2.2.2.length:Int)))) (.ask ((decide (v.2.2.1>(0:Int)))) (.ask (decide (v.2.1.size+(⟨#[44]⟩:BA).size≤9223372036854775807)) (.ask (decide (0≤v.2.2.1∧v.2.2.1<v.2.2.2.2.2.2.2.2.2.2.2.2.2.2.2.2.length)) (.opt (v.2.2.2.2.2.2.2.2.2.2.2.2.2.2.2.2[(v.2.2.1).toNat]?) fun e236=>(.ask (decide (e236.length=1)) (.opt (zB .i64 e236 0) fun y237=>(.opt (rec v.1 y237 (0:Int)) fun r238=>(.ask (decide ((v.2.1++(⟨#[44]⟩:BA)).size+r238.size≤9223372036854775807)) (.done (.inl (v.1,((v.2.1++(⟨#[44]⟩:BA))++r238),(IntKind.i64.wrap (v.2.2.1+(1:Int))),v.2.2.2.1,v.2.2.2.2.1,v.2.2.2.2.2.1,v.2.2.2.2.2.2.1,v.2.2.2.2.2.2.2.1,v.2.2.2.2.2.2.2.2.1,v.2.2.2.2.2.2.2.2.2.1,v.2.2.2.2.2.2.2.2.2.2.1,v.2.2.2.2.2.2.2.2.2.2.2.1,v.2.2.2.2.2.2.2.2.2.2.2.2.1,v.2.2.2.2.2.2.2.2.2.2.2.2.2.1,v.2.2.2.2.2.2.2.2.2.2.2.2.2.2.1,v.2.2.2.2.2.2.2.2.2.2.2.2.2.2.2.1,v.2.2.2.2.2.2.2.2.2.2.2.2.2.2.2.2))) .fail))) .fail)) .fail) .fail) (.ask (decide (0≤v.2.2.1∧v.2.2.1<v.2.2.2.2.2.2.2.2.2.2.2.2.2.2.2.2.length)) (.opt (v.2.2.2.2.2.2.2.2.2.2.2.2.2.2.2.2[(v.2.2.1).toNat]?) fun e239=>(.ask (decide (e239.length=1)) (.opt (zB .i64 e239 0) fun y240=>(.opt (rec v.1 y240 (0:Int)) fun r241=>(.ask (decide (v.2.1.size+r241.size≤9223372036854775807)) (.done (.inl (v.1,(v.2.1++r241),(IntKind.i64.wrap (v.2.2.1+(1:Int))),v.2.2.2.1,v.2.2.2.2.1,v.2.2.2.2.2.1,v.2.2.2.2.2.2.1,v.2.2.2.2.2.2.2.1,v.2.2.2.2.2.2.2.2.1,v.2.2.2.2.2.2.2.2.2.1,v.2.2.2.2.2.2.2.2.2.2.1,v.2.2.2.2.2.2.2.2.2.2.2.1,v.2.2.2.2.2.2.2.2.2.2.2.2.1,v.2.2.2.2.2.2.2.2.2.2.2.2.2.1,v.2.2.2.2.2.2.2.2.2.2.2.2.2.2.1,v.2.2.2.2.2.2.2.2.2.2.2.2.2.2.2.1,v.2.2.2.2.2.2.2.2.2.2.2.2.2.2.2.2))) .fail))) .fail)) .fail)) (.done (.inr (v.2.1))))
def qCF (rec:RW→Int→Int→Option (BA)) (n:Nat) (x0:RW) (x1 x2:Int):Tr (BA):=(.ask (decide (0≤x1∧x1<x0.length)) (.opt (x0[(x1).toNat]?) fun e188=>(.ask (decide (e188.length=14)) (.opt (zB .i64 e188 0) fun y189=>(.opt (zB .i64 e188 1) fun y190=>(.opt (zB .i64 e188 2) fun y191=>(.opt (zB .i64 e188 3) fun y192=>(.opt (zY e188 4) fun y193=>(.opt (zB .i64 e188 5) fun y194=>(.opt (zB .i64 e188 6) fun y195=>(.opt (zo e188 7) fun y196=>(.opt (zo e188 8) fun y197=>(.opt (zB .i64 e188 9) fun y198=>(.opt (zB .i64 e188 10) fun y199=>(.opt (zo e188 11) fun y200=>(.opt (zo e188 12) fun y201=>(.opt (zAb e188 13) fun y202=>(.ask ((y189==(1:Int))) (.ask ((y191==(2:Int))) (.opt (qFd n y193) fun r205=>(.done r205)) (.opt (qAb n y191 y192 y193) fun r214=>(.done r214))) (.ask ((y189==(2:Int))) (.opt (qB4 n y194 y195 y196 y197) fun r221=>(.done r221)) (.ask ((y189==(3:Int))) (.opt (qB4 n y194 y195 y196 y197) fun r222=>(.ask (decide (r222.size+(⟨#[58]⟩:BA).size≤9223372036854775807)) (.opt (qB4 n y198 y199 y200 y201) fun r223=>(.ask (decide ((r222++(⟨#[58]⟩:BA)).size+r223.size≤9223372036854775807)) (.done ((r222++(⟨#[58]⟩:BA))++r223)) .fail)) .fail)) (.ask ((y189==(4:Int))) (.ask (decide (0≤(0:Int)∧(0:Int)<y202.length)) (.opt (y202[((0:Int)).toNat]?) fun e224=>(.ask (decide (e224.length=1)) (.opt (zB .i64 e224 0) fun y225=>(.opt (rec x0 y225 (5:Int)) fun r226=>(.ask (decide ((⟨#[45]⟩:BA).size+r226.size≤9223372036854775807)) (.done ((⟨#[45]⟩:BA)++r226)) .fail))) .fail)) .fail) (.ask ((y189==(5:Int))) (.opt (qCw n y190) fun r227=>(.ask (decide (0≤(0:Int)∧(0:Int)<y202.length)) (.opt (y202[((0:Int)).toNat]?) fun e228=>(.ask (decide (e228.length=1)) (.opt (zB .i64 e228 0) fun y229=>(.ask (decide (0≤(1:Int)∧(1:Int)<y202.length)) (.opt (y202[((1:Int)).toNat]?) fun e230=>(.ask (decide (e230.length=1)) (.opt (zB .i64 e230 0) fun y231=>(.opt (rec x0 y229 r227) fun r232=>(.opt (qDU n y190) fun r233=>(.ask (decide (r232.size+r233.size≤9223372036854775807)) (.opt (rec x0 y231 (IntKind.i64.wrap (r227+(1:Int)))) fun r234=>(.ask (decide ((r232++r233).size+r234.size≤9223372036854775807)) (.ask ((decide (r227<x2))) (.ask (decide ((⟨#[40]⟩:BA).size+((r232++r233)++r234).size≤9223372036854775807)) (.ask (decide (((⟨#[40]⟩:BA)++((r232++r233)++r234)).size+(⟨#[41]⟩:BA).size≤9223372036854775807)) (.done (((⟨#[40]⟩:BA)++((r232++r233)++r234))++(⟨#[41]⟩:BA))) .fail) .fail) (.done ((r232++r233)++r234))) .fail)) .fail)))) .fail)) .fail)) .fail)) .fail)) (.opt (qDE n y190) fun r235=>(.ask (decide (r235.size+(⟨#[40]⟩:BA).size≤9223372036854775807)) (.opt (zC (qBs rec n) n (x0,(r235++(⟨#[40]⟩:BA)),(0:Int),y189,y190,y191,y192,y193,y194,y195,y196,y197,y198,y199,y200,y201,y202)) fun r242=>(.ask (decide (r242.size+(⟨#[41]⟩:BA).size≤9223372036854775807)) (.done (r242++(⟨#[41]⟩:BA))) .fail)) .fail))))))))))))))))))))) .fail)) .fail)
def qo:Nat→RW→Int→Int→Option (BA)
 |0,_,_,_=>none
 |n+1,x0,x1,x2=>(qCF (qo n) n x0 x1 x2).run
abbrev qMV (n:Nat) (ih:Ok (Rn n) qIs (qo n)):List (Ent (Rn n)):= [en (qPm n),en (qIO n),en (qNZ n),en ih,en (qKE n),en (qKw n),en (qNT n)]
def qNa (n:Nat) (ih:Ok (Rn n) qIs (qo n)):LEnt (KB 137) (Rn n) n:=lok (zK 137) 125 ⟨⟨[(0,aL),(7,(.c (.ptr 0 448 0 0 0))),(10,aS),(11,aI)],[(448,⟨0,14,162,(.box [qI,qI,qI,qI,qS,qI,qI,qB,qB,qI,qI,qB,qB,qL])⟩)],[]⟩,[(.exit 1,⟨[(10,aS)],[],[]⟩)]⟩ (qBs (qo n) n) (qMV n ih) [] fun _=>(by kernel_rfl)
theorem qHe:∀n,Ok (Rn n) qIs (qo n)
 |0=>ok0 fun _=>rfl
 |n+1=>stO (T:=qCF (qo n) n) (by kernel_rfl) (qMV n (qHe n)) [qNa n (qHe n)] (fun _=>(by kernel_rfl)) fun _=>(by kernel_rfl)
def qMp:Sg:=⟨94,[aL],[],⟨aS,[],[]⟩⟩
def qDz (n:Nat) (x0:RW):Tr (BA):=(.opt (qBd n x0) fun r187=>(.ask ((!r187)) (.done (⟨#[]⟩:BA)) (.opt (qo n x0 (IntKind.i64.wrap ((x0.length:Int)-(1:Int))) (0:Int)) fun r243=>(.ask ((decide ((r243.size:Int)>(200:Int)))) (.done (⟨#[]⟩:BA)) (.done r243)))))
def qB5:Nat→RW→Option (BA)
 |0,_=>none
 |n+1,x0=>(qDz n x0).run
abbrev qMq (n:Nat):List (Ent (Rn n)):= [en (qFc n),en (qHe n)]
theorem qL6:∀n,Ok (Rn n) qMp (qB5 n)
 |0=>ok0 fun _=>rfl
 |n+1=>stO (T:=qDz n) (by kernel_rfl) (qMq n) [] (fun _=>(by kernel_rfl)) fun _=>(by kernel_rfl)
def qPo:Sg:=⟨95,[aS],[],⟨(.tup [(true,[qI,qI,qS]),(false,[qB])]),[],[]⟩⟩
def qB6 (n:Nat) (v:BA×Bool×Int×Int×BA):Tr ((BA×Bool×Int×Int×BA)⊕((BA×Bool×Int×Int×BA))):=(.ask ((decide ((v.1.size:Int)>(1:Int)))) (.ask (decide (0≤(0:Int))) (.opt (v.1.toList[((0:Int)).toNat]?) fun c246=>(.ask (((c246.toNat:Int)==(48:Int))) (.ask (decide (0≤(1:Int)∧(1:Int)≤(v.1.size:Int)∧(v.1.size:Int)≤v.1.size)) (.done (.inl ((v.1.extract ((1:Int)).toNat ((v.1.size:Int)).toNat),v.2.1,v.2.2.1,v.2.2.2.1,v.2.2.2.2))) .fail) (.done (.inr ((v.1,v.2.1,v.2.2.1,v.2.2.2.1,v.2.2.2.2)))))) .fail) (.done (.inr ((v.1,v.2.1,v.2.2.1,v.2.2.2.1,v.2.2.2.2)))))
def qKM (n:Nat) (x0:BA):Tr (Int×Int×BA×Bool):=(.ask ((decide ((x0.size:Int)>(0:Int)))) (.ask (decide (0≤(0:Int))) (.opt (x0.toList[((0:Int)).toNat]?) fun c245=>(.ask (((c245.toNat:Int)==(45:Int))) (.ask (decide (0≤(1:Int)∧(1:Int)≤(x0.size:Int)∧(x0.size:Int)≤x0.size)) (.ask (((x0.extract ((1:Int)).toNat ((x0.size:Int)).toNat).toList==(⟨#[]⟩:BA).toList)) (.done ((0:Int),(0:Int),(⟨#[]⟩:BA),false)) (.opt (zC (qB6 n) n ((x0.extract ((1:Int)).toNat ((x0.size:Int)).toNat),((c245.toNat:Int)==(45:Int)),(0:Int),(0:Int),(⟨#[]⟩:BA))) fun r247=>(.opt (qz n r247.1 (16:Int)) fun r248=>(.ask (r247.2.1) (.ask (r248.2) (.opt (qa n (1:Int) (IntKind.i64.wrap (0-r248.1)) (⟨#[]⟩:BA)) fun r249=>(.done ((1:Int),(IntKind.i64.wrap (0-r248.1)),(⟨#[]⟩:BA),r249))) (.done ((1:Int),(IntKind.i64.wrap (0-r248.1)),(⟨#[]⟩:BA),false))) (.ask (r248.2) (.opt (qa n (1:Int) r248.1 (⟨#[]⟩:BA)) fun r250=>(.done ((1:Int),r248.1,(⟨#[]⟩:BA),r250))) (.done ((1:Int),r248.1,(⟨#[]⟩:BA),false))))))) .fail) (.ask ((x0.toList==(⟨#[]⟩:BA).toList)) (.done ((0:Int),(0:Int),(⟨#[]⟩:BA),false)) (.opt (zC (qB6 n) n (x0,((c245.toNat:Int)==(45:Int)),(0:Int),(0:Int),(⟨#[]⟩:BA))) fun r251=>(.opt (qz n r251.1 (16:Int)) fun r252=>(.ask (r251.2.1) (.ask (r252.2) (.opt (qa n (1:Int) (IntKind.i64.wrap (0-r252.1)) (⟨#[]⟩:BA)) fun r253=>(.done ((1:Int),(IntKind.i64.wrap (0-r252.1)),(⟨#[]⟩:BA),r253))) (.done ((1:Int),(IntKind.i64.wrap (0-r252.1)),(⟨#[]⟩:BA),false))) (.ask (r252.2) (.opt (qa n (1:Int) r252.1 (⟨#[]⟩:BA)) fun r254=>(.done ((1:Int),r252.1,(⟨#[]⟩:BA),r254))) (.done ((1:Int),r252.1,(⟨#[]⟩:BA),false))))))))) .fail) (.ask ((x0.toList==(⟨#[]⟩:BA).toList)) (.done ((0:Int),(0:Int),(⟨#[]⟩:BA),false)) (.opt (zC (qB6 n) n (x0,false,(0:Int),(0:Int),(⟨#[]⟩:BA))) fun r255=>(.opt (qz n r255.1 (16:Int)) fun r256=>(.ask (r255.2.1) (.ask (r256.2) (.opt (qa n (1:Int) (IntKind.i64.wrap (0-r256.1)) (⟨#[]⟩:BA)) fun r257=>(.done ((1:Int),(IntKind.i64.wrap (0-r256.1)),(⟨#[]⟩:BA),r257))) (.done ((1:Int),(IntKind.i64.wrap (0-r256.1)),(⟨#[]⟩:BA),false))) (.ask (r256.2) (.opt (qa n (1:Int) r256.1 (⟨#[]⟩:BA)) fun r258=>(.done ((1:Int),r256.1,(⟨#[]⟩:BA),r258))) (.done ((1:Int),r256.1,(⟨#[]⟩:BA),false))))))))
def qGn:Nat→BA→Option (Int×Int×BA×Bool)
 |0,_=>none
 |n+1,x0=>(qKM n x0).run
abbrev qKN (n:Nat):List (Ent (Rn n)):= [en (qIl n),en (qFC n)]
def qMr (n:Nat):LEnt (KB 95) (Rn n) n:=lok (zK 95) 62 ⟨⟨[(0,aS),(2,(.c (.ptr 0 128 0 0 0))),(4,aB)],[(128,⟨0,3,128,(.box [qI,qI,qS])⟩)],[]⟩,[(.exit 0,⟨[(0,aS),(2,(.c (.ptr 0 128 0 0 0))),(4,aB)],[(128,⟨0,3,128,(.box [qI,qI,qS])⟩)],[]⟩)]⟩ (qB6 n) (qKN n) [] fun _=>(by kernel_rfl)
theorem qOa:∀n,Ok (Rn n) qPo (qGn n)
 |0=>ok0 fun _=>rfl
 |n+1=>stO (T:=qKM n) (by kernel_rfl) (qKN n) [qMr n] (fun _=>(by kernel_rfl)) fun _=>(by kernel_rfl)
def qQw:Sg:=⟨53,[aS],[],⟨(.tup [(false,[qS]),(false,[qB])]),[],[]⟩⟩
def qK1 (n:Nat) (x0:BA):Tr (BA×Bool):=(.opt (qCu n x0) fun r33=>(.ask ((!r33)) (.done ((⟨#[]⟩:BA),false)) (.ask ((x0.toList==(⟨#[]⟩:BA).toList)) (.done ((⟨#[]⟩:BA),true)) (.ask (decide (0≤(0:Int))) (.opt (x0.toList[((0:Int)).toNat]?) fun c34=>(.ask (((c34.toNat:Int)==(61:Int))) (.ask (decide (0≤(1:Int)∧(1:Int)≤(x0.size:Int)∧(x0.size:Int)≤x0.size)) (.opt (qDy n (x0.extract ((1:Int)).toNat ((x0.size:Int)).toNat)) fun r186=>(.opt (qB5 n r186.1) fun r244=>(.ask ((!r186.2)) (.done ((⟨#[]⟩:BA),false)) (.ask ((r244.toList==(⟨#[]⟩:BA).toList)) (.done ((⟨#[]⟩:BA),false)) (.ask ((decide ((IntKind.i64.wrap ((r244.size:Int)+(1:Int)))>(200:Int)))) (.done ((⟨#[]⟩:BA),false)) (.ask (decide ((⟨#[61]⟩:BA).size+r244.size≤9223372036854775807)) (.done (((⟨#[61]⟩:BA)++r244),true)) .fail)))))) .fail) (.opt (qGn n x0) fun r259=>(.ask (r259.2.2.2) (.opt (qAb n r259.1 r259.2.1 r259.2.2.1) fun r260=>(.done (r260,true))) (.opt (qAR n x0) fun r261=>(.ask ((!r261.2.2.2)) (.opt (qAb n (2:Int) (0:Int) x0) fun r262=>(.ask ((decide ((r262.size:Int)>(200:Int)))) (.done ((⟨#[]⟩:BA),false)) (.done (r262,true)))) (.opt (qAb n r261.1 r261.2.1 r261.2.2.1) fun r263=>(.ask ((decide ((r263.size:Int)>(200:Int)))) (.done ((⟨#[]⟩:BA),false)) (.done (r263,true)))))))))) .fail))))
def qFe:Nat→BA→Option (BA×Bool)
 |0,_=>none
 |n+1,x0=>(qK1 n x0).run
abbrev qQx (n:Nat):List (Ent (Rn n)):= [en (qGk n),en (qG5 n),en (qL6 n),en (qOa n),en (qIO n),en (qIN n)]
theorem qPp:∀n,Ok (Rn n) qQw (qFe n)
 |0=>ok0 fun _=>rfl
 |n+1=>stO (T:=qK1 n) (by kernel_rfl) (qQx n) [] (fun _=>(by kernel_rfl)) fun _=>(by kernel_rfl)
def qQy:Sg:=⟨88,[(.agg [qI,qI]),(.agg [qI,qI])],[],⟨aB,[],[]⟩⟩
def qHf (n:Nat) (x0 x1 x2 x3:Int):Tr (Bool):=(.ask ((decide (x1<x3))) (.done true) (.ask ((x1==x3)) (.done (decide (x0<x2))) (.done false)))
def qET:Nat→Int→Int→Int→Int→Option (Bool)
 |0,_,_,_,_=>none
 |n+1,x0,x1,x2,x3=>(qHf n x0 x1 x2 x3).run
theorem qPq:∀n,Ok (Rn n) qQy (qET n)
 |0=>ok0 fun _=>rfl
 |n+1=>stO (T:=qHf n) (by kernel_rfl) [] [] (fun _=>(by kernel_rfl)) fun _=>(by kernel_rfl)
def qQz:Sg:=⟨44,[aL],[],⟨aB,[],[]⟩⟩
def qFf (n:Nat) (v:RW×Int):Tr ((RW×Int)⊕((Bool)⊕(Unit))):=(.ask ((decide (v.2<(v.1.length:Int)))) (.ask (decide (0≤v.2∧v.2<v.1.length)) (.opt (v.1[(v.2).toNat]?) fun e26=>(.ask (decide (e26.length=3)) (.opt (zY e26 2) fun y27=>(.opt (qFe n y27) fun r28=>(.ask (decide (0≤v.2∧v.2<v.1.length)) (.opt (v.1[(v.2).toNat]?) fun e29=>(.ask (decide (e29.length=3)) (.opt (zB .i64 e29 0) fun y30=>(.opt (zB .i64 e29 1) fun y31=>(.opt (qAT n y30 y31) fun r32=>(.ask ((!r32)) (.done (.inr (.inl (false)))) (.ask ((!r28.2)) (.done (.inr (.inl (false)))) (.ask (decide (0≤v.2∧v.2<v.1.length)) (.opt (v.1[(v.2).toNat]?) fun e33=>(.ask (decide (e33.length=3)) (.opt (zY e33 2) fun y34=>(.ask ((y34.toList==(⟨#[]⟩:BA).toList)) (.done (.inr (.inl (false)))) (.ask (decide (0≤v.2∧v.2<v.1.length)) (.opt (v.1[(v.2).toNat]?) fun e35=>(.ask (decide (e35.length=3)) (.opt (zY e35 2) fun y36=>(.ask ((!(r28.1.toList==y36.toList))) (.done (.inr (.inl (false)))) (.ask ((decide (v.2>(0:Int)))) (.ask (decide (0≤(IntKind.i64.wrap (v.2-(1:Int)))∧(IntKind.i64.wrap (v.2-(1:Int)))<v.1.length)) (.opt (v.1[((IntKind.i64.wrap (v.2-(1:Int)))).toNat]?) fun e37=>(.ask (decide (e37.length=3)) (.opt (zB .i64 e37 0) fun y38=>(.opt (zB .i64 e37 1) fun y39=>(.ask (decide (0≤v.2∧v.2<v.1.length)) (.opt (v.1[(v.2).toNat]?) fun e40=>(.ask (decide (e40.length=3)) (.opt (zB .i64 e40 0) fun y41=>(.opt (zB .i64 e40 1) fun y42=>(.opt (qET n y38 y39 y41 y42) fun r43=>(.ask ((!r43)) (.done (.inr (.inl (false)))) (.done (.inl (v.1,(IntKind.i64.wrap (v.2+(1:Int)))))))))) .fail)) .fail))) .fail)) .fail) (.done (.inl (v.1,(IntKind.i64.wrap (v.2+(1:Int))))))))) .fail)) .fail))) .fail)) .fail)))))) .fail)) .fail))) .fail)) .fail) (.done (.inr (.inr (())))))
def qK2 (n:Nat) (x0:RW):Tr (Bool):=(.ask ((decide ((x0.length:Int)>(120:Int)))) (.done false) (.opt (zC (qFf n) n (x0,(0:Int))) fun r44=>(.alt r44 (fun r45=>(.done r45)) (fun r46=>(.done true)))))
def qHg:Nat→RW→Option (Bool)
 |0,_=>none
 |n+1,x0=>(qK2 n x0).run
abbrev qK3 (n:Nat):List (Ent (Rn n)):= [en (qPp n),en (qE3 n),en (qPq n)]
def qNb (n:Nat):LEnt (KB 44) (Rn n) n:=lok (zK 44) 29 ⟨⟨[(0,aL),(3,aI)],[],[]⟩,[(.ret,⟨[(2,aB)],[],[]⟩),(.exit 0,⟨[],[],[]⟩)]⟩ (qFf n) (qK3 n) [] fun _=>(by kernel_rfl)
theorem qPr:∀n,Ok (Rn n) qQz (qHg n)
 |0=>ok0 fun _=>rfl
 |n+1=>stO (T:=qK2 n) (by kernel_rfl) (qK3 n) [qNb n] (fun _=>(by kernel_rfl)) fun _=>(by kernel_rfl)
def qS3:Sg:=⟨124,[aL,(.agg [qI,qI])],[],⟨aB,[],[]⟩⟩
def qGo (n:Nat) (v:RW×Int×Int×Int):Tr ((RW×Int×Int×Int)⊕((Bool)⊕(Unit))):=(.ask ((decide (v.2.1<(v.1.length:Int)))) (.ask (decide (0≤v.2.1∧v.2.1<v.1.length)) (.opt (v.1[(v.2.1).toNat]?) fun e51=>(.ask (decide (e51.length=2)) (.opt (zB .i64 e51 0) fun y52=>(.opt (zB .i64 e51 1) fun y53=>(.ask (((y52==v.2.2.1)&&((y53==v.2.2.2)&&true))) (.done (.inr (.inl (true)))) (.done (.inl (v.1,(IntKind.i64.wrap (v.2.1+(1:Int))),v.2.2.1,v.2.2.2)))))) .fail)) .fail) (.done (.inr (.inr (())))))
def qNc (n:Nat) (x0:RW) (x1 x2:Int):Tr (Bool):=(.opt (zC (qGo n) n (x0,(0:Int),x1,x2)) fun r54=>(.alt r54 (fun r55=>(.done r55)) (fun r56=>(.done false))))
def qHJ:Nat→RW→Int→Int→Option (Bool)
 |0,_,_,_=>none
 |n+1,x0,x1,x2=>(qNc n x0 x1 x2).run
def qPs (n:Nat):LEnt (KB 124) (Rn n) n:=lok (zK 124) 13 ⟨⟨[(0,aL),(3,(.c (.ptr 0 192 0 0 0))),(5,aI)],[(192,⟨0,2,29,(.box [qI,qI])⟩)],[]⟩,[(.ret,⟨[(4,aB)],[],[]⟩),(.exit 0,⟨[],[],[]⟩)]⟩ (qGo n) [] [] fun _=>(by kernel_rfl)
theorem qSE:∀n,Ok (Rn n) qS3 (qHJ n)
 |0=>ok0 fun _=>rfl
 |n+1=>stO (T:=qNc n) (by kernel_rfl) [] [qPs n] (fun _=>(by kernel_rfl)) fun _=>(by kernel_rfl)
def qOb:Sg:=⟨155,[aS],[],⟨(.tup [(false,[qL]),(false,[qB])]),[],[]⟩⟩
def qF9 (n:Nat) (x0:BA):Tr (RW×Bool):=(.ask ((x0.toList==(⟨#[]⟩:BA).toList)) (.ask (decide (0=([]:RW).length)) (.done (([]:RW),false)) .fail) (.ask (decide (0≤(0:Int))) (.opt (x0.toList[((0:Int)).toNat]?) fun c60=>(.ask (((c60.toNat:Int) !=(61:Int))) (.ask (decide (0=([]:RW).length)) (.done (([]:RW),false)) .fail) (.ask (decide (0≤(1:Int)∧(1:Int)≤(x0.size:Int)∧(x0.size:Int)≤x0.size)) (.opt (qDy n (x0.extract ((1:Int)).toNat ((x0.size:Int)).toNat)) fun r61=>(.done (r61.1,r61.2))) .fail))) .fail))
def qGA:Nat→BA→Option (RW×Bool)
 |0,_=>none
 |n+1,x0=>(qF9 n x0).run
abbrev qOc (n:Nat):List (Ent (Rn n)):= [en (qG5 n)]
theorem qNd:∀n,Ok (Rn n) qOb (qGA n)
 |0=>ok0 fun _=>rfl
 |n+1=>stO (T:=qF9 n) (by kernel_rfl) (qOc n) [] (fun _=>(by kernel_rfl)) fun _=>(by kernel_rfl)
def qQ0:Sg:=⟨156,[aL],[],⟨aL,[],[]⟩⟩
def qFg (n:Nat) (v:RW×Nat×Int×RW):Tr ((RW×Nat×Int×RW)⊕((Nat×RW))):=(.ask ((decide (v.2.2.1<(v.1.length:Int)))) (.ask (decide (0≤v.2.2.1∧v.2.2.1<v.1.length)) (.opt (v.1[(v.2.2.1).toNat]?) fun e64=>(.ask (decide (e64.length=14)) (.opt (zB .i64 e64 0) fun y65=>(.ask ((y65==(2:Int))) (.ask (decide (0≤v.2.2.1∧v.2.2.1<v.1.length)) (.opt (v.1[(v.2.2.1).toNat]?) fun e66=>(.ask (decide (e66.length=14)) (.opt (zB .i64 e66 5) fun y67=>(.opt (zB .i64 e66 6) fun y68=>(.ask (decide (0≤v.2.2.1∧v.2.2.1<v.1.length)) (.opt (v.1[(v.2.2.1).toNat]?) fun e69=>(.ask (decide (e69.length=14)) (.opt (zB .i64 e69 5) fun y70=>(.opt (zB .i64 e69 6) fun y71=>(.ask (decide (1=([[(.i .i64 y67),(.i .i64 y68),(.i .i64 y70),(.i .i64 y71)]]:RW).length)) (.ask (decide (v.2.1=v.2.2.2.length∧0<4∧0<32∧(v.2.1+([[(.i .i64 y67),(.i .i64 y68),(.i .i64 y70),(.i .i64 y71)]]:RW).length)*32≤140737488355328∧([[(.i .i64 y67),(.i .i64 y68),(.i .i64 y70),(.i .i64 y71)]]:RW).all (fun e=>e.length==4)=true)) (.done (.inl (v.1,(v.2.1+1),(IntKind.i64.wrap (v.2.2.1+(1:Int))),(v.2.2.2++([[(.i .i64 y67),(.i .i64 y68),(.i .i64 y70),(.i .i64 y71)]]:RW))))) .fail) .fail))) .fail)) .fail))) .fail)) .fail) (.ask ((y65==(3:Int))) (.ask (decide (0≤v.2.2.1∧v.2.2.1<v.1.length)) (.opt (v.1[(v.2.2.1).toNat]?) fun e72=>(.ask (decide (e72.length=14)) (.opt (zB .i64 e72 5) fun y73=>(.opt (zB .i64 e72 6) fun y74=>(.ask (decide (0≤v.2.2.1∧v.2.2.1<v.1.length)) (.opt (v.1[(v.2.2.1).toNat]?) fun e75=>(.ask (decide (e75.length=14)) (.opt (zB .i64 e75 9) fun y76=>(.opt (zB .i64 e75 10) fun y77=>(.ask (decide (1=([[(.i .i64 y73),(.i .i64 y74),(.i .i64 y76),(.i .i64 y77)]]:RW).length)) (.ask (decide (v.2.1=v.2.2.2.length∧0<4∧0<32∧(v.2.1+([[(.i .i64 y73),(.i .i64 y74),(.i .i64 y76),(.i .i64 y77)]]:RW).length)*32≤140737488355328∧([[(.i .i64 y73),(.i .i64 y74),(.i .i64 y76),(.i .i64 y77)]]:RW).all (fun e=>e.length==4)=true)) (.done (.inl (v.1,(v.2.1+1),(IntKind.i64.wrap (v.2.2.1+(1:Int))),(v.2.2.2++([[(.i .i64 y73),(.i .i64 y74),(.i .i64 y76),(.i .i64 y77)]]:RW))))) .fail) .fail))) .fail)) .fail))) .fail)) .fail) (.done (.inl (v.1,v.2.1,(IntKind.i64.wrap (v.2.2.1+(1:Int))),v.2.2.2)))))) .fail)) .fail) (.done (.inr ((v.2.1,v.2.2.2)))))
def qK4 (n:Nat) (x0:RW):Tr (RW):=(.opt (qBd n x0) fun r63=>(.ask ((!r63)) (.ask (decide (0=([]:RW).length)) (.done ([]:RW)) .fail) (.opt (zC (qFg n) n (x0,(0:Nat),(0:Int),([]:RW))) fun r78=>(.ask (decide (r78.1=r78.2.length)) (.done r78.2) .fail))))
def qHh:Nat→RW→Option (RW)
 |0,_=>none
 |n+1,x0=>(qK4 n x0).run
abbrev qK5 (n:Nat):List (Ent (Rn n)):= [en (qFc n)]
def qNe (n:Nat):LEnt (KB 156) (Rn n) n:=lok (zK 156) 61 ⟨⟨[(0,aL),(3,(.c (.own 0 320 0 0))),(4,aI)],[(320,⟨0,4,159,(.row [])⟩)],[]⟩,[(.exit 0,⟨[(3,(.c (.own 0 320 0 0)))],[(320,⟨0,4,159,(.row [])⟩)],[]⟩)]⟩ (qFg n) (qK5 n) [] fun _=>(by kernel_rfl)
theorem qPt:∀n,Ok (Rn n) qQ0 (qHh n)
 |0=>ok0 fun _=>rfl
 |n+1=>stO (T:=qK4 n) (by kernel_rfl) (qK5 n) [qNe n] (fun _=>(by kernel_rfl)) fun _=>(by kernel_rfl)
def qQ1:Sg:=⟨116,[aS],[],⟨aL,[],[]⟩⟩
def qHi (n:Nat) (x0:BA):Tr (RW):=(.opt (qGA n x0) fun r62=>(.ask ((!r62.2)) (.ask (decide (0=([]:RW).length)) (.done ([]:RW)) .fail) (.opt (qHh n r62.1) fun r79=>(.done r79))))
def qDo:Nat→BA→Option (RW)
 |0,_=>none
 |n+1,x0=>(qHi n x0).run
abbrev qQ2 (n:Nat):List (Ent (Rn n)):= [en (qNd n),en (qPt n)]
theorem qPu:∀n,Ok (Rn n) qQ1 (qDo n)
 |0=>ok0 fun _=>rfl
 |n+1=>stO (T:=qHi n) (by kernel_rfl) (qQ2 n) [] (fun _=>(by kernel_rfl)) fun _=>(by kernel_rfl)
def qPv:Sg:=⟨117,[(.agg [qI,qI]),(.agg [qI,qI,qI,qI])],[],⟨aB,[],[]⟩⟩
def qGp (n:Nat) (x0 x1 x2 x3 x4 x5:Int):Tr (Bool):=(.opt (qA1 n x0 x2 x4) fun r89=>(.ask (r89) (.opt (qA1 n x1 x3 x5) fun r90=>(.done r90)) (.done false)))
def qGq:Nat→Int→Int→Int→Int→Int→Int→Option (Bool)
 |0,_,_,_,_,_,_=>none
 |n+1,x0,x1,x2,x3,x4,x5=>(qGp n x0 x1 x2 x3 x4 x5).run
abbrev qPw (n:Nat):List (Ent (Rn n)):= [en (qEh n)]
theorem qOd:∀n,Ok (Rn n) qPv (qGq n)
 |0=>ok0 fun _=>rfl
 |n+1=>stO (T:=qGp n) (by kernel_rfl) (qPw n) [] (fun _=>(by kernel_rfl)) fun _=>(by kernel_rfl)
def qOe:Sg:=⟨86,[aL,aL],[],⟨(.c (.own 0 0 0 0)),[],[⟨0,2,29,(.row [])⟩]⟩⟩
def qCR (n:Nat) (v:RW×Nat×Bool×Int×RW×Bool×Int×Int×RW):Tr ((RW×Nat×Bool×Int×RW×Bool×Int×Int×RW)⊕((RW×Nat×Bool×Int×RW×Bool×Int×RW))):=(.ask ((decide (v.2.2.2.2.2.2.2.1<((v.2.1:Nat):Int)))) (.ask (v.2.2.2.2.2.1) (.done (.inl (v.1,v.2.1,v.2.2.1,v.2.2.2.1,v.2.2.2.2.1,true,v.2.2.2.2.2.2.1,(IntKind.i64.wrap (v.2.2.2.2.2.2.2.1+(1:Int))),v.2.2.2.2.2.2.2.2))) (.ask (decide (v.2.1=v.2.2.2.2.2.2.2.2.length∧0≤v.2.2.2.2.2.2.2.1∧v.2.2.2.2.2.2.2.1<((v.2.1:Nat):Int))) (.opt (v.2.2.2.2.2.2.2.2[(v.2.2.2.2.2.2.2.1).toNat]?) fun e55=>(.opt (zB .i64 e55 0) fun y56=>(.opt (zB .i64 e55 1) fun y57=>(.ask (decide (0≤v.2.2.2.2.2.2.1∧v.2.2.2.2.2.2.1<v.2.2.2.2.1.length)) (.opt (v.2.2.2.2.1[(v.2.2.2.2.2.2.1).toNat]?) fun e58=>(.ask (decide (e58.length=4)) (.opt (zB .i64 e58 0) fun y59=>(.opt (zB .i64 e58 1) fun y60=>(.opt (zB .i64 e58 2) fun y61=>(.opt (zB .i64 e58 3) fun y62=>(.opt (qGq n y56 y57 y59 y60 y61 y62) fun r63=>(.done (.inl (v.1,v.2.1,v.2.2.1,v.2.2.2.1,v.2.2.2.2.1,r63,v.2.2.2.2.2.2.1,(IntKind.i64.wrap (v.2.2.2.2.2.2.2.1+(1:Int))),v.2.2.2.2.2.2.2.2)))))))) .fail)) .fail)))) .fail)) (.done (.inr ((v.1,v.2.1,v.2.2.1,v.2.2.2.1,v.2.2.2.2.1,v.2.2.2.2.2.1,v.2.2.2.2.2.2.1,v.2.2.2.2.2.2.2.2)))))
def qCj (n:Nat) (v:RW×Nat×Bool×Int×RW×Bool×Int×RW):Tr ((RW×Nat×Bool×Int×RW×Bool×Int×RW)⊕((RW×Nat×Bool×Int×Bool×RW))):=(.ask ((decide (v.2.2.2.2.2.2.1<(v.2.2.2.2.1.length:Int)))) (.opt (zC (qCR n) n (v.1,v.2.1,v.2.2.1,v.2.2.2.1,v.2.2.2.2.1,v.2.2.2.2.2.1,v.2.2.2.2.2.2.1,(0:Int),v.2.2.2.2.2.2.2)) fun r64=>(.done (.inl (r64.1,r64.2.1,r64.2.2.1,r64.2.2.2.1,r64.2.2.2.2.1,r64.2.2.2.2.2.1,(IntKind.i64.wrap (r64.2.2.2.2.2.2.1+(1:Int))),r64.2.2.2.2.2.2.2)))) (.done (.inr ((v.1,v.2.1,v.2.2.1,v.2.2.2.1,v.2.2.2.2.2.1,v.2.2.2.2.2.2.2)))))
def qEU (n:Nat) (v:RW×Nat×Bool×Int×RW):Tr ((RW×Nat×Bool×Int×RW)⊕((RW×Nat×Bool×RW))):=(.ask ((decide (v.2.2.2.1<(v.1.length:Int)))) (.ask (decide (0≤v.2.2.2.1∧v.2.2.2.1<v.1.length)) (.opt (v.1[(v.2.2.2.1).toNat]?) fun e48=>(.ask (decide (e48.length=3)) (.opt (zB .i64 e48 0) fun y49=>(.opt (zB .i64 e48 1) fun y50=>(.ask (decide (v.2.1=v.2.2.2.2.length)) (.opt (qHJ n v.2.2.2.2 y49 y50) fun r51=>(.ask (zd (⟨(.c (.p (.b r51))),[],[]⟩:Res)) (.ask (r51) (.done (.inl (v.1,v.2.1,v.2.2.1,(IntKind.i64.wrap (v.2.2.2.1+(1:Int))),v.2.2.2.2))) (.ask (decide (0≤v.2.2.2.1∧v.2.2.2.1<v.1.length)) (.opt (v.1[(v.2.2.2.1).toNat]?) fun e52=>(.ask (decide (e52.length=3)) (.opt (zY e52 2) fun y53=>(.opt (qDo n y53) fun r54=>(.opt (zC (qCj n) n (v.1,v.2.1,v.2.2.1,v.2.2.2.1,r54,false,(0:Int),v.2.2.2.2)) fun r65=>(.ask (r65.2.2.2.2.1) (.ask (decide (0≤r65.2.2.2.1∧r65.2.2.2.1<r65.1.length)) (.opt (r65.1[(r65.2.2.2.1).toNat]?) fun e66=>(.ask (decide (e66.length=3)) (.opt (zB .i64 e66 0) fun y67=>(.opt (zB .i64 e66 1) fun y68=>(.ask (decide (1=([[(.i .i64 y67),(.i .i64 y68)]]:RW).length)) (.ask (decide (r65.2.1=r65.2.2.2.2.2.length∧0<2∧0<16∧(r65.2.1+([[(.i .i64 y67),(.i .i64 y68)]]:RW).length)*16≤140737488355328∧([[(.i .i64 y67),(.i .i64 y68)]]:RW).all (fun e=>e.length==2)=true)) (.done (.inl (r65.1,(r65.2.1+1),true,(IntKind.i64.wrap (r65.2.2.2.1+(1:Int))),(r65.2.2.2.2.2++([[(.i .i64 y67),(.i .i64 y68)]]:RW))))) .fail) .fail))) .fail)) .fail) (.done (.inl (r65.1,r65.2.1,r65.2.2.1,(IntKind.i64.wrap (r65.2.2.2.1+(1:Int))),r65.2.2.2.2.2))))))) .fail)) .fail)) .fail)) .fail))) .fail)) .fail) (.done (.inr ((v.1,v.2.1,v.2.2.1,v.2.2.2.2)))))
def qDd (n:Nat) (v:RW×Nat×Bool×RW):Tr ((RW×Nat×Bool×RW)⊕((RW×Nat×RW))):=(.ask (v.2.2.1) (.opt (zC (qEU n) n (v.1,v.2.1,false,(0:Int),v.2.2.2)) fun r69=>(.done (.inl (r69.1,r69.2.1,r69.2.2.1,r69.2.2.2)))) (.done (.inr ((v.1,v.2.1,v.2.2.2)))))
def qDH (n:Nat) (v:RW×Nat×Nat×Int×RW×RW):Tr ((RW×Nat×Nat×Int×RW×RW)⊕((Nat×RW))):=(.ask ((decide (v.2.2.2.1<(v.1.length:Int)))) (.ask (decide (0≤v.2.2.2.1∧v.2.2.2.1<v.1.length)) (.opt (v.1[(v.2.2.2.1).toNat]?) fun e71=>(.ask (decide (e71.length=3)) (.opt (zB .i64 e71 0) fun y72=>(.opt (zB .i64 e71 1) fun y73=>(.ask (decide (v.2.1=v.2.2.2.2.1.length)) (.opt (qHJ n v.2.2.2.2.1 y72 y73) fun r74=>(.ask (zd (⟨(.c (.p (.b r74))),[],[]⟩:Res)) (.ask (r74) (.ask (decide (0≤v.2.2.2.1∧v.2.2.2.1<v.1.length)) (.opt (v.1[(v.2.2.2.1).toNat]?) fun e75=>(.ask (decide (e75.length=3)) (.opt (zB .i64 e75 0) fun y76=>(.opt (zB .i64 e75 1) fun y77=>(.ask (decide (1=([[(.i .i64 y76),(.i .i64 y77)]]:RW).length)) (.ask (decide (v.2.2.1=v.2.2.2.2.2.length∧0<2∧0<16∧(v.2.2.1+([[(.i .i64 y76),(.i .i64 y77)]]:RW).length)*16≤140737488355328∧([[(.i .i64 y76),(.i .i64 y77)]]:RW).all (fun e=>e.length==2)=true)) (.done (.inl (v.1,v.2.1,(v.2.2.1+1),(IntKind.i64.wrap (v.2.2.2.1+(1:Int))),v.2.2.2.2.1,(v.2.2.2.2.2++([[(.i .i64 y76),(.i .i64 y77)]]:RW))))) .fail) .fail))) .fail)) .fail) (.done (.inl (v.1,v.2.1,v.2.2.1,(IntKind.i64.wrap (v.2.2.2.1+(1:Int))),v.2.2.2.2.1,v.2.2.2.2.2)))) .fail)) .fail))) .fail)) .fail) (.done (.inr ((v.2.2.1,v.2.2.2.2.2)))))
def qGB (n:Nat) (x0 x1:RW):Tr (Nat×RW):=(.ask (decide (0=([]:RW).length∧0<2∧0<16∧(0+x1.length)*16≤140737488355328∧x1.all (fun e=>e.length==2)=true)) (.opt (zC (qDd n) n (x0,(0+x1.length),true,(([]:RW)++x1))) fun r70=>(.opt (zC (qDH n) n (r70.1,r70.2.1,(0:Nat),(0:Int),r70.2.2,([]:RW))) fun r78=>(.done (r78.1,r78.2)))) .fail)
def qGC:Nat→RW→RW→Option (Nat×RW)
 |0,_,_=>none
 |n+1,x0,x1=>(qGB n x0 x1).run
abbrev qCr (n:Nat):List (Ent (Rn n)):= [en (qSE n),en (qPu n),en (qOd n)]
def qJM (n:Nat):LEnt (lb 30685 (lb 239 (lb 29 (KB 86)))) (Rn n) n:=lok (Uniq.pick (Uniq.pick (Uniq.pick (zK 86) 29) 239) 30685) 245485 ⟨⟨[(0,aL),(5,(.c (.own 0 896 0 0))),(6,aB),(7,aI),(8,aL),(9,aB),(10,aI),(11,aI)],[(896,⟨0,2,29,(.row [])⟩)],[]⟩,[(.exit 6,⟨[(0,aL),(5,(.c (.own 0 896 0 0))),(6,aB),(7,aI),(8,aL),(9,aB),(10,aI)],[(896,⟨0,2,29,(.row [])⟩)],[]⟩)]⟩ (qCR n) (qCr n) [] fun _=>(by kernel_rfl)
def qJm (n:Nat):LEnt (lb 239 (lb 29 (KB 86))) (Rn n) n:=lok (Uniq.pick (Uniq.pick (zK 86) 29) 239) 30685 ⟨⟨[(0,aL),(5,(.c (.own 0 896 0 0))),(6,aB),(7,aI),(8,aL),(9,aB),(10,aI)],[(896,⟨0,2,29,(.row [])⟩)],[]⟩,[(.exit 4,⟨[(0,aL),(5,(.c (.own 0 896 0 0))),(6,aB),(7,aI),(9,aB)],[(896,⟨0,2,29,(.row [])⟩)],[]⟩)]⟩ (qCj n) (qCr n) [qJM n] fun _=>(by kernel_rfl)
def qK6 (n:Nat):LEnt (lb 29 (KB 86)) (Rn n) n:=lok (Uniq.pick (zK 86) 29) 239 ⟨⟨[(0,aL),(5,(.c (.own 0 896 0 0))),(6,aB),(7,aI)],[(896,⟨0,2,29,(.row [])⟩)],[]⟩,[(.exit 2,⟨[(0,aL),(5,(.c (.own 0 896 0 0))),(6,aB)],[(896,⟨0,2,29,(.row [])⟩)],[]⟩)]⟩ (qEU n) (qCr n) [qJm n] fun _=>(by kernel_rfl)
def qL7 (n:Nat):LEnt (KB 86) (Rn n) n:=lok (zK 86) 29 ⟨⟨[(0,aL),(5,(.c (.own 0 896 0 0))),(6,aB)],[(896,⟨0,2,29,(.row [])⟩)],[]⟩,[(.exit 0,⟨[(0,aL),(5,(.c (.own 0 896 0 0)))],[(896,⟨0,2,29,(.row [])⟩)],[]⟩)]⟩ (qDd n) (qCr n) [qK6 n] fun _=>(by kernel_rfl)
def qK7 (n:Nat):LEnt (KB 86) (Rn n) n:=lok (zK 86) 125 ⟨⟨[(0,aL),(5,(.c (.own 0 896 0 0))),(12,(.c (.own 0 4480 0 0))),(13,aI)],[(896,⟨0,2,29,(.row [])⟩),(4480,⟨0,2,29,(.row [])⟩)],[]⟩,[(.exit 8,⟨[(12,(.c (.own 0 4480 0 0)))],[(4480,⟨0,2,29,(.row [])⟩)],[]⟩)]⟩ (qDH n) (qCr n) [] fun _=>(by kernel_rfl)
theorem qNf:∀n,Ok (Rn n) qOe (qGC n)
 |0=>ok0 fun _=>rfl
 |n+1=>stO (T:=qGB n) (by kernel_rfl) (qCr n) [qL7 n,qK7 n] (fun _=>(by kernel_rfl)) fun _=>(by kernel_rfl)
def qQ3:Sg:=⟨40,[aL,aL],[],⟨(.c (.own 0 0 0 0)),[],[⟨0,2,29,(.row [])⟩]⟩⟩
def qHj (n:Nat) (x0 x1:RW):Tr (Nat×RW):=(.opt (qHg n x0) fun r47=>(.ask ((!r47)) (.done ((0:Nat),([]:RW))) (.ask ((decide ((x1.length:Int)>(120:Int)))) (.done ((0:Nat),([]:RW))) (.opt (qGC n x0 x1) fun r79=>(.done (r79.1,r79.2))))))
def qHk:Nat→RW→RW→Option (Nat×RW)
 |0,_,_=>none
 |n+1,x0,x1=>(qHj n x0 x1).run
abbrev qQ4 (n:Nat):List (Ent (Rn n)):= [en (qPr n),en (qNf n)]
theorem qPx:∀n,Ok (Rn n) qQ3 (qHk n)
 |0=>ok0 fun _=>rfl
 |n+1=>stO (T:=qHj n) (by kernel_rfl) (qQ4 n) [] (fun _=>(by kernel_rfl)) fun _=>(by kernel_rfl)
def qSF:Sg:=⟨67,[aI,aI,aI],[],⟨aB,[],[]⟩⟩
def qIt (n:Nat) (x0 x1 x2:Int):Tr (Bool):=(.ask ((decide (x0≥x1))) (.done (decide (x0≤x2))) (.done false))
def qAW:Nat→Int→Int→Int→Option (Bool)
 |0,_,_,_=>none
 |n+1,x0,x1,x2=>(qIt n x0 x1 x2).run
theorem qDp:∀n,Ok (Rn n) qSF (qAW n)
 |0=>ok0 fun _=>rfl
 |n+1=>stO (T:=qIt n) (by kernel_rfl) [] [] (fun _=>(by kernel_rfl)) fun _=>(by kernel_rfl)
def qS4:Sg:=⟨89,[(.agg [qI,qI])],[],⟨aB,[],[]⟩⟩
def qJn (n:Nat) (x0 x1:Int):Tr (Bool):=(.opt (qAW n x0 (1:Int) (52:Int)) fun r87=>(.ask (r87) (.opt (qAW n x1 (1:Int) (99:Int)) fun r88=>(.done r88)) (.done false)))
def qCG:Nat→Int→Int→Option (Bool)
 |0,_,_=>none
 |n+1,x0,x1=>(qJn n x0 x1).run
abbrev qS5 (n:Nat):List (Ent (Rn n)):= [en (qDp n)]
theorem qGS:∀n,Ok (Rn n) qS4 (qCG n)
 |0=>ok0 fun _=>rfl
 |n+1=>stO (T:=qJn n) (by kernel_rfl) (qS5 n) [] (fun _=>(by kernel_rfl)) fun _=>(by kernel_rfl)
def qNg:Sg:=⟨166,[aI],[],⟨aB,[],[]⟩⟩
def qFh (n:Nat) (x0:Int):Tr (Bool):=(.done (x0 !=x0))
def qDI:Nat→Int→Option (Bool)
 |0,_=>none
 |n+1,x0=>(qFh n x0).run
theorem qMs:∀n,Ok (Rn n) qNg (qDI n)
 |0=>ok0 fun _=>rfl
 |n+1=>stO (T:=qFh n) (by kernel_rfl) [] [] (fun _=>(by kernel_rfl)) fun _=>(by kernel_rfl)
def qL8:Sg:=⟨132,[aI,aI],[],⟨aI,[],[]⟩⟩
def qEu (n:Nat) (x0 x1:Int):Tr (Int):=(.opt (qDI n x0) fun r93=>(.opt (qDI n x1) fun r94=>(.ask (r93) (.ask (r94) (.done (0:Int)) (.done (-1:Int))) (.ask (r94) (.done (1:Int)) (.ask ((decide (x0<x1))) (.done (-1:Int)) (.ask ((decide (x0>x1))) (.done (1:Int)) (.done (0:Int))))))))
def qCZ:Nat→Int→Int→Option (Int)
 |0,_,_=>none
 |n+1,x0,x1=>(qEu n x0 x1).run
abbrev qL9 (n:Nat):List (Ent (Rn n)):= [en (qMs n)]
theorem qK8:∀n,Ok (Rn n) qL8 (qCZ n)
 |0=>ok0 fun _=>rfl
 |n+1=>stO (T:=qEu n) (by kernel_rfl) (qL9 n) [] (fun _=>(by kernel_rfl)) fun _=>(by kernel_rfl)
def qS6:Sg:=⟨131,[aL],[],⟨aI,[],[]⟩⟩
def qDB (n:Nat) (v:Int×RW×Int×Int):Tr ((Int×RW×Int×Int)⊕((Int)⊕(Int))):=(.ask ((decide (v.2.2.2<v.2.2.1))) (.ask (decide (0≤v.2.2.2∧v.2.2.2<v.2.1.length)) (.opt (v.2.1[(v.2.2.2).toNat]?) fun e97=>(.ask (decide (e97.length=1)) (.opt (zB .i64 e97 0) fun y98=>(.ask ((y98 !=v.1)) (.done (.inr (.inl (y98)))) (.done (.inl (v.1,v.2.1,v.2.2.1,(IntKind.i64.wrap (v.2.2.2+(1:Int)))))))) .fail)) .fail) (.done (.inr (.inr (v.1)))))
def qJo (n:Nat) (x0:RW):Tr (Int):=(.opt (zC (qDB n) n ((0:Int),x0,(x0.length:Int),(0:Int))) fun r99=>(.alt r99 (fun r100=>(.done r100)) (fun r101=>(.done r101))))
def qHK:Nat→RW→Option (Int)
 |0,_=>none
 |n+1,x0=>(qJo n x0).run
def qPy (n:Nat):LEnt (KB 131) (Rn n) n:=lok (zK 131) 29 ⟨⟨[(3,aI),(6,aL),(7,aI),(8,aI)],[],[]⟩,[(.ret,⟨[(2,aI)],[],[]⟩),(.exit 0,⟨[(3,aI)],[],[]⟩)]⟩ (qDB n) [] [] fun _=>(by kernel_rfl)
theorem qSG:∀n,Ok (Rn n) qS6 (qHK n)
 |0=>ok0 fun _=>rfl
 |n+1=>stO (T:=qJo n) (by kernel_rfl) [] [qPy n] (fun _=>(by kernel_rfl)) fun _=>(by kernel_rfl)
def qMt:Sg:=⟨90,[(.agg [qI,qI]),(.agg [qI,qI])],[],⟨aI,[],[]⟩⟩
def qFG (n:Nat) (x0 x1 x2 x3:Int):Tr (Int):=(.opt (qCZ n x1 x3) fun r95=>(.opt (qCZ n x0 x2) fun r96=>(.ask (decide (2=([[(.i .i64 r95)],[(.i .i64 r96)]]:RW).length)) (.opt (qHK n ([[(.i .i64 r95)],[(.i .i64 r96)]]:RW)) fun r102=>(.ask (zd (⟨(.c (.p (.i .i64 r102))),[],[]⟩:Res)) (.done r102) .fail)) .fail)))
def qB7:Nat→Int→Int→Int→Int→Option (Int)
 |0,_,_,_,_=>none
 |n+1,x0,x1,x2,x3=>(qFG n x0 x1 x2 x3).run
abbrev qMu (n:Nat):List (Ent (Rn n)):= [en (qK8 n),en (qSG n)]
theorem qMA:∀n,Ok (Rn n) qMt (qB7 n)
 |0=>ok0 fun _=>rfl
 |n+1=>stO (T:=qFG n) (by kernel_rfl) (qMu n) [] (fun _=>(by kernel_rfl)) fun _=>(by kernel_rfl)
def qSH:Sg:=⟨158,[aS,aI],[],⟨aB,[],[]⟩⟩
def qB8 (n:Nat) (v:BA×Int×Int×Int):Tr ((BA×Int×Int×Int)⊕((Bool)⊕(BA×Int))):=(.ask ((decide (v.2.2.2<v.2.2.1))) (.ask (decide (0≤v.2.2.2)) (.opt (v.1.toList[(v.2.2.2).toNat]?) fun c104=>(.ask ((decide ((c104.toNat:Int)<(32:Int)))) (.done (.inr (.inl (false)))) (.ask (decide (0≤v.2.2.2)) (.opt (v.1.toList[(v.2.2.2).toNat]?) fun c105=>(.ask ((decide ((c105.toNat:Int)>(126:Int)))) (.done (.inr (.inl (false)))) (.done (.inl (v.1,v.2.1,v.2.2.1,(IntKind.i64.wrap (v.2.2.2+(1:Int)))))))) .fail))) .fail) (.done (.inr (.inr ((v.1,v.2.1))))))
def qIu (n:Nat) (x0:BA) (x1:Int):Tr (Bool):=(.opt (zC (qB8 n) n (x0,x1,(x0.size:Int),(0:Int))) fun r106=>(.alt r106 (fun r107=>(.done r107)) (fun r108=>(.done (decide ((r108.1.size:Int)≤r108.2))))))
def qDV:Nat→BA→Int→Option (Bool)
 |0,_,_=>none
 |n+1,x0,x1=>(qIu n x0 x1).run
def qOf (n:Nat):LEnt (KB 158) (Rn n) n:=lok (zK 158) 13 ⟨⟨[(0,aS),(1,aI),(7,aI),(8,aI)],[],[]⟩,[(.ret,⟨[(4,aB)],[],[]⟩),(.exit 0,⟨[(0,aS),(1,aI)],[],[]⟩)]⟩ (qB8 n) [] [] fun _=>(by kernel_rfl)
theorem qHl:∀n,Ok (Rn n) qSH (qDV n)
 |0=>ok0 fun _=>rfl
 |n+1=>stO (T:=qIu n) (by kernel_rfl) [] [qOf n] (fun _=>(by kernel_rfl)) fun _=>(by kernel_rfl)
def qG6:Sg:=⟨118,[aS,aS],[],⟨(.tup [(false,[qS]),(false,[qB])]),[],[]⟩⟩
def q7:Nat→BA→BA→Option ((BA×Bool))
 |0,_,_=>none
 |n+1,x0,x1=>zZ x0 x1
theorem qCK:∀n,Ok (Rn n) qG6 (q7 n)
 |0=>ok0 fun _=>rfl
 |n+1=>stL z8 (by kernel_rfl) (fun _ _=>rfl) (fun a r e=>congrArg (Option.map fun r=>(qG6.Of r).v) e) rfl rfl rfl
def qHm:Sg:=⟨197,[aS,aS],[],⟨aS,[],[]⟩⟩
def qBb:Nat→BA→BA→Option ((BA))
 |0,_,_=>none
 |n+1,x0,x1=>zR x0 x1
theorem qEv:∀n,Ok (Rn n) qHm (qBb n)
 |0=>ok0 fun _=>rfl
 |n+1=>stL zAD (by kernel_rfl) (fun _ _=>rfl) (fun a r e=>congrArg (Option.map fun r=>(qHm.Of r).v) e) rfl rfl rfl
def qK9:Sg:=⟨160,[(.c (.ptr 0 0 0 0 0))],[[(0,⟨0,3,198,(.box [qS,(.own 0 1 1 0),qB])⟩),(1,⟨1,14,162,(.row [])⟩)]],⟨(.tup []),[[(0,⟨0,3,198,(.box [qS,(.own 0 1 1 0),qB])⟩),(1,⟨1,14,162,(.row [])⟩)]],[]⟩⟩
def qEV (n:Nat) (x0:BA) (x1:Nat) (x2:Bool) (x3:RW):Tr (BA×Nat×Bool×RW):=(.opt (qBb n x0 (⟨#[32]⟩:BA)) fun r112=>(.done (r112,x1,x2,x3)))
def qBA:Nat→BA→Nat→Bool→RW→Option (BA×Nat×Bool×RW)
 |0,_,_,_,_=>none
 |n+1,x0,x1,x2,x3=>(qEV n x0 x1 x2 x3).run
abbrev qLA (n:Nat):List (Ent (Rn n)):= [en (qEv n)]
theorem qC3:∀n,Ok (Rn n) qK9 (qBA n)
 |0=>ok0 fun _=>rfl
 |n+1=>stO (T:=qEV n) (by kernel_rfl) (qLA n) [] (fun _=>(by kernel_rfl)) fun _=>(by kernel_rfl)
def qFi:Sg:=⟨190,[aS,aS],[],⟨aB,[],[]⟩⟩
def qA5 (n:Nat) (x0 x1:BA):Tr (Bool):=(.ask ((decide ((x0.size:Int)≥(x1.size:Int)))) (.ask (decide (0≤(0:Int)∧(0:Int)≤(x1.size:Int)∧(x1.size:Int)≤x0.size)) (.done ((x0.extract ((0:Int)).toNat ((x1.size:Int)).toNat).toList==x1.toList)) .fail) (.done false))
def qAF:Nat→BA→BA→Option (Bool)
 |0,_,_=>none
 |n+1,x0,x1=>(qA5 n x0 x1).run
theorem qC7:∀n,Ok (Rn n) qFi (qAF n)
 |0=>ok0 fun _=>rfl
 |n+1=>stO (T:=qA5 n) (by kernel_rfl) [] [] (fun _=>(by kernel_rfl)) fun _=>(by kernel_rfl)
def qMB:Sg:=⟨204,[aS,aS],[],⟨aB,[],[]⟩⟩
def qCa (n:Nat) (x0 x1:BA):Tr (Bool):=(.opt (qAF n x0 x1) fun r116=>(.done r116))
def qm:Nat→BA→BA→Option (Bool)
 |0,_,_=>none
 |n+1,x0,x1=>(qCa n x0 x1).run
abbrev qMC (n:Nat):List (Ent (Rn n)):= [en (qC7 n)]
theorem qDJ:∀n,Ok (Rn n) qMB (qm n)
 |0=>ok0 fun _=>rfl
 |n+1=>stO (T:=qCa n) (by kernel_rfl) (qMC n) [] (fun _=>(by kernel_rfl)) fun _=>(by kernel_rfl)
def qMv:Sg:=⟨192,[(.c (.ptr 0 0 0 0 0))],[[(0,⟨0,3,198,(.box [qS,(.own 0 1 1 0),qB])⟩),(1,⟨1,14,162,(.row [])⟩)]],⟨aS,[[(0,⟨0,3,198,(.box [qS,(.own 0 1 1 0),qB])⟩),(1,⟨1,14,162,(.row [])⟩)]],[]⟩⟩
def qC4 (n:Nat) (v:Nat×Int×Int×RW×BA×Nat×Bool×RW):Tr ((Nat×Int×Int×RW×BA×Nat×Bool×RW)⊕((BA×BA×Nat×Bool×RW)⊕(BA×Nat×Bool×RW))):=(.ask ((decide (v.2.2.1<v.2.1))) (.ask (decide (v.1=v.2.2.2.1.length∧0≤v.2.2.1∧v.2.2.1<((v.1:Nat):Int))) (.opt (v.2.2.2.1[(v.2.2.1).toNat]?) fun e114=>(.opt (zY e114 0) fun y115=>(.opt (qm n v.2.2.2.2.1 y115) fun r116=>(.ask (r116) (.done (.inr (.inl ((y115,v.2.2.2.2.1,v.2.2.2.2.2.1,v.2.2.2.2.2.2.1,v.2.2.2.2.2.2.2))))) (.done (.inl (v.1,v.2.1,(IntKind.i64.wrap (v.2.2.1+(1:Int))),v.2.2.2.1,v.2.2.2.2.1,v.2.2.2.2.2.1,v.2.2.2.2.2.2.1,v.2.2.2.2.2.2.2))))))) .fail) (.done (.inr (.inr ((v.2.2.2.2.1,v.2.2.2.2.2.1,v.2.2.2.2.2.2.1,v.2.2.2.2.2.2.2))))))
def qHn (n:Nat) (x0:BA) (x1:Nat) (x2:Bool) (x3:RW):Tr (BA×BA×Nat×Bool×RW):=(.opt (qBA n x0 x1 x2 x3) fun r113=>(.opt (zC (qC4 n) n ((15:Nat),(15:Int),(0:Int),([[(.s (⟨#[60,62]⟩:BA))],[(.s (⟨#[60,61]⟩:BA))],[(.s (⟨#[62,61]⟩:BA))],[(.s (⟨#[60]⟩:BA))],[(.s (⟨#[62]⟩:BA))],[(.s (⟨#[61]⟩:BA))],[(.s (⟨#[38]⟩:BA))],[(.s (⟨#[43]⟩:BA))],[(.s (⟨#[45]⟩:BA))],[(.s (⟨#[42]⟩:BA))],[(.s (⟨#[47]⟩:BA))],[(.s (⟨#[40]⟩:BA))],[(.s (⟨#[41]⟩:BA))],[(.s (⟨#[44]⟩:BA))],[(.s (⟨#[58]⟩:BA))]]:RW),r113.1,r113.2.1,r113.2.2.1,r113.2.2.2)) fun r117=>(.alt r117 (fun r118=>(.done (r118.1,r118.2.1,r118.2.2.1,r118.2.2.2.1,r118.2.2.2.2))) (fun r119=>(.done ((⟨#[]⟩:BA),r119.1,r119.2.1,r119.2.2.1,r119.2.2.2))))))
def qB9:Nat→BA→Nat→Bool→RW→Option (BA×BA×Nat×Bool×RW)
 |0,_,_,_,_=>none
 |n+1,x0,x1,x2,x3=>(qHn n x0 x1 x2 x3).run
abbrev qHo (n:Nat):List (Ent (Rn n)):= [en (qC3 n),en (qDJ n)]
def qKc (n:Nat):LEnt (KB 192) (Rn n) n:=lok (zK 192) 29 ⟨⟨[(0,(.c (.ptr 0 0 0 0 0))),(7,(.c (.own 1 448 0 0))),(8,aI),(9,aI)],[(448,⟨0,1,9,(.row [])⟩)],[[(0,⟨0,3,198,(.box [qS,(.own 0 1 1 0),qB])⟩),(1,⟨1,14,162,(.row [])⟩)]]⟩,[(.ret,⟨[(2,aS)],[],[[(0,⟨0,3,198,(.box [qS,(.own 0 1 1 0),qB])⟩),(1,⟨1,14,162,(.row [])⟩)]]⟩),(.exit 0,⟨[],[],[[(0,⟨0,3,198,(.box [qS,(.own 0 1 1 0),qB])⟩),(1,⟨1,14,162,(.row [])⟩)]]⟩)]⟩ (qC4 n) (qHo n) [] fun _=>(by kernel_rfl)
theorem qG7:∀n,Ok (Rn n) qMv (qB9 n)
 |0=>ok0 fun _=>rfl
 |n+1=>stO (T:=qHn n) (by kernel_rfl) (qHo n) [qKc n] (fun _=>(by kernel_rfl)) fun _=>(by kernel_rfl)
def qMw:Sg:=⟨195,[(.c (.ptr 0 0 0 0 0)),aS],[[(0,⟨0,3,198,(.box [qS,(.own 0 1 1 0),qB])⟩),(1,⟨1,14,162,(.row [])⟩)]],⟨aB,[[(0,⟨0,3,198,(.box [qS,(.own 0 1 1 0),qB])⟩),(1,⟨1,14,162,(.row [])⟩)]],[]⟩⟩
def qHp (n:Nat) (x0 x1:BA) (x2:Nat) (x3:Bool) (x4:RW):Tr (Bool×BA×Nat×Bool×RW):=(.opt (qB9 n x1 x2 x3 x4) fun r120=>(.ask ((!(r120.1.toList==x0.toList))) (.done (false,r120.2.1,r120.2.2.1,r120.2.2.2.1,r120.2.2.2.2)) (.ask (decide (0≤(x0.size:Int)∧(x0.size:Int)≤(r120.2.1.size:Int)∧(r120.2.1.size:Int)≤r120.2.1.size)) (.done (true,(r120.2.1.extract ((x0.size:Int)).toNat ((r120.2.1.size:Int)).toNat),r120.2.2.1,r120.2.2.2.1,r120.2.2.2.2)) .fail)))
def qr:Nat→BA→BA→Nat→Bool→RW→Option (Bool×BA×Nat×Bool×RW)
 |0,_,_,_,_,_=>none
 |n+1,x0,x1,x2,x3,x4=>(qHp n x0 x1 x2 x3 x4).run
abbrev qMx (n:Nat):List (Ent (Rn n)):= [en (qG7 n)]
theorem qCb:∀n,Ok (Rn n) qMw (qr n)
 |0=>ok0 fun _=>rfl
 |n+1=>stO (T:=qHp n) (by kernel_rfl) (qMx n) [] (fun _=>(by kernel_rfl)) fun _=>(by kernel_rfl)
def qNh:Sg:=⟨196,[(.c (.ptr 0 0 0 0 0)),(.agg [qI,qI,qI,qI,qS,qI,qI,qB,qB,qI,qI,qB,qB,qL])],[[(0,⟨0,3,198,(.box [qS,(.own 0 1 1 0),qB])⟩),(1,⟨1,14,162,(.row [])⟩)]],⟨aI,[[(0,⟨0,3,198,(.box [qS,(.own 0 1 1 0),qB])⟩),(1,⟨1,14,162,(.row [])⟩)]],[]⟩⟩
def qIP (n:Nat) (x0 x1 x2 x3:Int) (x4:BA) (x5 x6:Int) (x7 x8:Bool) (x9 x10:Int) (x11 x12:Bool) (x13:RW) (x14:BA) (x15:Nat) (x16:Bool) (x17:RW):Tr (Int×BA×Nat×Bool×RW):=(.ask (x16) (.ask (false) (.ask (decide (1=([[(.i .i64 x0),(.i .i64 x1),(.i .i64 x2),(.i .i64 x3),(.s x4),(.i .i64 x5),(.i .i64 x6),(.b x7),(.b x8),(.i .i64 x9),(.i .i64 x10),(.b x11),(.b x12),(.ls x13)]]:RW).length)) (.ask (decide (x15=x17.length∧0<14∧0<120∧(x15+([[(.i .i64 x0),(.i .i64 x1),(.i .i64 x2),(.i .i64 x3),(.s x4),(.i .i64 x5),(.i .i64 x6),(.b x7),(.b x8),(.i .i64 x9),(.i .i64 x10),(.b x11),(.b x12),(.ls x13)]]:RW).length)*120≤140737488355328∧([[(.i .i64 x0),(.i .i64 x1),(.i .i64 x2),(.i .i64 x3),(.s x4),(.i .i64 x5),(.i .i64 x6),(.b x7),(.b x8),(.i .i64 x9),(.i .i64 x10),(.b x11),(.b x12),(.ls x13)]]:RW).all (fun e=>e.length==14)=true)) (.done ((IntKind.i64.wrap ((((x15+1):Nat):Int)-(1:Int))),x14,(x15+1),true,(x17++([[(.i .i64 x0),(.i .i64 x1),(.i .i64 x2),(.i .i64 x3),(.s x4),(.i .i64 x5),(.i .i64 x6),(.b x7),(.b x8),(.i .i64 x9),(.i .i64 x10),(.b x11),(.b x12),(.ls x13)]]:RW)))) .fail) .fail) (.done ((IntKind.i64.wrap (((x15:Nat):Int)-(1:Int))),x14,x15,true,x17))) (.ask ((!(decide (((x15:Nat):Int)≥(60:Int))))) (.ask (decide (1=([[(.i .i64 x0),(.i .i64 x1),(.i .i64 x2),(.i .i64 x3),(.s x4),(.i .i64 x5),(.i .i64 x6),(.b x7),(.b x8),(.i .i64 x9),(.i .i64 x10),(.b x11),(.b x12),(.ls x13)]]:RW).length)) (.ask (decide (x15=x17.length∧0<14∧0<120∧(x15+([[(.i .i64 x0),(.i .i64 x1),(.i .i64 x2),(.i .i64 x3),(.s x4),(.i .i64 x5),(.i .i64 x6),(.b x7),(.b x8),(.i .i64 x9),(.i .i64 x10),(.b x11),(.b x12),(.ls x13)]]:RW).length)*120≤140737488355328∧([[(.i .i64 x0),(.i .i64 x1),(.i .i64 x2),(.i .i64 x3),(.s x4),(.i .i64 x5),(.i .i64 x6),(.b x7),(.b x8),(.i .i64 x9),(.i .i64 x10),(.b x11),(.b x12),(.ls x13)]]:RW).all (fun e=>e.length==14)=true)) (.done ((IntKind.i64.wrap ((((x15+1):Nat):Int)-(1:Int))),x14,(x15+1),(decide (((x15:Nat):Int)≥(60:Int))),(x17++([[(.i .i64 x0),(.i .i64 x1),(.i .i64 x2),(.i .i64 x3),(.s x4),(.i .i64 x5),(.i .i64 x6),(.b x7),(.b x8),(.i .i64 x9),(.i .i64 x10),(.b x11),(.b x12),(.ls x13)]]:RW)))) .fail) .fail) (.done ((IntKind.i64.wrap (((x15:Nat):Int)-(1:Int))),x14,x15,(decide (((x15:Nat):Int)≥(60:Int))),x17))))
def qt:Nat→Int→Int→Int→Int→BA→Int→Int→Bool→Bool→Int→Int→Bool→Bool→RW→BA→Nat→Bool→RW→Option (Int×BA×Nat×Bool×RW)
 |0,_,_,_,_,_,_,_,_,_,_,_,_,_,_,_,_,_,_=>none
 |n+1,x0,x1,x2,x3,x4,x5,x6,x7,x8,x9,x10,x11,x12,x13,x14,x15,x16,x17=>(qIP n x0 x1 x2 x3 x4 x5 x6 x7 x8 x9 x10 x11 x12 x13 x14 x15 x16 x17).run
theorem qCx:∀n,Ok (Rn n) qNh (qt n)
 |0=>ok0 fun _=>rfl
 |n+1=>stO (T:=qIP n) (by kernel_rfl) [] [] (fun _=>(by kernel_rfl)) fun _=>(by kernel_rfl)
def qMW:Sg:=⟨261,[aS,aS],[],⟨(.tup [(false,[qS]),(false,[qS]),(false,[qB])]),[],[]⟩⟩
def qIv:Nat→BA→BA→Option ((BA×BA×Bool))
 |0,_,_=>none
 |n+1,x0,x1=>zAT x0 x1
theorem qQ5:∀n,Ok (Rn n) qMW (qIv n)
 |0=>ok0 fun _=>rfl
 |n+1=>stL zAm (by kernel_rfl) (fun _ _=>rfl) (fun a r e=>congrArg (Option.map fun r=>(qMW.Of r).v) e) rfl rfl rfl
def qJp:Sg:=⟨244,[(.c (.ptr 0 0 0 0 0)),(.agg [qI,qI,qS])],[[(0,⟨0,3,198,(.box [qS,(.own 0 1 1 0),qB])⟩),(1,⟨1,14,162,(.row [])⟩)]],⟨aI,[[(0,⟨0,3,198,(.box [qS,(.own 0 1 1 0),qB])⟩),(1,⟨1,14,162,(.row [])⟩)]],[]⟩⟩
def qFj (n:Nat) (x0 x1:Int) (x2 x3:BA) (x4:Nat) (x5:Bool) (x6:RW):Tr (Int×BA×Nat×Bool×RW):=(.opt (qt n (1:Int) (0:Int) x0 x1 x2 (0:Int) (0:Int) false false (0:Int) (0:Int) false false ([]:RW) x3 x4 x5 x6) fun r131=>(.done (r131.1,r131.2.1,r131.2.2.1,r131.2.2.2.1,r131.2.2.2.2)))
def qk:Nat→Int→Int→BA→BA→Nat→Bool→RW→Option (Int×BA×Nat×Bool×RW)
 |0,_,_,_,_,_,_,_=>none
 |n+1,x0,x1,x2,x3,x4,x5,x6=>(qFj n x0 x1 x2 x3 x4 x5 x6).run
abbrev qJq (n:Nat):List (Ent (Rn n)):= [en (qCx n)]
theorem qFO:∀n,Ok (Rn n) qJp (qk n)
 |0=>ok0 fun _=>rfl
 |n+1=>stO (T:=qFj n) (by kernel_rfl) (qJq n) [] (fun _=>(by kernel_rfl)) fun _=>(by kernel_rfl)
def qLB:Sg:=⟨243,[(.c (.ptr 0 0 0 0 0))],[[(0,⟨0,3,198,(.box [qS,(.own 0 1 1 0),qB])⟩),(1,⟨1,14,162,(.row [])⟩)]],⟨aI,[[(0,⟨0,3,198,(.box [qS,(.own 0 1 1 0),qB])⟩),(1,⟨1,14,162,(.row [])⟩)]],[]⟩⟩
def qDq (n:Nat) (v:BA×BA×BA×Nat×Bool×RW):Tr ((BA×BA×BA×Nat×Bool×RW)⊕((Int×BA×Nat×Bool×RW)⊕(BA×BA×BA×Nat×Bool×RW))):=(.opt (qIv n v.2.1 (⟨#[34]⟩:BA)) fun r126=>(.ask ((!r126.2.2)) (.done (.inr (.inl (((-1:Int),v.2.2.1,v.2.2.2.1,true,v.2.2.2.2.2))))) (.ask (decide (v.1.size+r126.1.size≤9223372036854775807)) (.opt (qm n r126.2.1 (⟨#[34]⟩:BA)) fun r127=>(.ask ((!r127)) (.done (.inr (.inr (((v.1++r126.1),r126.2.1,v.2.2.1,v.2.2.2.1,v.2.2.2.2.1,v.2.2.2.2.2))))) (.ask (decide ((v.1++r126.1).size+(⟨#[34]⟩:BA).size≤9223372036854775807)) (.ask (decide (0≤(1:Int)∧(1:Int)≤(r126.2.1.size:Int)∧(r126.2.1.size:Int)≤r126.2.1.size)) (.done (.inl (((v.1++r126.1)++(⟨#[34]⟩:BA)),(r126.2.1.extract ((1:Int)).toNat ((r126.2.1.size:Int)).toNat),v.2.2.1,v.2.2.2.1,v.2.2.2.2.1,v.2.2.2.2.2))) .fail) .fail))) .fail)))
def qGX (n:Nat) (x0:BA) (x1:Nat) (x2:Bool) (x3:RW):Tr (Int×BA×Nat×Bool×RW):=(.ask (decide (0≤(1:Int)∧(1:Int)≤(x0.size:Int)∧(x0.size:Int)≤x0.size)) (.opt (zC (qDq n) n ((⟨#[]⟩:BA),(x0.extract ((1:Int)).toNat ((x0.size:Int)).toNat),x0,x1,x2,x3)) fun r128=>(.alt r128 (fun r129=>(.done (r129.1,r129.2.1,r129.2.2.1,r129.2.2.2.1,r129.2.2.2.2))) (fun r130=>(.opt (qk n (2:Int) (0:Int) r130.1 r130.2.1 r130.2.2.2.1 r130.2.2.2.2.1 r130.2.2.2.2.2) fun r132=>(.done (r132.1,r132.2.1,r132.2.2.1,r132.2.2.2.1,r132.2.2.2.2)))))) .fail)
def qEW:Nat→BA→Nat→Bool→RW→Option (Int×BA×Nat×Bool×RW)
 |0,_,_,_,_=>none
 |n+1,x0,x1,x2,x3=>(qGX n x0 x1 x2 x3).run
abbrev qGY (n:Nat):List (Ent (Rn n)):= [en (qQ5 n),en (qDJ n),en (qFO n)]
def qJN (n:Nat):LEnt (KB 243) (Rn n) n:=lok (zK 243) 14 ⟨⟨[(0,(.c (.ptr 0 0 0 0 0))),(3,aS),(4,aS)],[],[[(0,⟨0,3,198,(.box [qS,(.own 0 1 1 0),qB])⟩),(1,⟨1,14,162,(.row [])⟩)]]⟩,[(.ret,⟨[(2,aI)],[],[[(0,⟨0,3,198,(.box [qS,(.own 0 1 1 0),qB])⟩),(1,⟨1,14,162,(.row [])⟩)]]⟩),(.exit 0,⟨[(0,(.c (.ptr 0 0 0 0 0))),(3,aS),(4,aS)],[],[[(0,⟨0,3,198,(.box [qS,(.own 0 1 1 0),qB])⟩),(1,⟨1,14,162,(.row [])⟩)]]⟩)]⟩ (qDq n) (qGY n) [] fun _=>(by kernel_rfl)
theorem qKd:∀n,Ok (Rn n) qLB (qEW n)
 |0=>ok0 fun _=>rfl
 |n+1=>stO (T:=qGX n) (by kernel_rfl) (qGY n) [qJN n] (fun _=>(by kernel_rfl)) fun _=>(by kernel_rfl)
def qOg:Sg:=⟨205,[aI],[],⟨aS,[],[]⟩⟩
def qGD (n:Nat) (x0:Int):Tr (BA):=(.ask (decide (6=([[(.s (⟨#[]⟩:BA))],[(.s (⟨#[35,68,73,86,33]⟩:BA))],[(.s (⟨#[35,84,89,80,69,33]⟩:BA))],[(.s (⟨#[35,82,69,70,33]⟩:BA))],[(.s (⟨#[35,79,86,69,82,33]⟩:BA))],[(.s (⟨#[35,67,89,67,76,69,33]⟩:BA))]]:RW).length∧0≤x0∧x0<((6:Nat):Int))) (.opt (([[(.s (⟨#[]⟩:BA))],[(.s (⟨#[35,68,73,86,33]⟩:BA))],[(.s (⟨#[35,84,89,80,69,33]⟩:BA))],[(.s (⟨#[35,82,69,70,33]⟩:BA))],[(.s (⟨#[35,79,86,69,82,33]⟩:BA))],[(.s (⟨#[35,67,89,67,76,69,33]⟩:BA))]]:RW)[(x0).toNat]?) fun e135=>(.opt (zY e135 0) fun y136=>(.done y136))) .fail)
def qAq:Nat→Int→Option (BA)
 |0,_=>none
 |n+1,x0=>(qGD n x0).run
theorem qFk:∀n,Ok (Rn n) qOg (qAq n)
 |0=>ok0 fun _=>rfl
 |n+1=>stO (T:=qGD n) (by kernel_rfl) [] [] (fun _=>(by kernel_rfl)) fun _=>(by kernel_rfl)
def qS7:Sg:=⟨206,[aI],[],⟨(.agg [qI,qI,qS]),[],[]⟩⟩
def qJr (n:Nat) (x0:Int):Tr (Int×Int×BA):=(.done ((4:Int),x0,(⟨#[]⟩:BA)))
def qCH:Nat→Int→Option (Int×Int×BA)
 |0,_=>none
 |n+1,x0=>(qJr n x0).run
theorem qMX:∀n,Ok (Rn n) qS7 (qCH n)
 |0=>ok0 fun _=>rfl
 |n+1=>stO (T:=qJr n) (by kernel_rfl) [] [] (fun _=>(by kernel_rfl)) fun _=>(by kernel_rfl)
def qMy:Sg:=⟨245,[(.c (.ptr 0 0 0 0 0))],[[(0,⟨0,3,198,(.box [qS,(.own 0 1 1 0),qB])⟩),(1,⟨1,14,162,(.row [])⟩)]],⟨aS,[[(0,⟨0,3,198,(.box [qS,(.own 0 1 1 0),qB])⟩),(1,⟨1,14,162,(.row [])⟩)]],[]⟩⟩
def qHq (n:Nat) (x0:BA) (x1:Nat) (x2:Bool) (x3:RW):Tr (BA×BA×Nat×Bool×RW):=(.opt (qBA n x0 x1 x2 x3) fun r142=>(.opt (qBb n r142.1 (⟨#[65,66,67,68,69,70,71,72,73,74,75,76,77,78,79,80,81,82,83,84,85,86,87,88,89,90,48,49,50,51,52,53,54,55,56,57,36]⟩:BA)) fun r143=>(.ask (decide (0≤(0:Int)∧(0:Int)≤(IntKind.i64.wrap ((r142.1.size:Int)-(r143.size:Int)))∧(IntKind.i64.wrap ((r142.1.size:Int)-(r143.size:Int)))≤r142.1.size)) (.ask (decide (0≤(IntKind.i64.wrap ((r142.1.size:Int)-(r143.size:Int)))∧(IntKind.i64.wrap ((r142.1.size:Int)-(r143.size:Int)))≤(r142.1.size:Int)∧(r142.1.size:Int)≤r142.1.size)) (.done ((r142.1.extract ((0:Int)).toNat ((IntKind.i64.wrap ((r142.1.size:Int)-(r143.size:Int)))).toNat),(r142.1.extract ((IntKind.i64.wrap ((r142.1.size:Int)-(r143.size:Int)))).toNat ((r142.1.size:Int)).toNat),r142.2.1,r142.2.2.1,r142.2.2.2)) .fail) .fail)))
def qBc:Nat→BA→Nat→Bool→RW→Option (BA×BA×Nat×Bool×RW)
 |0,_,_,_,_=>none
 |n+1,x0,x1,x2,x3=>(qHq n x0 x1 x2 x3).run
abbrev qMz (n:Nat):List (Ent (Rn n)):= [en (qC3 n),en (qEv n)]
theorem qG8:∀n,Ok (Rn n) qMy (qBc n)
 |0=>ok0 fun _=>rfl
 |n+1=>stO (T:=qHq n) (by kernel_rfl) (qMz n) [] (fun _=>(by kernel_rfl)) fun _=>(by kernel_rfl)
def qQ6:Sg:=⟨170,[(.agg [qI,qI,qS])],[],⟨aB,[],[]⟩⟩
def qHr (n:Nat) (x0 x1:Int) (x2:BA):Tr (Bool):=(.ask ((x0==(2:Int))) (.ask ((x1==(0:Int))) (.opt (qDV n x2 (200:Int)) fun r146=>(.done r146)) (.done false)) (.ask ((!(x2.toList==(⟨#[]⟩:BA).toList))) (.done false) (.ask ((x0==(0:Int))) (.done (x1==(0:Int))) (.ask ((x0==(1:Int))) (.opt (qAW n x1 (-1000000000000000:Int) (1000000000000000:Int)) fun r147=>(.done r147)) (.ask ((x0==(3:Int))) (.opt (qAW n x1 (0:Int) (1:Int)) fun r148=>(.done r148)) (.ask ((x0==(4:Int))) (.opt (qAW n x1 (1:Int) (5:Int)) fun r149=>(.done r149)) (.done false)))))))
def qAc:Nat→Int→Int→BA→Option (Bool)
 |0,_,_,_=>none
 |n+1,x0,x1,x2=>(qHr n x0 x1 x2).run
abbrev qQ7 (n:Nat):List (Ent (Rn n)):= [en (qHl n),en (qDp n)]
theorem qGr:∀n,Ok (Rn n) qQ6 (qAc n)
 |0=>ok0 fun _=>rfl
 |n+1=>stO (T:=qHr n) (by kernel_rfl) (qQ7 n) [] (fun _=>(by kernel_rfl)) fun _=>(by kernel_rfl)
def qG9:Sg:=⟨144,[aI,aI],[],⟨aS,[],[]⟩⟩
def qEw:Nat→Int→Int→Option ((BA))
 |0,_,_=>none
 |n+1,x0,x1=>zh x0 x1
theorem qLC:∀n,Ok (Rn n) qG9 (qEw n)
 |0=>ok0 fun _=>rfl
 |n+1=>stL z0 (by kernel_rfl) (fun _ _=>rfl) (fun a r e=>congrArg (Option.map fun r=>(qG9.Of r).v) e) rfl rfl rfl
def qQ8:Sg:=⟨103,[aI],[],⟨aS,[],[]⟩⟩
def qHs (n:Nat) (x0:Int):Tr (BA):=(.opt (qEw n x0 (10:Int)) fun r151=>(.done r151))
def qBS:Nat→Int→Option (BA)
 |0,_=>none
 |n+1,x0=>(qHs n x0).run
abbrev qQ9 (n:Nat):List (Ent (Rn n)):= [en (qLC n)]
theorem qGs:∀n,Ok (Rn n) qQ8 (qBS n)
 |0=>ok0 fun _=>rfl
 |n+1=>stO (T:=qHs n) (by kernel_rfl) (qQ9 n) [] (fun _=>(by kernel_rfl)) fun _=>(by kernel_rfl)
def qOh:Sg:=⟨207,[(.agg [qI,qI,qS])],[],⟨aS,[],[]⟩⟩
def qCA (n:Nat) (x0 x1:Int) (x2:BA):Tr (BA):=(.ask ((x0==(1:Int))) (.opt (qBS n x1) fun r152=>(.done r152)) (.ask ((x0==(2:Int))) (.ask (decide ((⟨#[39]⟩:BA).size+x2.size≤9223372036854775807)) (.done ((⟨#[39]⟩:BA)++x2)) .fail) (.ask ((x0==(3:Int))) (.ask (decide (2=([[(.s (⟨#[70,65,76,83,69]⟩:BA))],[(.s (⟨#[84,82,85,69]⟩:BA))]]:RW).length∧0≤x1∧x1<((2:Nat):Int))) (.opt (([[(.s (⟨#[70,65,76,83,69]⟩:BA))],[(.s (⟨#[84,82,85,69]⟩:BA))]]:RW)[(x1).toNat]?) fun e153=>(.opt (zY e153 0) fun y154=>(.done y154))) .fail) (.ask ((x0==(4:Int))) (.opt (qAq n x1) fun r155=>(.done r155)) (.done (⟨#[]⟩:BA))))))
def qu:Nat→Int→Int→BA→Option (BA)
 |0,_,_,_=>none
 |n+1,x0,x1,x2=>(qCA n x0 x1 x2).run
abbrev qOi (n:Nat):List (Ent (Rn n)):= [en (qGs n),en (qFk n)]
theorem qIQ:∀n,Ok (Rn n) qOh (qu n)
 |0=>ok0 fun _=>rfl
 |n+1=>stO (T:=qCA n) (by kernel_rfl) (qOi n) [] (fun _=>(by kernel_rfl)) fun _=>(by kernel_rfl)
def qS8:Sg:=⟨203,[aB],[],⟨(.agg [qI,qI,qS]),[],[]⟩⟩
def qJs (n:Nat) (x0:Bool):Tr (Int×Int×BA):=(.ask (x0) (.done ((3:Int),(1:Int),(⟨#[]⟩:BA))) (.done ((3:Int),(0:Int),(⟨#[]⟩:BA))))
def qFl:Nat→Bool→Option (Int×Int×BA)
 |0,_=>none
 |n+1,x0=>(qJs n x0).run
theorem qSI:∀n,Ok (Rn n) qS8 (qFl n)
 |0=>ok0 fun _=>rfl
 |n+1=>stO (T:=qJs n) (by kernel_rfl) [] [] (fun _=>(by kernel_rfl)) fun _=>(by kernel_rfl)
def qM0:Sg2:=⟨168,[aS,aI,aI],(.tup [(false,[qI]),(false,[(.p .nif)])]),(.tup [(false,[qI]),(false,[(.p .ifc)])])⟩
def qBB:Nat→BA→Int→Int→Option ((Int)⊕(Int))
 |0,_,_,_=>none
 |n+1,x0,x1,x2=>zM x0 x1 x2
theorem qEx:∀n,Ok2 (Rn n) qM0 (qBB n)
 |0=>fun a r e=>by cases e
 |n+1=>zKu zAC (by kernel_rfl) (fun _ _=>rfl) fun a r e=>by
  rcases r with r|r
  ·exact congrArg (Option.map zAH) e
  ·exact congrArg (Option.map zAH) e
def qSJ:Sg:=⟨171,[aI],[],⟨(.agg [qI,qI,qS]),[],[]⟩⟩
def qIw (n:Nat) (x0:Int):Tr (Int×Int×BA):=(.done ((1:Int),x0,(⟨#[]⟩:BA)))
def qDW:Nat→Int→Option (Int×Int×BA)
 |0,_=>none
 |n+1,x0=>(qIw n x0).run
theorem qLD:∀n,Ok (Rn n) qSJ (qDW n)
 |0=>ok0 fun _=>rfl
 |n+1=>stO (T:=qIw n) (by kernel_rfl) [] [] (fun _=>(by kernel_rfl)) fun _=>(by kernel_rfl)
def qOj:Sg:=⟨172,[aS],[],⟨(.tup [(true,[qI,qI,qS]),(false,[qB])]),[],[]⟩⟩
def qBR (n:Nat) (v:BA×Int×Int×Int×BA×Int×Int×BA):Tr ((BA×Int×Int×Int×BA×Int×Int×BA)⊕((BA×Int×Int×BA×Int×Int×BA))):=(.ask ((decide (v.2.1≤(5:Int)))) (.opt (qAq n v.2.1) fun r164=>(.ask ((r164.toList==v.1.toList)) (.opt (qCH n v.2.1) fun r165=>(.done (.inl (v.1,(IntKind.i64.wrap (v.2.1+(1:Int))),v.2.2.1,v.2.2.2.1,v.2.2.2.2.1,r165.1,r165.2.1,r165.2.2)))) (.done (.inl (v.1,(IntKind.i64.wrap (v.2.1+(1:Int))),v.2.2.1,v.2.2.2.1,v.2.2.2.2.1,v.2.2.2.2.2.1,v.2.2.2.2.2.2.1,v.2.2.2.2.2.2.2))))) (.done (.inr ((v.1,v.2.2.1,v.2.2.2.1,v.2.2.2.2.1,v.2.2.2.2.2.1,v.2.2.2.2.2.2.1,v.2.2.2.2.2.2.2)))))
def qBf (n:Nat) (x0:BA):Tr (Int×Int×BA×Bool):=(.opt (q7 n x0 (⟨#[39]⟩:BA)) fun r145=>(.ask (r145.2) (.opt (qAc n (2:Int) (0:Int) r145.1) fun r150=>(.ask ((!r150)) (.done ((0:Int),(0:Int),(⟨#[]⟩:BA),false)) (.opt (qu n (2:Int) (0:Int) r145.1) fun r156=>(.ask ((!(r156.toList==x0.toList))) (.done ((0:Int),(0:Int),(⟨#[]⟩:BA),false)) (.done ((2:Int),(0:Int),r145.1,true)))))) (.ask ((x0.toList==(⟨#[70,65,76,83,69]⟩:BA).toList)) (.opt (qFl n (x0.toList==(⟨#[84,82,85,69]⟩:BA).toList)) fun r157=>(.opt (qAc n r157.1 r157.2.1 r157.2.2) fun r158=>(.ask ((!r158)) (.done ((0:Int),(0:Int),(⟨#[]⟩:BA),false)) (.opt (qu n r157.1 r157.2.1 r157.2.2) fun r159=>(.ask ((!(r159.toList==x0.toList))) (.done ((0:Int),(0:Int),(⟨#[]⟩:BA),false)) (.done (r157.1,r157.2.1,r157.2.2,true))))))) (.ask ((x0.toList==(⟨#[84,82,85,69]⟩:BA).toList)) (.opt (qFl n (x0.toList==(⟨#[84,82,85,69]⟩:BA).toList)) fun r160=>(.opt (qAc n r160.1 r160.2.1 r160.2.2) fun r161=>(.ask ((!r161)) (.done ((0:Int),(0:Int),(⟨#[]⟩:BA),false)) (.opt (qu n r160.1 r160.2.1 r160.2.2) fun r162=>(.ask ((!(r162.toList==x0.toList))) (.done ((0:Int),(0:Int),(⟨#[]⟩:BA),false)) (.done (r160.1,r160.2.1,r160.2.2,true))))))) (.opt (qm n x0 (⟨#[35]⟩:BA)) fun r163=>(.ask (r163) (.opt (zC (qBR n) n (x0,(1:Int),(0:Int),(0:Int),(⟨#[]⟩:BA),(0:Int),(0:Int),(⟨#[]⟩:BA))) fun r166=>(.opt (qAc n r166.2.2.2.2.1 r166.2.2.2.2.2.1 r166.2.2.2.2.2.2) fun r167=>(.ask ((!r167)) (.done ((0:Int),(0:Int),(⟨#[]⟩:BA),false)) (.opt (qu n r166.2.2.2.2.1 r166.2.2.2.2.2.1 r166.2.2.2.2.2.2) fun r168=>(.ask ((!(r168.toList==r166.1.toList))) (.done ((0:Int),(0:Int),(⟨#[]⟩:BA),false)) (.done (r166.2.2.2.2.1,r166.2.2.2.2.2.1,r166.2.2.2.2.2.2,true))))))) (.ask ((!(x0.toList==(⟨#[]⟩:BA).toList))) (.opt (qBB n x0 (10:Int) (64:Int)) fun r169=>(.alt r169 (fun r170=>(.opt (qDW n r170) fun r172=>(.opt (qAc n r172.1 r172.2.1 r172.2.2) fun r173=>(.ask ((!r173)) (.done ((0:Int),(0:Int),(⟨#[]⟩:BA),false)) (.opt (qu n r172.1 r172.2.1 r172.2.2) fun r174=>(.ask ((!(r174.toList==x0.toList))) (.done ((0:Int),(0:Int),(⟨#[]⟩:BA),false)) (.done (r172.1,r172.2.1,r172.2.2,true)))))))) (fun r171=>(.opt (qDW n r171) fun r175=>(.opt (qAc n r175.1 r175.2.1 r175.2.2) fun r176=>(.ask ((!r176)) (.done ((0:Int),(0:Int),(⟨#[]⟩:BA),false)) (.opt (qu n r175.1 r175.2.1 r175.2.2) fun r177=>(.ask ((!(r177.toList==x0.toList))) (.done ((0:Int),(0:Int),(⟨#[]⟩:BA),false)) (.done (r175.1,r175.2.1,r175.2.2,true)))))))))) (.opt (qAc n (0:Int) (0:Int) (⟨#[]⟩:BA)) fun r178=>(.ask ((!r178)) (.done ((0:Int),(0:Int),(⟨#[]⟩:BA),false)) (.opt (qu n (0:Int) (0:Int) (⟨#[]⟩:BA)) fun r179=>(.ask ((!(r179.toList==x0.toList))) (.done ((0:Int),(0:Int),(⟨#[]⟩:BA),false)) (.done ((0:Int),(0:Int),(⟨#[]⟩:BA),true)))))))))))))
def qf:Nat→BA→Option (Int×Int×BA×Bool)
 |0,_=>none
 |n+1,x0=>(qBf n x0).run
abbrev qJO (n:Nat):List (Ent (Rn n)):= [en (qCK n),en (qGr n),en (qIQ n),en (qSI n),en (qDJ n),en (qFk n),en (qMX n),en2 (qEx n),en (qLD n)]
def qKe (n:Nat):LEnt (KB 172) (Rn n) n:=lok (zK 172) 3837 ⟨⟨[(0,aS),(2,(.c (.ptr 0 128 0 0 0))),(4,(.c (.ptr 0 256 0 0 0))),(7,aI)],[(128,⟨0,3,128,(.box [qI,qI,qS])⟩),(256,⟨0,3,128,(.box [qI,qI,qS])⟩)],[]⟩,[(.exit 1,⟨[(0,aS),(2,(.c (.ptr 0 128 0 0 0))),(4,(.c (.ptr 0 256 0 0 0)))],[(128,⟨0,3,128,(.box [qI,qI,qS])⟩),(256,⟨0,3,128,(.box [qI,qI,qS])⟩)],[]⟩)]⟩ (qBR n) (qJO n) [] fun _=>(by kernel_rfl)
theorem qIR:∀n,Ok (Rn n) qOj (qf n)
 |0=>ok0 fun _=>rfl
 |n+1=>stO (T:=qBf n) (by kernel_rfl) (qJO n) [qKe n] (fun _=>(by kernel_rfl)) fun _=>(by kernel_rfl)
def qRA:Sg:=⟨184,[aI],[],⟨aS,[],[]⟩⟩
def qEX (n:Nat) (x0:Int):Tr (BA):=(.opt (qAW n x0 (1:Int) (52:Int)) fun r185=>(.ask ((!r185)) (.done (⟨#[]⟩:BA)) (.ask ((decide (x0≤(26:Int)))) (.ask (decide (1=([[(.i .u8 (IntKind.u8.wrap (IntKind.i64.wrap ((IntKind.i64.wrap ((65:Int)+x0))-(1:Int)))))]]:RW).length)) (.opt (bytesOf ([[(.i .u8 (IntKind.u8.wrap (IntKind.i64.wrap ((IntKind.i64.wrap ((65:Int)+x0))-(1:Int)))))]]:RW)) fun l186=>(.done (⟨l186.toArray⟩:BA))) .fail) (.ask (decide (2=([[(.i .u8 (IntKind.u8.wrap (IntKind.i64.wrap ((IntKind.i64.wrap ((65:Int)+(IntKind.i64.wrap (Int.tdiv (IntKind.i64.wrap (x0-(1:Int))) (26:Int)))))-(1:Int)))))],[(.i .u8 (IntKind.u8.wrap (IntKind.i64.wrap ((65:Int)+(Int.tmod (IntKind.i64.wrap (x0-(1:Int))) (26:Int))))))]]:RW).length)) (.opt (bytesOf ([[(.i .u8 (IntKind.u8.wrap (IntKind.i64.wrap ((IntKind.i64.wrap ((65:Int)+(IntKind.i64.wrap (Int.tdiv (IntKind.i64.wrap (x0-(1:Int))) (26:Int)))))-(1:Int)))))],[(.i .u8 (IntKind.u8.wrap (IntKind.i64.wrap ((65:Int)+(Int.tmod (IntKind.i64.wrap (x0-(1:Int))) (26:Int))))))]]:RW)) fun l187=>(.done (⟨l187.toArray⟩:BA))) .fail))))
def qCL:Nat→Int→Option (BA)
 |0,_=>none
 |n+1,x0=>(qEX n x0).run
abbrev qRB (n:Nat):List (Ent (Rn n)):= [en (qDp n)]
theorem qKO:∀n,Ok (Rn n) qRA (qCL n)
 |0=>ok0 fun _=>rfl
 |n+1=>stO (T:=qEX n) (by kernel_rfl) (qRB n) [] (fun _=>(by kernel_rfl)) fun _=>(by kernel_rfl)
def qRC:Sg:=⟨262,[aS],[],⟨aI,[],[]⟩⟩
def qDK (n:Nat) (v:BA×Int):Tr ((BA×Int)⊕((Int)⊕(Unit))):=(.ask ((decide (v.2≤(52:Int)))) (.opt (qCL n v.2) fun r185=>(.ask ((r185.toList==v.1.toList)) (.done (.inr (.inl (v.2)))) (.done (.inl (v.1,(IntKind.i64.wrap (v.2+(1:Int)))))))) (.done (.inr (.inr (())))))
def qHt (n:Nat) (x0:BA):Tr (Int):=(.opt (zC (qDK n) n (x0,(1:Int))) fun r186=>(.alt r186 (fun r187=>(.done r187)) (fun r188=>(.done (0:Int)))))
def qFm:Nat→BA→Option (Int)
 |0,_=>none
 |n+1,x0=>(qHt n x0).run
abbrev qLE (n:Nat):List (Ent (Rn n)):= [en (qKO n)]
def qNi (n:Nat):LEnt (KB 262) (Rn n) n:=lok (zK 262) 13 ⟨⟨[(0,aS),(3,aI)],[],[]⟩,[(.ret,⟨[(2,aI)],[],[]⟩),(.exit 0,⟨[],[],[]⟩)]⟩ (qDK n) (qLE n) [] fun _=>(by kernel_rfl)
theorem qPz:∀n,Ok (Rn n) qRC (qFm n)
 |0=>ok0 fun _=>rfl
 |n+1=>stO (T:=qHt n) (by kernel_rfl) (qLE n) [qNi n] (fun _=>(by kernel_rfl)) fun _=>(by kernel_rfl)
def qOk:Sg:=⟨143,[(.agg [qI,qI,qB,qB])],[],⟨aS,[],[]⟩⟩
def qEj (n:Nat) (x0 x1:Int) (x2 x3:Bool):Tr (BA):=(.opt (qCG n x0 x1) fun r195=>(.ask ((!r195)) (.done (⟨#[]⟩:BA)) (.ask (x2) (.opt (qCL n x0) fun r196=>(.ask (decide ((⟨#[36]⟩:BA).size+r196.size≤9223372036854775807)) (.ask (x3) (.ask (decide (((⟨#[36]⟩:BA)++r196).size+(⟨#[36]⟩:BA).size≤9223372036854775807)) (.opt (qBS n x1) fun r197=>(.ask (decide ((((⟨#[36]⟩:BA)++r196)++(⟨#[36]⟩:BA)).size+r197.size≤9223372036854775807)) (.done ((((⟨#[36]⟩:BA)++r196)++(⟨#[36]⟩:BA))++r197)) .fail)) .fail) (.opt (qBS n x1) fun r198=>(.ask (decide (((⟨#[36]⟩:BA)++r196).size+r198.size≤9223372036854775807)) (.done (((⟨#[36]⟩:BA)++r196)++r198)) .fail))) .fail)) (.opt (qCL n x0) fun r199=>(.ask (decide ((⟨#[]⟩:BA).size+r199.size≤9223372036854775807)) (.ask (x3) (.ask (decide (((⟨#[]⟩:BA)++r199).size+(⟨#[36]⟩:BA).size≤9223372036854775807)) (.opt (qBS n x1) fun r200=>(.ask (decide ((((⟨#[]⟩:BA)++r199)++(⟨#[36]⟩:BA)).size+r200.size≤9223372036854775807)) (.done ((((⟨#[]⟩:BA)++r199)++(⟨#[36]⟩:BA))++r200)) .fail)) .fail) (.opt (qBS n x1) fun r201=>(.ask (decide (((⟨#[]⟩:BA)++r199).size+r201.size≤9223372036854775807)) (.done (((⟨#[]⟩:BA)++r199)++r201)) .fail))) .fail)))))
def qBM:Nat→Int→Int→Bool→Bool→Option (BA)
 |0,_,_,_,_=>none
 |n+1,x0,x1,x2,x3=>(qEj n x0 x1 x2 x3).run
abbrev qOl (n:Nat):List (Ent (Rn n)):= [en (qGS n),en (qKO n),en (qGs n)]
theorem qIS:∀n,Ok (Rn n) qOk (qBM n)
 |0=>ok0 fun _=>rfl
 |n+1=>stO (T:=qEj n) (by kernel_rfl) (qOl n) [] (fun _=>(by kernel_rfl)) fun _=>(by kernel_rfl)
def qOm:Sg:=⟨246,[aS],[],⟨(.tup [(true,[qI,qI,qB,qB]),(false,[qB])]),[],[]⟩⟩
def qGE (n:Nat) (x0:BA):Tr (Int×Int×Bool×Bool×Bool):=(.opt (q7 n x0 (⟨#[36]⟩:BA)) fun r183=>(.opt (qBb n r183.1 (⟨#[65,66,67,68,69,70,71,72,73,74,75,76,77,78,79,80,81,82,83,84,85,86,87,88,89,90]⟩:BA)) fun r184=>(.ask (decide (0≤(0:Int)∧(0:Int)≤(IntKind.i64.wrap ((r183.1.size:Int)-(r184.size:Int)))∧(IntKind.i64.wrap ((r183.1.size:Int)-(r184.size:Int)))≤r183.1.size)) (.opt (qFm n (r183.1.extract ((0:Int)).toNat ((IntKind.i64.wrap ((r183.1.size:Int)-(r184.size:Int)))).toNat)) fun r189=>(.ask (decide (0≤(IntKind.i64.wrap ((r183.1.size:Int)-(r184.size:Int)))∧(IntKind.i64.wrap ((r183.1.size:Int)-(r184.size:Int)))≤(r183.1.size:Int)∧(r183.1.size:Int)≤r183.1.size)) (.opt (q7 n (r183.1.extract ((IntKind.i64.wrap ((r183.1.size:Int)-(r184.size:Int)))).toNat ((r183.1.size:Int)).toNat) (⟨#[36]⟩:BA)) fun r190=>(.opt (qBB n r190.1 (10:Int) (64:Int)) fun r191=>(.alt r191 (fun r192=>(.opt (qCG n r189 r192) fun r194=>(.ask ((!r194)) (.done ((0:Int),(0:Int),false,false,false)) (.opt (qBM n r189 r192 r183.2 r190.2) fun r202=>(.ask ((!(r202.toList==x0.toList))) (.done ((0:Int),(0:Int),false,false,false)) (.done (r189,r192,r183.2,r190.2,true))))))) (fun r193=>(.opt (qCG n r189 r193) fun r203=>(.ask ((!r203)) (.done ((0:Int),(0:Int),false,false,false)) (.opt (qBM n r189 r193 r183.2 r190.2) fun r204=>(.ask ((!(r204.toList==x0.toList))) (.done ((0:Int),(0:Int),false,false,false)) (.done (r189,r193,r183.2,r190.2,true)))))))))) .fail)) .fail)))
def qAr:Nat→BA→Option (Int×Int×Bool×Bool×Bool)
 |0,_=>none
 |n+1,x0=>(qGE n x0).run
abbrev qOn (n:Nat):List (Ent (Rn n)):= [en (qCK n),en (qEv n),en (qPz n),en2 (qEx n),en (qGS n),en (qIS n)]
theorem qIT:∀n,Ok (Rn n) qOm (qAr n)
 |0=>ok0 fun _=>rfl
 |n+1=>stO (T:=qGE n) (by kernel_rfl) (qOn n) [] (fun _=>(by kernel_rfl)) fun _=>(by kernel_rfl)
def qSK:Sg:=⟨247,[aI],[],⟨aS,[],[]⟩⟩
def qIx (n:Nat) (x0:Int):Tr (BA):=(.ask (decide (11=([[(.s (⟨#[]⟩:BA))],[(.s (⟨#[83,85,77]⟩:BA))],[(.s (⟨#[77,73,78]⟩:BA))],[(.s (⟨#[77,65,88]⟩:BA))],[(.s (⟨#[67,79,85,78,84]⟩:BA))],[(.s (⟨#[73,70]⟩:BA))],[(.s (⟨#[65,78,68]⟩:BA))],[(.s (⟨#[79,82]⟩:BA))],[(.s (⟨#[78,79,84]⟩:BA))],[(.s (⟨#[65,66,83]⟩:BA))],[(.s (⟨#[76,69,78]⟩:BA))]]:RW).length∧0≤x0∧x0<((11:Nat):Int))) (.opt (([[(.s (⟨#[]⟩:BA))],[(.s (⟨#[83,85,77]⟩:BA))],[(.s (⟨#[77,73,78]⟩:BA))],[(.s (⟨#[77,65,88]⟩:BA))],[(.s (⟨#[67,79,85,78,84]⟩:BA))],[(.s (⟨#[73,70]⟩:BA))],[(.s (⟨#[65,78,68]⟩:BA))],[(.s (⟨#[79,82]⟩:BA))],[(.s (⟨#[78,79,84]⟩:BA))],[(.s (⟨#[65,66,83]⟩:BA))],[(.s (⟨#[76,69,78]⟩:BA))]]:RW)[(x0).toNat]?) fun e207=>(.opt (zY e207 0) fun y208=>(.done y208))) .fail)
def qCo:Nat→Int→Option (BA)
 |0,_=>none
 |n+1,x0=>(qIx n x0).run
theorem qLF:∀n,Ok (Rn n) qSK (qCo n)
 |0=>ok0 fun _=>rfl
 |n+1=>stO (T:=qIx n) (by kernel_rfl) [] [] (fun _=>(by kernel_rfl)) fun _=>(by kernel_rfl)
def qJt:Sg:=⟨263,[(.c (.ptr 0 0 0 0 0))],[[(0,⟨0,3,198,(.box [qS,(.own 0 1 1 0),qB])⟩),(1,⟨1,14,162,(.row [])⟩)]],⟨(.tup [(true,[qI,qI,qI,qI,qS,qI,qI,qB,qB,qI,qI,qB,qB,qL]),(false,[qB])]),[[(0,⟨0,3,198,(.box [qS,(.own 0 1 1 0),qB])⟩),(1,⟨1,14,162,(.row [])⟩)]],[]⟩⟩
def qFn (n:Nat) (x0:BA) (x1:Nat) (x2:Bool) (x3:RW):Tr (Int×Int×Int×Int×BA×Int×Int×Bool×Bool×Int×Int×Bool×Bool×RW×Bool×BA×Nat×Bool×RW):=(.opt (qBc n x0 x1 x2 x3) fun r210=>(.opt (qAr n r210.1) fun r211=>(.ask (r211.2.2.2.2) (.opt (qr n (⟨#[58]⟩:BA) r210.2.1 r210.2.2.1 r210.2.2.2.1 r210.2.2.2.2) fun r212=>(.ask ((!r212.1)) (.done ((0:Int),(0:Int),(0:Int),(0:Int),(⟨#[]⟩:BA),(0:Int),(0:Int),false,false,(0:Int),(0:Int),false,false,([]:RW),false,x0,r212.2.2.1,r212.2.2.2.1,r212.2.2.2.2)) (.opt (qBc n r212.2.1 r212.2.2.1 r212.2.2.2.1 r212.2.2.2.2) fun r213=>(.opt (qAr n r213.1) fun r214=>(.ask (r213.2.2.2.1) (.done ((3:Int),(0:Int),(0:Int),(0:Int),(⟨#[]⟩:BA),r211.1,r211.2.1,r211.2.2.1,r211.2.2.2.1,r214.1,r214.2.1,r214.2.2.1,r214.2.2.2.1,([]:RW),true,r213.2.1,r213.2.2.1,true,r213.2.2.2.2)) (.done ((3:Int),(0:Int),(0:Int),(0:Int),(⟨#[]⟩:BA),r211.1,r211.2.1,r211.2.2.1,r211.2.2.2.1,r214.1,r214.2.1,r214.2.2.1,r214.2.2.2.1,([]:RW),true,r213.2.1,r213.2.2.1,(!r214.2.2.2.2),r213.2.2.2.2))))))) (.done ((0:Int),(0:Int),(0:Int),(0:Int),(⟨#[]⟩:BA),(0:Int),(0:Int),false,false,(0:Int),(0:Int),false,false,([]:RW),false,x0,r210.2.2.1,r210.2.2.2.1,r210.2.2.2.2)))))
def qD0:Nat→BA→Nat→Bool→RW→Option (Int×Int×Int×Int×BA×Int×Int×Bool×Bool×Int×Int×Bool×Bool×RW×Bool×BA×Nat×Bool×RW)
 |0,_,_,_,_=>none
 |n+1,x0,x1,x2,x3=>(qFn n x0 x1 x2 x3).run
abbrev qJu (n:Nat):List (Ent (Rn n)):= [en (qG8 n),en (qIT n),en (qCb n)]
theorem qJP:∀n,Ok (Rn n) qJt (qD0 n)
 |0=>ok0 fun _=>rfl
 |n+1=>stO (T:=qFn n) (by kernel_rfl) (qJu n) [] (fun _=>(by kernel_rfl)) fun _=>(by kernel_rfl)
def qSL:Sg:=⟨193,[aI],[],⟨aS,[],[]⟩⟩
def qIy (n:Nat) (x0:Int):Tr (BA):=(.ask (decide (12=([[(.s (⟨#[]⟩:BA))],[(.s (⟨#[43]⟩:BA))],[(.s (⟨#[45]⟩:BA))],[(.s (⟨#[42]⟩:BA))],[(.s (⟨#[47]⟩:BA))],[(.s (⟨#[38]⟩:BA))],[(.s (⟨#[61]⟩:BA))],[(.s (⟨#[60,62]⟩:BA))],[(.s (⟨#[60]⟩:BA))],[(.s (⟨#[60,61]⟩:BA))],[(.s (⟨#[62]⟩:BA))],[(.s (⟨#[62,61]⟩:BA))]]:RW).length∧0≤x0∧x0<((12:Nat):Int))) (.opt (([[(.s (⟨#[]⟩:BA))],[(.s (⟨#[43]⟩:BA))],[(.s (⟨#[45]⟩:BA))],[(.s (⟨#[42]⟩:BA))],[(.s (⟨#[47]⟩:BA))],[(.s (⟨#[38]⟩:BA))],[(.s (⟨#[61]⟩:BA))],[(.s (⟨#[60,62]⟩:BA))],[(.s (⟨#[60]⟩:BA))],[(.s (⟨#[60,61]⟩:BA))],[(.s (⟨#[62]⟩:BA))],[(.s (⟨#[62,61]⟩:BA))]]:RW)[(x0).toNat]?) fun e241=>(.opt (zY e241 0) fun y242=>(.done y242))) .fail)
def qBn:Nat→Int→Option (BA)
 |0,_=>none
 |n+1,x0=>(qIy n x0).run
theorem qLG:∀n,Ok (Rn n) qSL (qBn n)
 |0=>ok0 fun _=>rfl
 |n+1=>stO (T:=qIy n) (by kernel_rfl) [] [] (fun _=>(by kernel_rfl)) fun _=>(by kernel_rfl)
def qS9:Sg:=⟨194,[aI],[],⟨aI,[],[]⟩⟩
def qJv (n:Nat) (x0:Int):Tr (Int):=(.ask ((x0==(3:Int))) (.done (4:Int)) (.ask ((x0==(4:Int))) (.done (4:Int)) (.ask ((x0==(1:Int))) (.done (3:Int)) (.ask ((x0==(2:Int))) (.done (3:Int)) (.ask ((x0==(5:Int))) (.done (2:Int)) (.done (1:Int)))))))
def qEk:Nat→Int→Option (Int)
 |0,_=>none
 |n+1,x0=>(qJv n x0).run
theorem qMY:∀n,Ok (Rn n) qS9 (qEk n)
 |0=>ok0 fun _=>rfl
 |n+1=>stO (T:=qJv n) (by kernel_rfl) [] [] (fun _=>(by kernel_rfl)) fun _=>(by kernel_rfl)
def qGZ:Sg:=⟨159,[(.c (.ptr 0 0 0 0 0)),aI,aI],[[(0,⟨0,3,198,(.box [qS,(.own 0 1 1 0),qB])⟩),(1,⟨1,14,162,(.row [])⟩)]],⟨aI,[[(0,⟨0,3,198,(.box [qS,(.own 0 1 1 0),qB])⟩),(1,⟨1,14,162,(.row [])⟩)]],[]⟩⟩
def qMD:Sg:=⟨191,[(.c (.ptr 0 0 0 0 0)),aI],[[(0,⟨0,3,198,(.box [qS,(.own 0 1 1 0),qB])⟩),(1,⟨1,14,162,(.row [])⟩)]],⟨aI,[[(0,⟨0,3,198,(.box [qS,(.own 0 1 1 0),qB])⟩),(1,⟨1,14,162,(.row [])⟩)]],[]⟩⟩
def qM1:Sg:=⟨223,[(.c (.ptr 0 0 0 0 0)),aI],[[(0,⟨0,3,198,(.box [qS,(.own 0 1 1 0),qB])⟩),(1,⟨1,14,162,(.row [])⟩)]],⟨aI,[[(0,⟨0,3,198,(.box [qS,(.own 0 1 1 0),qB])⟩),(1,⟨1,14,162,(.row [])⟩)]],[]⟩⟩
def qM2:Sg:=⟨248,[(.c (.ptr 0 0 0 0 0)),aI,aI],[[(0,⟨0,3,198,(.box [qS,(.own 0 1 1 0),qB])⟩),(1,⟨1,14,162,(.row [])⟩)]],⟨aI,[[(0,⟨0,3,198,(.box [qS,(.own 0 1 1 0),qB])⟩),(1,⟨1,14,162,(.row [])⟩)]],[]⟩⟩
structure G_impl_reader_binary where
 impl_reader_binary:Int→Int→BA→Nat→Bool→RW→Option (Int×BA×Nat×Bool×RW)
 impl_reader_unary:Int→BA→Nat→Bool→RW→Option (Int×BA×Nat×Bool×RW)
 impl_reader_atom:Int→BA→Nat→Bool→RW→Option (Int×BA×Nat×Bool×RW)
 impl_reader_call:Int→Int→BA→Nat→Bool→RW→Option (Int×BA×Nat×Bool×RW)
def qBT (n:Nat) (v:Int×Int×Int×Int×Int×BA×Nat×Bool×RW):Tr ((Int×Int×Int×Int×Int×BA×Nat×Bool×RW)⊕((Int×Int×Int×Int×BA×Nat×Bool×RW))):=(.ask ((decide (v.2.2.2.2.1≤(11:Int)))) (.opt (qB9 n v.2.2.2.2.2.1 v.2.2.2.2.2.2.1 v.2.2.2.2.2.2.2.1 v.2.2.2.2.2.2.2.2) fun r240=>(.opt (qBn n v.2.2.2.2.1) fun r241=>(.ask ((r240.1.toList==r241.toList)) (.done (.inl (v.1,v.2.1,v.2.2.1,v.2.2.2.2.1,(IntKind.i64.wrap (v.2.2.2.2.1+(1:Int))),r240.2.1,r240.2.2.1,r240.2.2.2.1,r240.2.2.2.2))) (.done (.inl (v.1,v.2.1,v.2.2.1,v.2.2.2.1,(IntKind.i64.wrap (v.2.2.2.2.1+(1:Int))),r240.2.1,r240.2.2.1,r240.2.2.2.1,r240.2.2.2.2)))))) (.done (.inr ((v.1,v.2.1,v.2.2.1,v.2.2.2.1,v.2.2.2.2.2.1,v.2.2.2.2.2.2.1,v.2.2.2.2.2.2.2.1,v.2.2.2.2.2.2.2.2)))))
def qDr (rec:G_impl_reader_binary) (n:Nat) (v:Int×Int×Int×BA×Nat×Bool×RW):Tr ((Int×Int×Int×BA×Nat×Bool×RW)⊕((Int×BA×Nat×Bool×RW))):=(.ask ((!v.2.2.2.2.2.1)) (.opt (zC (qBT n) n (v.1,v.2.1,v.2.2.1,(0:Int),(1:Int),v.2.2.2.1,v.2.2.2.2.1,v.2.2.2.2.2.1,v.2.2.2.2.2.2)) fun r242=>(.ask ((r242.2.2.2.1==(0:Int))) (.done (.inr ((r242.2.2.1,r242.2.2.2.2.1,r242.2.2.2.2.2.1,r242.2.2.2.2.2.2.1,r242.2.2.2.2.2.2.2)))) (.opt (qEk n r242.2.2.2.1) fun r243=>(.ask ((decide (r243<r242.1))) (.done (.inr ((r242.2.2.1,r242.2.2.2.2.1,r242.2.2.2.2.2.1,r242.2.2.2.2.2.2.1,r242.2.2.2.2.2.2.2)))) (.opt (qBn n r242.2.2.2.1) fun r244=>(.opt (qr n r244 r242.2.2.2.2.1 r242.2.2.2.2.2.1 r242.2.2.2.2.2.2.1 r242.2.2.2.2.2.2.2) fun r245=>(.opt (qEk n r242.2.2.2.1) fun r246=>(.opt (rec.impl_reader_binary (IntKind.i64.wrap (r246+(1:Int))) r242.2.1 r245.2.1 r245.2.2.1 r245.2.2.2.1 r245.2.2.2.2) fun r247=>(.ask (decide (2=([[(.i .i64 r242.2.2.1)],[(.i .i64 r247.1)]]:RW).length)) (.opt (qt n (5:Int) r242.2.2.2.1 (0:Int) (0:Int) (⟨#[]⟩:BA) (0:Int) (0:Int) false false (0:Int) (0:Int) false false ([[(.i .i64 r242.2.2.1)],[(.i .i64 r247.1)]]:RW) r247.2.1 r247.2.2.1 r247.2.2.2.1 r247.2.2.2.2) fun r248=>(.done (.inl (r242.1,r242.2.1,r248.1,r248.2.1,r248.2.2.1,r248.2.2.2.1,r248.2.2.2.2)))) .fail))))))))) (.done (.inr ((v.2.2.1,v.2.2.2.1,v.2.2.2.2.1,v.2.2.2.2.2.1,v.2.2.2.2.2.2)))))
def qGa (rec:G_impl_reader_binary) (n:Nat) (x0 x1:Int) (x2:BA) (x3:Nat) (x4:Bool) (x5:RW):Tr (Int×BA×Nat×Bool×RW):=(.opt (rec.impl_reader_unary x1 x2 x3 x4 x5) fun r239=>(.opt (zC (qDr rec n) n (x0,x1,r239.1,r239.2.1,r239.2.2.1,r239.2.2.2.1,r239.2.2.2.2)) fun r249=>(.done (r249.1,r249.2.1,r249.2.2.1,r249.2.2.2.1,r249.2.2.2.2))))
def qHA (rec:G_impl_reader_binary) (n:Nat) (x0:Int) (x1:BA) (x2:Nat) (x3:Bool) (x4:RW):Tr (Int×BA×Nat×Bool×RW):=(.ask ((decide (x0>(400:Int)))) (.ask (true) (.done ((-1:Int),x1,x2,true,x4)) (.opt (qr n (⟨#[45]⟩:BA) x1 x2 true x4) fun r121=>(.ask (r121.1) (.opt (rec.impl_reader_unary (IntKind.i64.wrap (x0+(1:Int))) r121.2.1 r121.2.2.1 r121.2.2.2.1 r121.2.2.2.2) fun r122=>(.ask (decide (1=([[(.i .i64 r122.1)]]:RW).length)) (.opt (qt n (4:Int) (0:Int) (0:Int) (0:Int) (⟨#[]⟩:BA) (0:Int) (0:Int) false false (0:Int) (0:Int) false false ([[(.i .i64 r122.1)]]:RW) r122.2.1 r122.2.2.1 r122.2.2.2.1 r122.2.2.2.2) fun r123=>(.done (r123.1,r123.2.1,r123.2.2.1,r123.2.2.2.1,r123.2.2.2.2))) .fail)) (.opt (rec.impl_reader_atom x0 r121.2.1 r121.2.2.1 r121.2.2.2.1 r121.2.2.2.2) fun r234=>(.done (r234.1,r234.2.1,r234.2.2.1,r234.2.2.2.1,r234.2.2.2.2)))))) (.ask (x3) (.done ((-1:Int),x1,x2,x3,x4)) (.opt (qr n (⟨#[45]⟩:BA) x1 x2 x3 x4) fun r235=>(.ask (r235.1) (.opt (rec.impl_reader_unary (IntKind.i64.wrap (x0+(1:Int))) r235.2.1 r235.2.2.1 r235.2.2.2.1 r235.2.2.2.2) fun r236=>(.ask (decide (1=([[(.i .i64 r236.1)]]:RW).length)) (.opt (qt n (4:Int) (0:Int) (0:Int) (0:Int) (⟨#[]⟩:BA) (0:Int) (0:Int) false false (0:Int) (0:Int) false false ([[(.i .i64 r236.1)]]:RW) r236.2.1 r236.2.2.1 r236.2.2.2.1 r236.2.2.2.2) fun r237=>(.done (r237.1,r237.2.1,r237.2.2.1,r237.2.2.2.1,r237.2.2.2.2))) .fail)) (.opt (rec.impl_reader_atom x0 r235.2.1 r235.2.2.1 r235.2.2.2.1 r235.2.2.2.2) fun r238=>(.done (r238.1,r238.2.1,r238.2.2.1,r238.2.2.2.1,r238.2.2.2.2)))))))
def qCk (n:Nat) (v:Int×Int×BA×Nat×Bool×RW):Tr ((Int×Int×BA×Nat×Bool×RW)⊕((Int×BA×Nat×Bool×RW)⊕(Int×BA×Nat×Bool×RW))):=(.ask ((decide (v.2.1≤(5:Int)))) (.opt (qAq n v.2.1) fun r135=>(.opt (q7 n v.2.2.1 r135) fun r136=>(.ask (r136.2) (.opt (qCH n v.2.1) fun r137=>(.opt (qk n r137.1 r137.2.1 r137.2.2 r136.1 v.2.2.2.1 v.2.2.2.2.1 v.2.2.2.2.2) fun r138=>(.done (.inr (.inl ((r138.1,r138.2.1,r138.2.2.1,r138.2.2.2.1,r138.2.2.2.2))))))) (.done (.inl (v.1,(IntKind.i64.wrap (v.2.1+(1:Int))),v.2.2.1,v.2.2.2.1,v.2.2.2.2.1,v.2.2.2.2.2)))))) (.done (.inr (.inr ((v.1,v.2.2.1,v.2.2.2.1,v.2.2.2.2.1,v.2.2.2.2.2))))))
def qAv (rec:G_impl_reader_binary) (n:Nat) (v:Int×BA×Int×BA×Nat×Bool×RW):Tr ((Int×BA×Int×BA×Nat×Bool×RW)⊕((Int×BA×Nat×Bool×RW)⊕(BA×Nat×Bool×RW))):=(.ask ((decide (v.2.2.1≤(10:Int)))) (.opt (qCo n v.2.2.1) fun r207=>(.ask ((v.2.1.toList==r207.toList)) (.opt (rec.impl_reader_call v.2.2.1 v.1 v.2.2.2.1 v.2.2.2.2.1 v.2.2.2.2.2.1 v.2.2.2.2.2.2) fun r208=>(.done (.inr (.inl ((r208.1,r208.2.1,r208.2.2.1,r208.2.2.2.1,r208.2.2.2.2)))))) (.done (.inl (v.1,v.2.1,(IntKind.i64.wrap (v.2.2.1+(1:Int))),v.2.2.2.1,v.2.2.2.2.1,v.2.2.2.2.2.1,v.2.2.2.2.2.2))))) (.done (.inr (.inr ((v.2.2.2.1,v.2.2.2.2.1,v.2.2.2.2.2.1,v.2.2.2.2.2.2))))))
def qHu (rec:G_impl_reader_binary) (n:Nat) (x0:Int) (x1:BA) (x2:Nat) (x3:Bool) (x4:RW):Tr (Int×BA×Nat×Bool×RW):=(.opt (qBA n x1 x2 x3 x4) fun r124=>(.opt (qm n r124.1 (⟨#[34]⟩:BA)) fun r125=>(.ask (r125) (.opt (qEW n r124.1 r124.2.1 r124.2.2.1 r124.2.2.2) fun r133=>(.done (r133.1,r133.2.1,r133.2.2.1,r133.2.2.2.1,r133.2.2.2.2))) (.opt (qm n r124.1 (⟨#[35]⟩:BA)) fun r134=>(.ask (r134) (.opt (zC (qCk n) n (x0,(1:Int),r124.1,r124.2.1,r124.2.2.1,r124.2.2.2)) fun r139=>(.alt r139 (fun r140=>(.done (r140.1,r140.2.1,r140.2.2.1,r140.2.2.2.1,r140.2.2.2.2))) (fun r141=>(.opt (qBc n r141.2.1 r141.2.2.1 r141.2.2.2.1 r141.2.2.2.2) fun r144=>(.opt (qf n r144.1) fun r180=>(.ask (r180.2.2.2) (.ask ((r180.1==(1:Int))) (.opt (qk n r180.1 r180.2.1 r180.2.2.1 r144.2.1 r144.2.2.1 r144.2.2.2.1 r144.2.2.2.2) fun r181=>(.done (r181.1,r181.2.1,r181.2.2.1,r181.2.2.2.1,r181.2.2.2.2))) (.ask ((r180.1==(3:Int))) (.opt (qk n r180.1 r180.2.1 r180.2.2.1 r144.2.1 r144.2.2.1 r144.2.2.2.1 r144.2.2.2.2) fun r182=>(.done (r182.1,r182.2.1,r182.2.2.1,r182.2.2.2.1,r182.2.2.2.2))) (.opt (qAr n r144.1) fun r205=>(.ask (r205.2.2.2.2) (.opt (qt n (2:Int) (0:Int) (0:Int) (0:Int) (⟨#[]⟩:BA) r205.1 r205.2.1 r205.2.2.1 r205.2.2.2.1 (0:Int) (0:Int) false false ([]:RW) r144.2.1 r144.2.2.1 r144.2.2.2.1 r144.2.2.2.2) fun r206=>(.done (r206.1,r206.2.1,r206.2.2.1,r206.2.2.2.1,r206.2.2.2.2))) (.opt (zC (qAv rec n) n (r141.1,r144.1,(1:Int),r144.2.1,r144.2.2.1,r144.2.2.2.1,r144.2.2.2.2)) fun r209=>(.alt r209 (fun r210=>(.done (r210.1,r210.2.1,r210.2.2.1,r210.2.2.2.1,r210.2.2.2.2))) (fun r211=>(.done ((-1:Int),r211.1,r211.2.1,true,r211.2.2.2))))))))) (.opt (qAr n r144.1) fun r212=>(.ask (r212.2.2.2.2) (.opt (qt n (2:Int) (0:Int) (0:Int) (0:Int) (⟨#[]⟩:BA) r212.1 r212.2.1 r212.2.2.1 r212.2.2.2.1 (0:Int) (0:Int) false false ([]:RW) r144.2.1 r144.2.2.1 r144.2.2.2.1 r144.2.2.2.2) fun r213=>(.done (r213.1,r213.2.1,r213.2.2.1,r213.2.2.2.1,r213.2.2.2.2))) (.opt (zC (qAv rec n) n (r141.1,r144.1,(1:Int),r144.2.1,r144.2.2.1,r144.2.2.2.1,r144.2.2.2.2)) fun r214=>(.alt r214 (fun r215=>(.done (r215.1,r215.2.1,r215.2.2.1,r215.2.2.2.1,r215.2.2.2.2))) (fun r216=>(.done ((-1:Int),r216.1,r216.2.1,true,r216.2.2.2))))))))))))) (.opt (qr n (⟨#[40]⟩:BA) r124.1 r124.2.1 r124.2.2.1 r124.2.2.2) fun r217=>(.ask (r217.1) (.opt (rec.impl_reader_binary (1:Int) (IntKind.i64.wrap (x0+(1:Int))) r217.2.1 r217.2.2.1 r217.2.2.2.1 r217.2.2.2.2) fun r218=>(.ask (r218.2.2.2.1) (.done (r218.1,r218.2.1,r218.2.2.1,true,r218.2.2.2.2)) (.opt (qr n (⟨#[41]⟩:BA) r218.2.1 r218.2.2.1 r218.2.2.2.1 r218.2.2.2.2) fun r219=>(.done (r218.1,r219.2.1,r219.2.2.1,(!r219.1),r219.2.2.2.2))))) (.opt (qBc n r217.2.1 r217.2.2.1 r217.2.2.2.1 r217.2.2.2.2) fun r220=>(.opt (qf n r220.1) fun r221=>(.ask (r221.2.2.2) (.ask ((r221.1==(1:Int))) (.opt (qk n r221.1 r221.2.1 r221.2.2.1 r220.2.1 r220.2.2.1 r220.2.2.2.1 r220.2.2.2.2) fun r222=>(.done (r222.1,r222.2.1,r222.2.2.1,r222.2.2.2.1,r222.2.2.2.2))) (.ask ((r221.1==(3:Int))) (.opt (qk n r221.1 r221.2.1 r221.2.2.1 r220.2.1 r220.2.2.1 r220.2.2.2.1 r220.2.2.2.2) fun r223=>(.done (r223.1,r223.2.1,r223.2.2.1,r223.2.2.2.1,r223.2.2.2.2))) (.opt (qAr n r220.1) fun r224=>(.ask (r224.2.2.2.2) (.opt (qt n (2:Int) (0:Int) (0:Int) (0:Int) (⟨#[]⟩:BA) r224.1 r224.2.1 r224.2.2.1 r224.2.2.2.1 (0:Int) (0:Int) false false ([]:RW) r220.2.1 r220.2.2.1 r220.2.2.2.1 r220.2.2.2.2) fun r225=>(.done (r225.1,r225.2.1,r225.2.2.1,r225.2.2.2.1,r225.2.2.2.2))) (.opt (zC (qAv rec n) n (x0,r220.1,(1:Int),r220.2.1,r220.2.2.1,r220.2.2.2.1,r220.2.2.2.2)) fun r226=>(.alt r226 (fun r227=>(.done (r227.1,r227.2.1,r227.2.2.1,r227.2.2.2.1,r227.2.2.2.2))) (fun r228=>(.done ((-1:Int),r228.1,r228.2.1,true,r228.2.2.2))))))))) (.opt (qAr n r220.1) fun r229=>(.ask (r229.2.2.2.2) (.opt (qt n (2:Int) (0:Int) (0:Int) (0:Int) (⟨#[]⟩:BA) r229.1 r229.2.1 r229.2.2.1 r229.2.2.2.1 (0:Int) (0:Int) false false ([]:RW) r220.2.1 r220.2.2.1 r220.2.2.2.1 r220.2.2.2.2) fun r230=>(.done (r230.1,r230.2.1,r230.2.2.1,r230.2.2.2.1,r230.2.2.2.2))) (.opt (zC (qAv rec n) n (x0,r220.1,(1:Int),r220.2.1,r220.2.2.1,r220.2.2.2.1,r220.2.2.2.2)) fun r231=>(.alt r231 (fun r232=>(.done (r232.1,r232.2.1,r232.2.2.1,r232.2.2.2.1,r232.2.2.2.2))) (fun r233=>(.done ((-1:Int),r233.1,r233.2.1,true,r233.2.2.2)))))))))))))))))
def qC5 (rec:G_impl_reader_binary) (n:Nat) (v:Int×Int×Nat×RW×BA×Nat×Bool×RW):Tr ((Int×Int×Nat×RW×BA×Nat×Bool×RW)⊕((Int×Nat×RW×BA×Nat×Bool×RW))):=(.ask ((!v.2.2.2.2.2.2.1)) (.opt (qD0 n v.2.2.2.2.1 v.2.2.2.2.2.1 v.2.2.2.2.2.2.1 v.2.2.2.2.2.2.2) fun r210=>(.ask (r210.2.2.2.2.2.2.2.2.2.2.2.2.2.2.1) (.opt (qt n r210.1 r210.2.1 r210.2.2.1 r210.2.2.2.1 r210.2.2.2.2.1 r210.2.2.2.2.2.1 r210.2.2.2.2.2.2.1 r210.2.2.2.2.2.2.2.1 r210.2.2.2.2.2.2.2.2.1 r210.2.2.2.2.2.2.2.2.2.1 r210.2.2.2.2.2.2.2.2.2.2.1 r210.2.2.2.2.2.2.2.2.2.2.2.1 r210.2.2.2.2.2.2.2.2.2.2.2.2.1 r210.2.2.2.2.2.2.2.2.2.2.2.2.2.1 r210.2.2.2.2.2.2.2.2.2.2.2.2.2.2.2.1 r210.2.2.2.2.2.2.2.2.2.2.2.2.2.2.2.2.1 r210.2.2.2.2.2.2.2.2.2.2.2.2.2.2.2.2.2.1 r210.2.2.2.2.2.2.2.2.2.2.2.2.2.2.2.2.2.2) fun r211=>(.ask (decide (1=([[(.i .i64 r211.1)]]:RW).length)) (.ask (decide (v.2.2.1=v.2.2.2.1.length∧0<1∧0<8∧(v.2.2.1+([[(.i .i64 r211.1)]]:RW).length)*8≤140737488355328∧([[(.i .i64 r211.1)]]:RW).all (fun e=>e.length==1)=true)) (.opt (qr n (⟨#[44]⟩:BA) r211.2.1 r211.2.2.1 r211.2.2.2.1 r211.2.2.2.2) fun r212=>(.ask ((!r212.1)) (.ask (r212.2.2.2.1) (.done (.inr ((v.1,(v.2.2.1+1),(v.2.2.2.1++([[(.i .i64 r211.1)]]:RW)),r212.2.1,r212.2.2.1,true,r212.2.2.2.2)))) (.opt (qr n (⟨#[41]⟩:BA) r212.2.1 r212.2.2.1 r212.2.2.2.1 r212.2.2.2.2) fun r213=>(.done (.inr ((v.1,(v.2.2.1+1),(v.2.2.2.1++([[(.i .i64 r211.1)]]:RW)),r213.2.1,r213.2.2.1,(!r213.1),r213.2.2.2.2)))))) (.done (.inl (v.1,v.2.1,(v.2.2.1+1),(v.2.2.2.1++([[(.i .i64 r211.1)]]:RW)),r212.2.1,r212.2.2.1,r212.2.2.2.1,r212.2.2.2.2))))) .fail) .fail)) (.opt (rec.impl_reader_binary (1:Int) (IntKind.i64.wrap (v.2.1+(1:Int))) r210.2.2.2.2.2.2.2.2.2.2.2.2.2.2.2.1 r210.2.2.2.2.2.2.2.2.2.2.2.2.2.2.2.2.1 r210.2.2.2.2.2.2.2.2.2.2.2.2.2.2.2.2.2.1 r210.2.2.2.2.2.2.2.2.2.2.2.2.2.2.2.2.2.2) fun r214=>(.ask (decide (1=([[(.i .i64 r214.1)]]:RW).length)) (.ask (decide (v.2.2.1=v.2.2.2.1.length∧0<1∧0<8∧(v.2.2.1+([[(.i .i64 r214.1)]]:RW).length)*8≤140737488355328∧([[(.i .i64 r214.1)]]:RW).all (fun e=>e.length==1)=true)) (.opt (qr n (⟨#[44]⟩:BA) r214.2.1 r214.2.2.1 r214.2.2.2.1 r214.2.2.2.2) fun r215=>(.ask ((!r215.1)) (.ask (r215.2.2.2.1) (.done (.inr ((v.1,(v.2.2.1+1),(v.2.2.2.1++([[(.i .i64 r214.1)]]:RW)),r215.2.1,r215.2.2.1,true,r215.2.2.2.2)))) (.opt (qr n (⟨#[41]⟩:BA) r215.2.1 r215.2.2.1 r215.2.2.2.1 r215.2.2.2.2) fun r216=>(.done (.inr ((v.1,(v.2.2.1+1),(v.2.2.2.1++([[(.i .i64 r214.1)]]:RW)),r216.2.1,r216.2.2.1,(!r216.1),r216.2.2.2.2)))))) (.done (.inl (v.1,v.2.1,(v.2.2.1+1),(v.2.2.2.1++([[(.i .i64 r214.1)]]:RW)),r215.2.1,r215.2.2.1,r215.2.2.2.1,r215.2.2.2.2))))) .fail) .fail)))) (.done (.inr ((v.1,v.2.2.1,v.2.2.2.1,v.2.2.2.2.1,v.2.2.2.2.2.1,v.2.2.2.2.2.2.1,v.2.2.2.2.2.2.2)))))
def qHv (rec:G_impl_reader_binary) (n:Nat) (x0 x1:Int) (x2:BA) (x3:Nat) (x4:Bool) (x5:RW):Tr (Int×BA×Nat×Bool×RW):=(.ask (x4) (.opt (zC (qC5 rec n) n (x0,x1,(0:Nat),([]:RW),x2,x3,true,x5)) fun r217=>(.ask (decide (r217.2.1=r217.2.2.1.length)) (.opt (qt n (6:Int) r217.1 (0:Int) (0:Int) (⟨#[]⟩:BA) (0:Int) (0:Int) false false (0:Int) (0:Int) false false r217.2.2.1 r217.2.2.2.1 r217.2.2.2.2.1 r217.2.2.2.2.2.1 r217.2.2.2.2.2.2) fun r218=>(.done (r218.1,r218.2.1,r218.2.2.1,r218.2.2.2.1,r218.2.2.2.2))) .fail)) (.opt (qr n (⟨#[40]⟩:BA) x2 x3 x4 x5) fun r219=>(.opt (zC (qC5 rec n) n (x0,x1,(0:Nat),([]:RW),r219.2.1,r219.2.2.1,(!r219.1),r219.2.2.2.2)) fun r220=>(.ask (decide (r220.2.1=r220.2.2.1.length)) (.opt (qt n (6:Int) r220.1 (0:Int) (0:Int) (⟨#[]⟩:BA) (0:Int) (0:Int) false false (0:Int) (0:Int) false false r220.2.2.1 r220.2.2.2.1 r220.2.2.2.2.1 r220.2.2.2.2.2.1 r220.2.2.2.2.2.2) fun r221=>(.done (r221.1,r221.2.1,r221.2.2.1,r221.2.2.2.1,r221.2.2.2.2))) .fail))))
def qV:Nat→G_impl_reader_binary
 |0=>⟨fun _ _ _ _ _ _=>none,fun _ _ _ _ _=>none,fun _ _ _ _ _=>none,fun _ _ _ _ _ _=>none⟩
 |n+1=>⟨fun x0 x1 x2 x3 x4 x5=>(qGa (qV n) n x0 x1 x2 x3 x4 x5).run,fun x0 x1 x2 x3 x4=>(qHA (qV n) n x0 x1 x2 x3 x4).run,fun x0 x1 x2 x3 x4=>(qHu (qV n) n x0 x1 x2 x3 x4).run,fun x0 x1 x2 x3 x4 x5=>(qHv (qV n) n x0 x1 x2 x3 x4 x5).run⟩
def qDL (n:Nat) (x0 x1:Int) (x2:BA) (x3:Nat) (x4:Bool) (x5:RW):Option (Int×BA×Nat×Bool×RW):=(qV n).impl_reader_binary x0 x1 x2 x3 x4 x5
def qHB (n:Nat) (x0:Int) (x1:BA) (x2:Nat) (x3:Bool) (x4:RW):Option (Int×BA×Nat×Bool×RW):=(qV n).impl_reader_unary x0 x1 x2 x3 x4
def qHw (n:Nat) (x0:Int) (x1:BA) (x2:Nat) (x3:Bool) (x4:RW):Option (Int×BA×Nat×Bool×RW):=(qV n).impl_reader_atom x0 x1 x2 x3 x4
def qCy (n:Nat) (x0 x1:Int) (x2:BA) (x3:Nat) (x4:Bool) (x5:RW):Option (Int×BA×Nat×Bool×RW):=(qV n).impl_reader_call x0 x1 x2 x3 x4 x5
def qAG (n:Nat):Prop:=
 Ok (Rn n) qGZ (qDL n)∧
 Ok (Rn n) qMD (qHB n)∧
 Ok (Rn n) qM1 (qHw n)∧
 Ok (Rn n) qM2 (qCy n)
abbrev qEY (n:Nat) (ih:qAG n):List (Ent (Rn n)):= [en ih.2.1,en (qG7 n),en (qLG n),en (qMY n),en (qCb n),en ih.1,en (qCx n)]
def qIz (n:Nat) (ih:qAG n):LEnt (lb 14 (KB 159)) (Rn n) n:=lok (Uniq.pick (zK 159) 14) 237 ⟨⟨[(0,(.c (.ptr 0 0 0 0 0))),(1,aI),(2,aI),(7,aI),(8,aI),(9,aI)],[],[[(0,⟨0,3,198,(.box [qS,(.own 0 1 1 0),qB])⟩),(1,⟨1,14,162,(.row [])⟩)]]⟩,[(.exit 2,⟨[(0,(.c (.ptr 0 0 0 0 0))),(1,aI),(2,aI),(7,aI),(8,aI)],[],[[(0,⟨0,3,198,(.box [qS,(.own 0 1 1 0),qB])⟩),(1,⟨1,14,162,(.row [])⟩)]]⟩)]⟩ (qBT n) (qEY n ih) [] fun _=>(by kernel_rfl)
def qJQ (n:Nat) (ih:qAG n):LEnt (KB 159) (Rn n) n:=lok (zK 159) 14 ⟨⟨[(0,(.c (.ptr 0 0 0 0 0))),(1,aI),(2,aI),(7,aI)],[],[[(0,⟨0,3,198,(.box [qS,(.own 0 1 1 0),qB])⟩),(1,⟨1,14,162,(.row [])⟩)]]⟩,[(.exit 0,⟨[(7,aI)],[],[[(0,⟨0,3,198,(.box [qS,(.own 0 1 1 0),qB])⟩),(1,⟨1,14,162,(.row [])⟩)]]⟩)]⟩ (qDr (qV n) n) (qEY n ih) [qIz n ih] fun _=>(by kernel_rfl)
abbrev qME (n:Nat) (ih:qAG n):List (Ent (Rn n)):= [en (qCb n),en ih.2.1,en (qCx n),en ih.2.2.1]
abbrev qFH (n:Nat) (ih:qAG n):List (Ent (Rn n)):= [en (qC3 n),en (qDJ n),en (qKd n),en (qFk n),en (qCK n),en (qMX n),en (qFO n),en (qG8 n),en (qIR n),en (qIT n),en (qCx n),en (qLF n),en ih.2.2.2,en (qCb n),en ih.1]
def qJw (n:Nat) (ih:qAG n):LEnt (KB 223) (Rn n) n:=lok (zK 223) 477 ⟨⟨[(0,(.c (.ptr 0 0 0 0 0))),(1,aI),(5,aI)],[],[[(0,⟨0,3,198,(.box [qS,(.own 0 1 1 0),qB])⟩),(1,⟨1,14,162,(.row [])⟩)]]⟩,[(.ret,⟨[(4,aI)],[],[[(0,⟨0,3,198,(.box [qS,(.own 0 1 1 0),qB])⟩),(1,⟨1,14,162,(.row [])⟩)]]⟩),(.exit 1,⟨[(0,(.c (.ptr 0 0 0 0 0))),(1,aI)],[],[[(0,⟨0,3,198,(.box [qS,(.own 0 1 1 0),qB])⟩),(1,⟨1,14,162,(.row [])⟩)]]⟩)]⟩ (qCk n) (qFH n ih) [] fun _=>(by kernel_rfl)
def qJx (n:Nat) (ih:qAG n):LEnt (KB 223) (Rn n) n:=lok (zK 223) 509 ⟨⟨[(0,(.c (.ptr 0 0 0 0 0))),(1,aI),(9,aS),(14,aI)],[],[[(0,⟨0,3,198,(.box [qS,(.own 0 1 1 0),qB])⟩),(1,⟨1,14,162,(.row [])⟩)]]⟩,[(.ret,⟨[(4,aI)],[],[[(0,⟨0,3,198,(.box [qS,(.own 0 1 1 0),qB])⟩),(1,⟨1,14,162,(.row [])⟩)]]⟩),(.exit 3,⟨[(0,(.c (.ptr 0 0 0 0 0)))],[],[[(0,⟨0,3,198,(.box [qS,(.own 0 1 1 0),qB])⟩),(1,⟨1,14,162,(.row [])⟩)]]⟩)]⟩ (qAv (qV n) n) (qFH n ih) [] fun _=>(by kernel_rfl)
abbrev qHx (n:Nat) (ih:qAG n):List (Ent (Rn n)):= [en (qJP n),en (qCx n),en (qCb n),en ih.1]
def qKf (n:Nat) (ih:qAG n):LEnt (KB 248) (Rn n) n:=lok (zK 248) 30 ⟨⟨[(0,(.c (.ptr 0 0 0 0 0))),(1,aI),(2,aI),(7,(.c (.own 1 640 0 0)))],[(640,⟨0,1,2,(.row [])⟩)],[[(0,⟨0,3,198,(.box [qS,(.own 0 1 1 0),qB])⟩),(1,⟨1,14,162,(.row [])⟩)]]⟩,[(.exit 0,⟨[(0,(.c (.ptr 0 0 0 0 0))),(1,aI),(7,(.c (.own 1 640 0 0)))],[(640,⟨0,1,2,(.row [])⟩)],[[(0,⟨0,3,198,(.box [qS,(.own 0 1 1 0),qB])⟩),(1,⟨1,14,162,(.row [])⟩)]]⟩)]⟩ (qC5 (qV n) n) (qHx n ih) [] fun _=>(by kernel_rfl)
theorem qAU:∀n,qAG n
 |0=>⟨ok0 fun _=>rfl,ok0 fun _=>rfl,ok0 fun _=>rfl,ok0 fun _=>rfl⟩
 |n+1=>⟨stO (T:=qGa (qV n) n) (by kernel_rfl) (qEY n (qAU n)) [qJQ n (qAU n)] (fun _=>(by kernel_rfl)) fun _=>(by kernel_rfl),stO (T:=qHA (qV n) n) (by kernel_rfl) (qME n (qAU n)) [] (fun _=>(by kernel_rfl)) fun _=>(by kernel_rfl),stO (T:=qHu (qV n) n) (by kernel_rfl) (qFH n (qAU n)) [qJw n (qAU n),qJx n (qAU n)] (fun _=>(by kernel_rfl)) fun _=>(by kernel_rfl),stO (T:=qHv (qV n) n) (by kernel_rfl) (qHx n (qAU n)) [qKf n (qAU n)] (fun _=>(by kernel_rfl)) fun _=>(by kernel_rfl)⟩
theorem qKg (n:Nat):Ok (Rn n) qGZ (qDL n):=(qAU n).1
def qNj:Sg:=⟨120,[(.agg [qI,qI,qI,qI,qS,qI,qI,qB,qB,qI,qI,qB,qB,qL])],[],⟨(.agg [qI,qI,qI,qI]),[],[]⟩⟩
def qEN (n:Nat) (x0 x1 x2 x3:Int) (x4:BA) (x5 x6:Int) (x7 x8:Bool) (x9 x10:Int) (x11 x12:Bool) (x13:RW):Tr (Int×Int×Int×Int):=(.ask ((x0==(2:Int))) (.done (x5,x6,x5,x6)) (.done (x5,x6,x9,x10)))
def qBQ:Nat→Int→Int→Int→Int→BA→Int→Int→Bool→Bool→Int→Int→Bool→Bool→RW→Option (Int×Int×Int×Int)
 |0,_,_,_,_,_,_,_,_,_,_,_,_,_,_=>none
 |n+1,x0,x1,x2,x3,x4,x5,x6,x7,x8,x9,x10,x11,x12,x13=>(qEN n x0 x1 x2 x3 x4 x5 x6 x7 x8 x9 x10 x11 x12 x13).run
theorem qHy:∀n,Ok (Rn n) qNj (qBQ n)
 |0=>ok0 fun _=>rfl
 |n+1=>stO (T:=qEN n) (by kernel_rfl) [] [] (fun _=>(by kernel_rfl)) fun _=>(by kernel_rfl)
def qSM:Sg:=⟨264,[(.agg [qI,qI,qI,qI])],[],⟨aB,[],[]⟩⟩
def qI0 (n:Nat) (x0 x1 x2 x3:Int):Tr (Bool):=(.opt (qCG n x0 x1) fun r272=>(.ask (r272) (.opt (qCG n x2 x3) fun r273=>(.ask (r273) (.ask ((decide (x0≤x2))) (.done (decide (x1≤x3))) (.done false)) (.done false))) (.done false)))
def qE4:Nat→Int→Int→Int→Int→Option (Bool)
 |0,_,_,_,_=>none
 |n+1,x0,x1,x2,x3=>(qI0 n x0 x1 x2 x3).run
abbrev qSN (n:Nat):List (Ent (Rn n)):= [en (qGS n)]
theorem qRD:∀n,Ok (Rn n) qSM (qE4 n)
 |0=>ok0 fun _=>rfl
 |n+1=>stO (T:=qI0 n) (by kernel_rfl) (qSN n) [] (fun _=>(by kernel_rfl)) fun _=>(by kernel_rfl)
def qKh:Sg:=⟨249,[(.agg [qI,qI,qI,qI,qS,qI,qI,qB,qB,qI,qI,qB,qB,qL])],[],⟨aB,[],[]⟩⟩
def qEL (n:Nat) (x0 x1 x2 x3:Int) (x4:BA) (x5 x6:Int) (x7 x8:Bool) (x9 x10:Int) (x11 x12:Bool) (x13:RW):Tr (Bool):=(.ask ((x0 !=(2:Int))) (.ask ((x0 !=(3:Int))) (.done true) (.opt (qBQ n x0 x1 x2 x3 x4 x5 x6 x7 x8 x9 x10 x11 x12 x13) fun r271=>(.opt (qE4 n r271.1 r271.2.1 r271.2.2.1 r271.2.2.2) fun r274=>(.done r274)))) (.opt (qBQ n x0 x1 x2 x3 x4 x5 x6 x7 x8 x9 x10 x11 x12 x13) fun r275=>(.opt (qE4 n r275.1 r275.2.1 r275.2.2.1 r275.2.2.2) fun r276=>(.done r276))))
def qAH:Nat→Int→Int→Int→Int→BA→Int→Int→Bool→Bool→Int→Int→Bool→Bool→RW→Option (Bool)
 |0,_,_,_,_,_,_,_,_,_,_,_,_,_,_=>none
 |n+1,x0,x1,x2,x3,x4,x5,x6,x7,x8,x9,x10,x11,x12,x13=>(qEL n x0 x1 x2 x3 x4 x5 x6 x7 x8 x9 x10 x11 x12 x13).run
abbrev qKi (n:Nat):List (Ent (Rn n)):= [en (qHy n),en (qRD n)]
theorem qJy:∀n,Ok (Rn n) qKh (qAH n)
 |0=>ok0 fun _=>rfl
 |n+1=>stO (T:=qEL n) (by kernel_rfl) (qKi n) [] (fun _=>(by kernel_rfl)) fun _=>(by kernel_rfl)
def qMF:Sg:=⟨250,[(.agg [qI,qI,qI,qI,qS,qI,qI,qB,qB,qI,qI,qB,qB,qL])],[],⟨aB,[],[]⟩⟩
def qEy (n:Nat) (x0 x1 x2 x3:Int) (x4:BA) (x5 x6:Int) (x7 x8:Bool) (x9 x10:Int) (x11 x12:Bool) (x13:RW):Tr (Bool):=(.ask ((x0==(4:Int))) (.ask ((x1==(0:Int))) (.done ((x13.length:Int)==(1:Int))) (.done false)) (.ask ((x0==(5:Int))) (.opt (qAW n x1 (1:Int) (11:Int)) fun r278=>(.ask (r278) (.done ((x13.length:Int)==(2:Int))) (.done false))) (.ask ((x0==(6:Int))) (.opt (qAW n x1 (1:Int) (10:Int)) fun r279=>(.ask ((!r279)) (.done false) (.ask ((x1==(5:Int))) (.opt (qAW n (x13.length:Int) (2:Int) (3:Int)) fun r280=>(.done r280)) (.ask ((decide (x1≥(8:Int)))) (.done ((x13.length:Int)==(1:Int))) (.opt (qAW n (x13.length:Int) (1:Int) (10:Int)) fun r281=>(.done r281)))))) (.ask ((x1==(0:Int))) (.done ((x13.length:Int)==(0:Int))) (.done false)))))
def qAX:Nat→Int→Int→Int→Int→BA→Int→Int→Bool→Bool→Int→Int→Bool→Bool→RW→Option (Bool)
 |0,_,_,_,_,_,_,_,_,_,_,_,_,_,_=>none
 |n+1,x0,x1,x2,x3,x4,x5,x6,x7,x8,x9,x10,x11,x12,x13=>(qEy n x0 x1 x2 x3 x4 x5 x6 x7 x8 x9 x10 x11 x12 x13).run
abbrev qMG (n:Nat):List (Ent (Rn n)):= [en (qDp n)]
theorem qLH:∀n,Ok (Rn n) qMF (qAX n)
 |0=>ok0 fun _=>rfl
 |n+1=>stO (T:=qEy n) (by kernel_rfl) (qMG n) [] (fun _=>(by kernel_rfl)) fun _=>(by kernel_rfl)
def qM3:Sg:=⟨224,[(.agg [qI,qI,qI,qI,qS,qI,qI,qB,qB,qI,qI,qB,qB,qL])],[],⟨aB,[],[]⟩⟩
def qFI (n:Nat) (x0 x1 x2 x3:Int) (x4:BA) (x5 x6:Int) (x7 x8:Bool) (x9 x10:Int) (x11 x12:Bool) (x13:RW):Tr (Bool):=(.ask ((x0==(1:Int))) (.opt (qAc n x2 x3 x4) fun r270=>(.ask ((!r270)) (.done false) (.ask ((x2==(0:Int))) (.done false) (.ask ((x2==(1:Int))) (.ask ((decide (x3<(0:Int)))) (.done false) (.opt (qAH n x0 x1 x2 x3 x4 x5 x6 x7 x8 x9 x10 x11 x12 x13) fun r277=>(.ask (r277) (.opt (qAX n x0 x1 x2 x3 x4 x5 x6 x7 x8 x9 x10 x11 x12 x13) fun r282=>(.ask (r282) (.ask (((x2==x2)&&((x3==x3)&&((x4.toList==x4.toList)&&true)))) (.ask ((((0:Int)==x5)&&(((0:Int)==x6)&&((false==x7)&&((false==x8)&&true))))) (.done (((0:Int)==x9)&&(((0:Int)==x10)&&((false==x11)&&((false==x12)&&true))))) (.done false)) (.done false)) (.done false))) (.done false)))) (.opt (qAH n x0 x1 x2 x3 x4 x5 x6 x7 x8 x9 x10 x11 x12 x13) fun r283=>(.ask (r283) (.opt (qAX n x0 x1 x2 x3 x4 x5 x6 x7 x8 x9 x10 x11 x12 x13) fun r284=>(.ask (r284) (.ask (((x2==x2)&&((x3==x3)&&((x4.toList==x4.toList)&&true)))) (.ask ((((0:Int)==x5)&&(((0:Int)==x6)&&((false==x7)&&((false==x8)&&true))))) (.done (((0:Int)==x9)&&(((0:Int)==x10)&&((false==x11)&&((false==x12)&&true))))) (.done false)) (.done false)) (.done false))) (.done false))))))) (.ask ((x0==(2:Int))) (.opt (qAH n x0 x1 x2 x3 x4 x5 x6 x7 x8 x9 x10 x11 x12 x13) fun r285=>(.ask (r285) (.opt (qAX n x0 x1 x2 x3 x4 x5 x6 x7 x8 x9 x10 x11 x12 x13) fun r286=>(.ask (r286) (.ask ((((0:Int)==x2)&&(((0:Int)==x3)&&(((⟨#[]⟩:BA).toList==x4.toList)&&true)))) (.ask (((x5==x5)&&((x6==x6)&&((x7==x7)&&((x8==x8)&&true))))) (.done (((0:Int)==x9)&&(((0:Int)==x10)&&((false==x11)&&((false==x12)&&true))))) (.done false)) (.done false)) (.done false))) (.done false))) (.ask ((x0==(3:Int))) (.opt (qAH n x0 x1 x2 x3 x4 x5 x6 x7 x8 x9 x10 x11 x12 x13) fun r287=>(.ask (r287) (.opt (qAX n x0 x1 x2 x3 x4 x5 x6 x7 x8 x9 x10 x11 x12 x13) fun r288=>(.ask (r288) (.ask ((((0:Int)==x2)&&(((0:Int)==x3)&&(((⟨#[]⟩:BA).toList==x4.toList)&&true)))) (.ask (((x5==x5)&&((x6==x6)&&((x7==x7)&&((x8==x8)&&true))))) (.done ((x9==x9)&&((x10==x10)&&((x11==x11)&&((x12==x12)&&true))))) (.done false)) (.done false)) (.done false))) (.done false))) (.ask ((x0==(4:Int))) (.opt (qAH n x0 x1 x2 x3 x4 x5 x6 x7 x8 x9 x10 x11 x12 x13) fun r289=>(.ask (r289) (.opt (qAX n x0 x1 x2 x3 x4 x5 x6 x7 x8 x9 x10 x11 x12 x13) fun r290=>(.ask (r290) (.ask ((((0:Int)==x2)&&(((0:Int)==x3)&&(((⟨#[]⟩:BA).toList==x4.toList)&&true)))) (.ask ((((0:Int)==x5)&&(((0:Int)==x6)&&((false==x7)&&((false==x8)&&true))))) (.done (((0:Int)==x9)&&(((0:Int)==x10)&&((false==x11)&&((false==x12)&&true))))) (.done false)) (.done false)) (.done false))) (.done false))) (.ask ((x0==(5:Int))) (.opt (qAH n x0 x1 x2 x3 x4 x5 x6 x7 x8 x9 x10 x11 x12 x13) fun r291=>(.ask (r291) (.opt (qAX n x0 x1 x2 x3 x4 x5 x6 x7 x8 x9 x10 x11 x12 x13) fun r292=>(.ask (r292) (.ask ((((0:Int)==x2)&&(((0:Int)==x3)&&(((⟨#[]⟩:BA).toList==x4.toList)&&true)))) (.ask ((((0:Int)==x5)&&(((0:Int)==x6)&&((false==x7)&&((false==x8)&&true))))) (.done (((0:Int)==x9)&&(((0:Int)==x10)&&((false==x11)&&((false==x12)&&true))))) (.done false)) (.done false)) (.done false))) (.done false))) (.ask ((x0==(6:Int))) (.opt (qAH n x0 x1 x2 x3 x4 x5 x6 x7 x8 x9 x10 x11 x12 x13) fun r293=>(.ask (r293) (.opt (qAX n x0 x1 x2 x3 x4 x5 x6 x7 x8 x9 x10 x11 x12 x13) fun r294=>(.ask (r294) (.ask ((((0:Int)==x2)&&(((0:Int)==x3)&&(((⟨#[]⟩:BA).toList==x4.toList)&&true)))) (.ask ((((0:Int)==x5)&&(((0:Int)==x6)&&((false==x7)&&((false==x8)&&true))))) (.done (((0:Int)==x9)&&(((0:Int)==x10)&&((false==x11)&&((false==x12)&&true))))) (.done false)) (.done false)) (.done false))) (.done false))) (.done false)))))))
def qD1:Nat→Int→Int→Int→Int→BA→Int→Int→Bool→Bool→Int→Int→Bool→Bool→RW→Option (Bool)
 |0,_,_,_,_,_,_,_,_,_,_,_,_,_,_=>none
 |n+1,x0,x1,x2,x3,x4,x5,x6,x7,x8,x9,x10,x11,x12,x13=>(qFI n x0 x1 x2 x3 x4 x5 x6 x7 x8 x9 x10 x11 x12 x13).run
abbrev qM4 (n:Nat):List (Ent (Rn n)):= [en (qGr n),en (qJy n),en (qLH n)]
theorem qMH:∀n,Ok (Rn n) qM3 (qD1 n)
 |0=>ok0 fun _=>rfl
 |n+1=>stO (T:=qFI n) (by kernel_rfl) (qM4 n) [] (fun _=>(by kernel_rfl)) fun _=>(by kernel_rfl)
def qLI:Sg:=⟨198,[aL,aI,aI],[],⟨aI,[],[]⟩⟩
def qAd (rec:RW→Int→Int→Option (Int)) (n:Nat) (v:RW×Int×Int×Int×Int):Tr ((RW×Int×Int×Int×Int)⊕((Int)⊕(Int))):=(.ask ((decide (v.2.2.2.2≥(0:Int)))) (.ask (decide (0≤v.2.1∧v.2.1<v.1.length)) (.opt (v.1[(v.2.1).toNat]?) fun e298=>(.ask (decide (e298.length=14)) (.opt (zAb e298 13) fun y299=>(.ask (decide (0≤v.2.2.2.2∧v.2.2.2.2<y299.length)) (.opt (y299[(v.2.2.2.2).toNat]?) fun e300=>(.ask (decide (e300.length=1)) (.opt (zB .i64 e300 0) fun y301=>(.ask ((y301 !=(IntKind.i64.wrap (v.2.2.2.1-(1:Int))))) (.done (.inr (.inl ((-1:Int))))) (.ask ((decide (y301<(0:Int)))) (.done (.inr (.inl ((-1:Int))))) (.ask (decide (0≤y301∧y301<v.1.length)) (.opt (v.1[(y301).toNat]?) fun e302=>(.ask (decide (e302.length=14)) (.opt (zB .i64 e302 0) fun y303=>(.ask ((y303==(3:Int))) (.ask (decide (0≤v.2.1∧v.2.1<v.1.length)) (.opt (v.1[(v.2.1).toNat]?) fun e304=>(.ask (decide (e304.length=14)) (.opt (zB .i64 e304 0) fun y305=>(.ask ((y305 !=(6:Int))) (.done (.inr (.inl ((-1:Int))))) (.opt (rec v.1 y301 (IntKind.i64.wrap (v.2.2.1+(1:Int)))) fun r306=>(.ask ((decide (r306<(0:Int)))) (.done (.inr (.inl ((-1:Int))))) (.done (.inl (v.1,v.2.1,v.2.2.1,r306,(IntKind.i64.wrap (v.2.2.2.2-(1:Int)))))))))) .fail)) .fail) (.opt (rec v.1 y301 (IntKind.i64.wrap (v.2.2.1+(1:Int)))) fun r307=>(.ask ((decide (r307<(0:Int)))) (.done (.inr (.inl ((-1:Int))))) (.done (.inl (v.1,v.2.1,v.2.2.1,r307,(IntKind.i64.wrap (v.2.2.2.2-(1:Int)))))))))) .fail)) .fail)))) .fail)) .fail)) .fail)) .fail) (.done (.inr (.inr (v.2.2.2.1)))))
def qGb (rec:RW→Int→Int→Option (Int)) (n:Nat) (x0:RW) (x1 x2:Int):Tr (Int):=(.ask ((decide (x1<(0:Int)))) (.done (-1:Int)) (.ask ((decide (x2≥(12:Int)))) (.done (-1:Int)) (.ask (decide (0≤x1∧x1<x0.length)) (.opt (x0[(x1).toNat]?) fun e255=>(.ask (decide (e255.length=14)) (.opt (zB .i64 e255 0) fun y256=>(.opt (zB .i64 e255 1) fun y257=>(.opt (zB .i64 e255 2) fun y258=>(.opt (zB .i64 e255 3) fun y259=>(.opt (zY e255 4) fun y260=>(.opt (zB .i64 e255 5) fun y261=>(.opt (zB .i64 e255 6) fun y262=>(.opt (zo e255 7) fun y263=>(.opt (zo e255 8) fun y264=>(.opt (zB .i64 e255 9) fun y265=>(.opt (zB .i64 e255 10) fun y266=>(.opt (zo e255 11) fun y267=>(.opt (zo e255 12) fun y268=>(.opt (zAb e255 13) fun y269=>(.opt (qD1 n y256 y257 y258 y259 y260 y261 y262 y263 y264 y265 y266 y267 y268 y269) fun r295=>(.ask ((!r295)) (.done (-1:Int)) (.ask (decide (0≤x1∧x1<x0.length)) (.opt (x0[(x1).toNat]?) fun e296=>(.ask (decide (e296.length=14)) (.opt (zAb e296 13) fun y297=>(.opt (zC (qAd rec n) n (x0,x1,x2,x1,(IntKind.i64.wrap ((y297.length:Int)-(1:Int))))) fun r308=>(.alt r308 (fun r309=>(.done r309)) (fun r310=>(.done r310))))) .fail)) .fail))))))))))))))))) .fail)) .fail)))
def qAu:Nat→RW→Int→Int→Option (Int)
 |0,_,_,_=>none
 |n+1,x0,x1,x2=>(qGb (qAu n) n x0 x1 x2).run
abbrev qPO (n:Nat) (ih:Ok (Rn n) qLI (qAu n)):List (Ent (Rn n)):= [en (qMH n),en ih]
def qRE (n:Nat) (ih:Ok (Rn n) qLI (qAu n)):LEnt (KB 198) (Rn n) n:=lok (zK 198) 61 ⟨⟨[(0,aL),(1,aI),(2,aI),(7,aI),(8,aI)],[],[]⟩,[(.ret,⟨[(6,aI)],[],[]⟩),(.exit 0,⟨[(7,aI)],[],[]⟩)]⟩ (qAd (qAu n) n) (qPO n ih) [] fun _=>(by kernel_rfl)
theorem qJz:∀n,Ok (Rn n) qLI (qAu n)
 |0=>ok0 fun _=>rfl
 |n+1=>stO (T:=qGb (qAu n) n) (by kernel_rfl) (qPO n (qJz n)) [qRE n (qJz n)] (fun _=>(by kernel_rfl)) fun _=>(by kernel_rfl)
def qOo:Sg:=⟨161,[aL],[],⟨aB,[],[]⟩⟩
def qDs (n:Nat) (x0:RW):Tr (Bool):=(.opt (qAW n (x0.length:Int) (1:Int) (60:Int)) fun r252=>(.ask (r252) (.ask (decide (0≤(IntKind.i64.wrap ((x0.length:Int)-(1:Int)))∧(IntKind.i64.wrap ((x0.length:Int)-(1:Int)))<x0.length)) (.opt (x0[((IntKind.i64.wrap ((x0.length:Int)-(1:Int)))).toNat]?) fun e253=>(.ask (decide (e253.length=14)) (.opt (zB .i64 e253 0) fun y254=>(.ask ((y254 !=(3:Int))) (.opt (qAu n x0 (IntKind.i64.wrap ((x0.length:Int)-(1:Int))) (0:Int)) fun r311=>(.done (r311==(0:Int)))) (.done false))) .fail)) .fail) (.done false)))
def qCB:Nat→RW→Option (Bool)
 |0,_=>none
 |n+1,x0=>(qDs n x0).run
abbrev qOp (n:Nat):List (Ent (Rn n)):= [en (qDp n),en (qJz n)]
theorem qIU:∀n,Ok (Rn n) qOo (qCB n)
 |0=>ok0 fun _=>rfl
 |n+1=>stO (T:=qDs n) (by kernel_rfl) (qOp n) [] (fun _=>(by kernel_rfl)) fun _=>(by kernel_rfl)
def qM5:Sg:=⟨119,[aS],[],⟨(.tup [(false,[qL]),(false,[qB])]),[],[]⟩⟩
def qHz (n:Nat) (x0:BA):Tr (RW×Bool):=(.opt (qDV n x0 (200:Int)) fun r111=>(.ask ((!r111)) (.ask (decide (0=([]:RW).length)) (.done (([]:RW),false)) .fail) (.opt (qDL n (1:Int) (0:Int) x0 (0:Nat) false ([]:RW)) fun r250=>(.opt (qBA n r250.2.1 r250.2.2.1 r250.2.2.2.1 r250.2.2.2.2) fun r251=>(.ask (r251.2.2.1) (.ask (decide (0=([]:RW).length)) (.done (([]:RW),false)) .fail) (.ask ((!(r251.1.toList==(⟨#[]⟩:BA).toList))) (.ask (decide (0=([]:RW).length)) (.done (([]:RW),false)) .fail) (.ask (decide (r251.2.1=r251.2.2.2.length)) (.opt (qCB n r251.2.2.2) fun r312=>(.ask (zd (⟨(.c (.p (.b r312))),[],[]⟩:Res)) (.ask ((!r312)) (.ask (decide (0=([]:RW).length)) (.done (([]:RW),false)) .fail) (.ask (decide (r251.2.1=r251.2.2.2.length)) (.done (r251.2.2.2,true)) .fail)) .fail)) .fail)))))))
def qD2:Nat→BA→Option (RW×Bool)
 |0,_=>none
 |n+1,x0=>(qHz n x0).run
abbrev qM6 (n:Nat):List (Ent (Rn n)):= [en (qHl n),en (qKg n),en (qC3 n),en (qIU n)]
theorem qHC:∀n,Ok (Rn n) qM5 (qD2 n)
 |0=>ok0 fun _=>rfl
 |n+1=>stO (T:=qHz n) (by kernel_rfl) (qM6 n) [] (fun _=>(by kernel_rfl)) fun _=>(by kernel_rfl)
def qGc:Sg:=⟨251,[aS,aS,aS],[],⟨aS,[],[]⟩⟩
def qEZ:Nat→BA→BA→BA→Option ((BA))
 |0,_,_,_=>none
 |n+1,x0,x1,x2=>ze x0 x1 x2
theorem qKj:∀n,Ok (Rn n) qGc (qEZ n)
 |0=>ok0 fun _=>rfl
 |n+1=>stL zw (by kernel_rfl) (fun _ _=>rfl) (fun a r e=>congrArg (Option.map fun r=>(qGc.Of r).v) e) rfl rfl rfl
def qLJ:Sg:=⟨252,[aL,aS],[],⟨aS,[],[]⟩⟩
def qH0:Nat→RW→BA→Option ((BA))
 |0,_,_=>none
 |n+1,x0,x1=>zAd x0 x1
theorem qP0:∀n,Ok (Rn n) qLJ (qH0 n)
 |0=>ok0 fun _=>rfl
 |n+1=>stL zAe (by kernel_rfl) (fun _ _=>rfl) (fun a r e=>congrArg (Option.map fun r=>(qLJ.Of r).v) e) rfl rfl rfl
def qFJ:Sg:=⟨225,[aL,aI,aI],[],⟨aS,[],[]⟩⟩
def qBt (rec:RW→Int→Int→Option (BA)) (n:Nat) (v:RW×Nat×RW×Int×Int×Int×Int×Int×Int×BA×Int×Int×Bool×Bool×Int×Int×Bool×Bool×RW×RW):Tr ((RW×Nat×RW×Int×Int×Int×Int×Int×Int×BA×Int×Int×Bool×Bool×Int×Int×Bool×Bool×RW×RW)⊕((Nat×Int×Int×Int×Int×BA×Int×Int×Bool×Bool×Int×Int×Bool×Bool×RW×RW))):=(.ask ((decide (v.2.2.2.2.1<v.2.2.2.1))) (.ask (decide (0≤v.2.2.2.2.1∧v.2.2.2.2.1<v.2.2.1.length)) (.opt (v.2.2.1[(v.2.2.2.2.1).toNat]?) fun e346=>(.ask (decide (e346.length=1)) (.opt (zB .i64 e346 0) fun y347=>(.opt (rec v.1 y347 (1:Int)) fun r348=>(.ask (decide (1=([[(.s r348)]]:RW).length)) (.ask (decide (v.2.1=v.2.2.2.2.2.2.2.2.2.2.2.2.2.2.2.2.2.2.2.length∧0<1∧0<16∧(v.2.1+([[(.s r348)]]:RW).length)*16≤140737488355328∧([[(.s r348)]]:RW).all (fun e=>e.length==1)=true)) (.done (.inl (v.1,(v.2.1+1),v.2.2.1,v.2.2.2.1,(IntKind.i64.wrap (v.2.2.2.2.1+(1:Int))),v.2.2.2.2.2.1,v.2.2.2.2.2.2.1,v.2.2.2.2.2.2.2.1,v.2.2.2.2.2.2.2.2.1,v.2.2.2.2.2.2.2.2.2.1,v.2.2.2.2.2.2.2.2.2.2.1,v.2.2.2.2.2.2.2.2.2.2.2.1,v.2.2.2.2.2.2.2.2.2.2.2.2.1,v.2.2.2.2.2.2.2.2.2.2.2.2.2.1,v.2.2.2.2.2.2.2.2.2.2.2.2.2.2.1,v.2.2.2.2.2.2.2.2.2.2.2.2.2.2.2.1,v.2.2.2.2.2.2.2.2.2.2.2.2.2.2.2.2.1,v.2.2.2.2.2.2.2.2.2.2.2.2.2.2.2.2.2.1,v.2.2.2.2.2.2.2.2.2.2.2.2.2.2.2.2.2.2.1,(v.2.2.2.2.2.2.2.2.2.2.2.2.2.2.2.2.2.2.2++([[(.s r348)]]:RW))))) .fail) .fail))) .fail)) .fail) (.done (.inr ((v.2.1,v.2.2.2.2.2.1,v.2.2.2.2.2.2.1,v.2.2.2.2.2.2.2.1,v.2.2.2.2.2.2.2.2.1,v.2.2.2.2.2.2.2.2.2.1,v.2.2.2.2.2.2.2.2.2.2.1,v.2.2.2.2.2.2.2.2.2.2.2.1,v.2.2.2.2.2.2.2.2.2.2.2.2.1,v.2.2.2.2.2.2.2.2.2.2.2.2.2.1,v.2.2.2.2.2.2.2.2.2.2.2.2.2.2.1,v.2.2.2.2.2.2.2.2.2.2.2.2.2.2.2.1,v.2.2.2.2.2.2.2.2.2.2.2.2.2.2.2.2.1,v.2.2.2.2.2.2.2.2.2.2.2.2.2.2.2.2.2.1,v.2.2.2.2.2.2.2.2.2.2.2.2.2.2.2.2.2.2.1,v.2.2.2.2.2.2.2.2.2.2.2.2.2.2.2.2.2.2.2)))))
def qAw (rec:RW→Int→Int→Option (BA)) (n:Nat) (x0:RW) (x1 x2:Int):Tr (BA):=(.ask (decide (0≤x1∧x1<x0.length)) (.opt (x0[(x1).toNat]?) fun e315=>(.ask (decide (e315.length=14)) (.opt (zB .i64 e315 0) fun y316=>(.opt (zB .i64 e315 1) fun y317=>(.opt (zB .i64 e315 2) fun y318=>(.opt (zB .i64 e315 3) fun y319=>(.opt (zY e315 4) fun y320=>(.opt (zB .i64 e315 5) fun y321=>(.opt (zB .i64 e315 6) fun y322=>(.opt (zo e315 7) fun y323=>(.opt (zo e315 8) fun y324=>(.opt (zB .i64 e315 9) fun y325=>(.opt (zB .i64 e315 10) fun y326=>(.opt (zo e315 11) fun y327=>(.opt (zo e315 12) fun y328=>(.opt (zAb e315 13) fun y329=>(.ask ((y316==(1:Int))) (.ask ((y318==(2:Int))) (.opt (qEZ n y320 (⟨#[34]⟩:BA) (⟨#[34,34]⟩:BA)) fun r330=>(.ask (decide ((⟨#[34]⟩:BA).size+r330.size≤9223372036854775807)) (.ask (decide (((⟨#[34]⟩:BA)++r330).size+(⟨#[34]⟩:BA).size≤9223372036854775807)) (.done (((⟨#[34]⟩:BA)++r330)++(⟨#[34]⟩:BA))) .fail) .fail)) (.opt (qu n y318 y319 y320) fun r331=>(.done r331))) (.ask ((y316==(2:Int))) (.opt (qBM n y321 y322 y323 y324) fun r332=>(.done r332)) (.ask ((y316==(3:Int))) (.opt (qBM n y321 y322 y323 y324) fun r333=>(.ask (decide (r333.size+(⟨#[58]⟩:BA).size≤9223372036854775807)) (.opt (qBM n y325 y326 y327 y328) fun r334=>(.ask (decide ((r333++(⟨#[58]⟩:BA)).size+r334.size≤9223372036854775807)) (.done ((r333++(⟨#[58]⟩:BA))++r334)) .fail)) .fail)) (.ask ((y316==(4:Int))) (.ask (decide (0≤(0:Int)∧(0:Int)<y329.length)) (.opt (y329[((0:Int)).toNat]?) fun e335=>(.ask (decide (e335.length=1)) (.opt (zB .i64 e335 0) fun y336=>(.opt (rec x0 y336 (5:Int)) fun r337=>(.ask (decide ((⟨#[45]⟩:BA).size+r337.size≤9223372036854775807)) (.done ((⟨#[45]⟩:BA)++r337)) .fail))) .fail)) .fail) (.ask ((y316==(5:Int))) (.opt (qEk n y317) fun r338=>(.ask (decide (0≤(0:Int)∧(0:Int)<y329.length)) (.opt (y329[((0:Int)).toNat]?) fun e339=>(.ask (decide (e339.length=1)) (.opt (zB .i64 e339 0) fun y340=>(.ask (decide (0≤(1:Int)∧(1:Int)<y329.length)) (.opt (y329[((1:Int)).toNat]?) fun e341=>(.ask (decide (e341.length=1)) (.opt (zB .i64 e341 0) fun y342=>(.opt (rec x0 y340 r338) fun r343=>(.opt (qBn n y317) fun r344=>(.ask (decide (r343.size+r344.size≤9223372036854775807)) (.opt (rec x0 y342 (IntKind.i64.wrap (r338+(1:Int)))) fun r345=>(.ask (decide ((r343++r344).size+r345.size≤9223372036854775807)) (.ask ((decide (r338<x2))) (.ask (decide ((⟨#[40]⟩:BA).size+((r343++r344)++r345).size≤9223372036854775807)) (.ask (decide (((⟨#[40]⟩:BA)++((r343++r344)++r345)).size+(⟨#[41]⟩:BA).size≤9223372036854775807)) (.done (((⟨#[40]⟩:BA)++((r343++r344)++r345))++(⟨#[41]⟩:BA))) .fail) .fail) (.done ((r343++r344)++r345))) .fail)) .fail)))) .fail)) .fail)) .fail)) .fail)) (.opt (zC (qBt rec n) n (x0,(0:Nat),y329,(y329.length:Int),(0:Int),y316,y317,y318,y319,y320,y321,y322,y323,y324,y325,y326,y327,y328,y329,([]:RW))) fun r349=>(.opt (qCo n r349.2.2.1) fun r350=>(.ask (decide (r350.size+(⟨#[40]⟩:BA).size≤9223372036854775807)) (.ask (decide (r349.1=r349.2.2.2.2.2.2.2.2.2.2.2.2.2.2.2.length)) (.opt (qH0 n r349.2.2.2.2.2.2.2.2.2.2.2.2.2.2.2 (⟨#[44]⟩:BA)) fun r351=>(.ask (zd (⟨(.c (.p (.s r351))),[],[]⟩:Res)) (.ask (decide ((r350++(⟨#[40]⟩:BA)).size+r351.size≤9223372036854775807)) (.ask (decide (((r350++(⟨#[40]⟩:BA))++r351).size+(⟨#[41]⟩:BA).size≤9223372036854775807)) (.done (((r350++(⟨#[40]⟩:BA))++r351)++(⟨#[41]⟩:BA))) .fail) .fail) .fail)) .fail) .fail)))))))))))))))))))))) .fail)) .fail)
def qb:Nat→RW→Int→Int→Option (BA)
 |0,_,_,_=>none
 |n+1,x0,x1,x2=>(qAw (qb n) n x0 x1 x2).run
abbrev qH1 (n:Nat) (ih:Ok (Rn n) qFJ (qb n)):List (Ent (Rn n)):= [en (qKj n),en (qIQ n),en (qIS n),en ih,en (qMY n),en (qLG n),en (qLF n),en (qP0 n)]
def qJ0 (n:Nat) (ih:Ok (Rn n) qFJ (qb n)):LEnt (KB 225) (Rn n) n:=lok (zK 225) 125 ⟨⟨[(0,aL),(7,(.c (.ptr 0 448 0 0 0))),(10,(.c (.own 0 5760 0 0))),(92,aL),(93,aI),(94,aI)],[(448,⟨0,14,162,(.box [qI,qI,qI,qI,qS,qI,qI,qB,qB,qI,qI,qB,qB,qL])⟩),(5760,⟨0,1,9,(.row [])⟩)],[]⟩,[(.exit 1,⟨[(7,(.c (.ptr 0 448 0 0 0))),(10,(.c (.own 0 5760 0 0)))],[(448,⟨0,14,162,(.box [qI,qI,qI,qI,qS,qI,qI,qB,qB,qI,qI,qB,qB,qL])⟩),(5760,⟨0,1,9,(.row [])⟩)],[]⟩)]⟩ (qBt (qb n) n) (qH1 n ih) [] fun _=>(by kernel_rfl)
theorem qEz:∀n,Ok (Rn n) qFJ (qb n)
 |0=>ok0 fun _=>rfl
 |n+1=>stO (T:=qAw (qb n) n) (by kernel_rfl) (qH1 n (qEz n)) [qJ0 n (qEz n)] (fun _=>(by kernel_rfl)) fun _=>(by kernel_rfl)
def qM7:Sg:=⟨199,[aL],[],⟨aS,[],[]⟩⟩
def qD3 (n:Nat) (x0:RW):Tr (BA):=(.opt (qCB n x0) fun r314=>(.ask ((!r314)) (.done (⟨#[]⟩:BA)) (.opt (qb n x0 (IntKind.i64.wrap ((x0.length:Int)-(1:Int))) (1:Int)) fun r352=>(.ask ((decide ((r352.size:Int)>(200:Int)))) (.done (⟨#[]⟩:BA)) (.done r352)))))
def qCC:Nat→RW→Option (BA)
 |0,_=>none
 |n+1,x0=>(qD3 n x0).run
abbrev qM8 (n:Nat):List (Ent (Rn n)):= [en (qIU n),en (qEz n)]
theorem qMI:∀n,Ok (Rn n) qM7 (qCC n)
 |0=>ok0 fun _=>rfl
 |n+1=>stO (T:=qD3 n) (by kernel_rfl) (qM8 n) [] (fun _=>(by kernel_rfl)) fun _=>(by kernel_rfl)
def qP1:Sg:=⟨167,[aL],[],⟨(.tup [(false,[qS]),(false,[qB])]),[],[]⟩⟩
def qKP (n:Nat) (x0:RW):Tr (BA×Bool):=(.opt (qCC n x0) fun r353=>(.ask (decide ((⟨#[61]⟩:BA).size+r353.size≤9223372036854775807)) (.ask ((!(r353.toList==(⟨#[]⟩:BA).toList))) (.done (((⟨#[61]⟩:BA)++r353),(decide ((r353.size:Int)<(200:Int))))) (.done (((⟨#[61]⟩:BA)++r353),false))) .fail))
def qGt:Nat→RW→Option (BA×Bool)
 |0,_=>none
 |n+1,x0=>(qKP n x0).run
abbrev qP2 (n:Nat):List (Ent (Rn n)):= [en (qMI n)]
theorem qOq:∀n,Ok (Rn n) qP1 (qGt n)
 |0=>ok0 fun _=>rfl
 |n+1=>stO (T:=qKP n) (by kernel_rfl) (qP2 n) [] (fun _=>(by kernel_rfl)) fun _=>(by kernel_rfl)
def qFT:Sg:=⟨231,[aS,aS],[],⟨aS,[],[]⟩⟩
def qC8 (n:Nat) (x0 x1:BA):Tr (BA):=(.opt (qAF n x0 x1) fun r358=>(.ask (r358) (.ask (decide (0≤(x1.size:Int)∧(x1.size:Int)≤(x0.size:Int)∧(x0.size:Int)≤x0.size)) (.done (x0.extract ((x1.size:Int)).toNat ((x0.size:Int)).toNat)) .fail) (.done x0)))
def qBh:Nat→BA→BA→Option (BA)
 |0,_,_=>none
 |n+1,x0,x1=>(qC8 n x0 x1).run
abbrev qFU (n:Nat):List (Ent (Rn n)):= [en (qC7 n)]
theorem qFK:∀n,Ok (Rn n) qFT (qBh n)
 |0=>ok0 fun _=>rfl
 |n+1=>stO (T:=qC8 n) (by kernel_rfl) (qFU n) [] (fun _=>(by kernel_rfl)) fun _=>(by kernel_rfl)
def qLK:Sg:=⟨202,[aS,aS],[],⟨aS,[],[]⟩⟩
def qGd (n:Nat) (x0 x1:BA):Tr (BA):=(.opt (qBh n x0 x1) fun r359=>(.done r359))
def qEa:Nat→BA→BA→Option (BA)
 |0,_,_=>none
 |n+1,x0,x1=>(qGd n x0 x1).run
abbrev qLL (n:Nat):List (Ent (Rn n)):= [en (qFK n)]
theorem qKk:∀n,Ok (Rn n) qLK (qEa n)
 |0=>ok0 fun _=>rfl
 |n+1=>stO (T:=qGd n) (by kernel_rfl) (qLL n) [] (fun _=>(by kernel_rfl)) fun _=>(by kernel_rfl)
def qLM:Sg:=⟨109,[aS,aS],[],⟨aS,[],[]⟩⟩
def qH2:Nat→BA→BA→Option ((BA))
 |0,_,_=>none
 |n+1,x0,x1=>zAL x0 x1
theorem qP3:∀n,Ok (Rn n) qLM (qH2 n)
 |0=>ok0 fun _=>rfl
 |n+1=>stL zAc (by kernel_rfl) (fun _ _=>rfl) (fun a r e=>congrArg (Option.map fun r=>(qLM.Of r).v) e) rfl rfl rfl
def qP4:Sg:=⟨169,[aS],[],⟨aB,[],[]⟩⟩
def qKQ (n:Nat) (x0:BA):Tr (Bool):=(.opt (qEa n x0 (⟨#[45]⟩:BA)) fun r360=>(.ask ((!(r360.toList==(⟨#[]⟩:BA).toList))) (.opt (qH2 n r360 (⟨#[48,49,50,51,52,53,54,55,56,57]⟩:BA)) fun r361=>(.done (r361.toList==(⟨#[]⟩:BA).toList))) (.done false)))
def qFE:Nat→BA→Option (Bool)
 |0,_=>none
 |n+1,x0=>(qKQ n x0).run
abbrev qP5 (n:Nat):List (Ent (Rn n)):= [en (qKk n),en (qP3 n)]
theorem qOr:∀n,Ok (Rn n) qP4 (qFE n)
 |0=>ok0 fun _=>rfl
 |n+1=>stO (T:=qKQ n) (by kernel_rfl) (qP5 n) [] (fun _=>(by kernel_rfl)) fun _=>(by kernel_rfl)
def qRF:Sg:=⟨133,[aS],[],⟨(.tup [(false,[qS]),(false,[qB])]),[],[]⟩⟩
def qLN (n:Nat) (x0:BA):Tr (BA×Bool):=(.opt (qDV n x0 (200:Int)) fun r109=>(.ask ((!r109)) (.done ((⟨#[]⟩:BA),(x0.toList==(⟨#[]⟩:BA).toList))) (.ask ((x0.toList==(⟨#[]⟩:BA).toList)) (.done ((⟨#[]⟩:BA),(x0.toList==(⟨#[]⟩:BA).toList))) (.opt (q7 n x0 (⟨#[61]⟩:BA)) fun r110=>(.ask (r110.2) (.opt (qD2 n r110.1) fun r313=>(.opt (qGt n r313.1) fun r354=>(.ask ((!r313.2)) (.done ((⟨#[]⟩:BA),false)) (.ask ((!r354.2)) (.done ((⟨#[]⟩:BA),false)) (.done (r354.1,true)))))) (.opt (qBB n x0 (10:Int) (64:Int)) fun r355=>(.alt r355 (fun r356=>(.ask (true) (.opt (qFE n x0) fun r362=>(.ask (r362) (.opt (qDW n r356) fun r363=>(.opt (qAc n r363.1 r363.2.1 r363.2.2) fun r364=>(.ask (r364) (.opt (qBS n r356) fun r365=>(.done (r365,true))) (.opt (qf n x0) fun r366=>(.ask (r366.2.2.2) (.done (x0,true)) (.ask (((x0.size:Int)==(200:Int))) (.done ((⟨#[]⟩:BA),false)) (.ask (decide ((⟨#[39]⟩:BA).size+x0.size≤9223372036854775807)) (.done (((⟨#[39]⟩:BA)++x0),true)) .fail))))))) (.opt (qf n x0) fun r367=>(.ask (r367.2.2.2) (.done (x0,true)) (.ask (((x0.size:Int)==(200:Int))) (.done ((⟨#[]⟩:BA),false)) (.ask (decide ((⟨#[39]⟩:BA).size+x0.size≤9223372036854775807)) (.done (((⟨#[39]⟩:BA)++x0),true)) .fail)))))) (.opt (qf n x0) fun r368=>(.ask (r368.2.2.2) (.done (x0,true)) (.ask (((x0.size:Int)==(200:Int))) (.done ((⟨#[]⟩:BA),false)) (.ask (decide ((⟨#[39]⟩:BA).size+x0.size≤9223372036854775807)) (.done (((⟨#[39]⟩:BA)++x0),true)) .fail)))))) (fun r357=>(.ask (false) (.opt (qFE n x0) fun r369=>(.ask (r369) (.opt (qDW n r357) fun r370=>(.opt (qAc n r370.1 r370.2.1 r370.2.2) fun r371=>(.ask (r371) (.opt (qBS n r357) fun r372=>(.done (r372,true))) (.opt (qf n x0) fun r373=>(.ask (r373.2.2.2) (.done (x0,true)) (.ask (((x0.size:Int)==(200:Int))) (.done ((⟨#[]⟩:BA),false)) (.ask (decide ((⟨#[39]⟩:BA).size+x0.size≤9223372036854775807)) (.done (((⟨#[39]⟩:BA)++x0),true)) .fail))))))) (.opt (qf n x0) fun r374=>(.ask (r374.2.2.2) (.done (x0,true)) (.ask (((x0.size:Int)==(200:Int))) (.done ((⟨#[]⟩:BA),false)) (.ask (decide ((⟨#[39]⟩:BA).size+x0.size≤9223372036854775807)) (.done (((⟨#[39]⟩:BA)++x0),true)) .fail)))))) (.opt (qf n x0) fun r375=>(.ask (r375.2.2.2) (.done (x0,true)) (.ask (((x0.size:Int)==(200:Int))) (.done ((⟨#[]⟩:BA),false)) (.ask (decide ((⟨#[39]⟩:BA).size+x0.size≤9223372036854775807)) (.done (((⟨#[39]⟩:BA)++x0),true)) .fail)))))))))))))
def qH3:Nat→BA→Option (BA×Bool)
 |0,_=>none
 |n+1,x0=>(qLN n x0).run
abbrev qRG (n:Nat):List (Ent (Rn n)):= [en (qHl n),en (qCK n),en (qHC n),en (qOq n),en2 (qEx n),en (qOr n),en (qLD n),en (qGr n),en (qGs n),en (qIR n)]
theorem qP6:∀n,Ok (Rn n) qRF (qH3 n)
 |0=>ok0 fun _=>rfl
 |n+1=>stO (T:=qLN n) (by kernel_rfl) (qRG n) [] (fun _=>(by kernel_rfl)) fun _=>(by kernel_rfl)
def qP7:Sg:=⟨91,[aS],[],⟨aB,[],[]⟩⟩
def qKR (n:Nat) (x0:BA):Tr (Bool):=(.opt (qH3 n x0) fun r376=>(.ask (r376.2) (.ask ((!(x0.toList==(⟨#[]⟩:BA).toList))) (.done (r376.1.toList==x0.toList)) (.done false)) (.done false)))
def qEC:Nat→BA→Option (Bool)
 |0,_=>none
 |n+1,x0=>(qKR n x0).run
abbrev qP8 (n:Nat):List (Ent (Rn n)):= [en (qP6 n)]
theorem qOs:∀n,Ok (Rn n) qP7 (qEC n)
 |0=>ok0 fun _=>rfl
 |n+1=>stO (T:=qKR n) (by kernel_rfl) (qP8 n) [] (fun _=>(by kernel_rfl)) fun _=>(by kernel_rfl)
def qRH:Sg:=⟨47,[aL],[],⟨aB,[],[]⟩⟩
def qFo (n:Nat) (v:RW×RW×Int×Int):Tr ((RW×RW×Int×Int)⊕((Bool)⊕(RW))):=(.ask ((decide (v.2.2.2<v.2.2.1))) (.ask (decide (0≤v.2.2.2∧v.2.2.2<v.2.1.length)) (.opt (v.2.1[(v.2.2.2).toNat]?) fun e83=>(.ask (decide (e83.length=3)) (.opt (zB .i64 e83 0) fun y84=>(.opt (zB .i64 e83 1) fun y85=>(.opt (zY e83 2) fun y86=>(.opt (qCG n y84 y85) fun r87=>(.ask ((!r87)) (.done (.inr (.inl (false)))) (.ask ((decide (v.2.2.2>(0:Int)))) (.ask (decide (0≤(IntKind.i64.wrap (v.2.2.2-(1:Int)))∧(IntKind.i64.wrap (v.2.2.2-(1:Int)))<v.1.length)) (.opt (v.1[((IntKind.i64.wrap (v.2.2.2-(1:Int)))).toNat]?) fun e88=>(.ask (decide (e88.length=3)) (.opt (zB .i64 e88 0) fun y89=>(.opt (zB .i64 e88 1) fun y90=>(.opt (qB7 n y89 y90 y84 y85) fun r91=>(.ask ((decide (r91≥(0:Int)))) (.done (.inr (.inl (false)))) (.opt (qEC n y86) fun r92=>(.ask ((!r92)) (.done (.inr (.inl (false)))) (.done (.inl (v.1,v.2.1,v.2.2.1,(IntKind.i64.wrap (v.2.2.2+(1:Int)))))))))))) .fail)) .fail) (.opt (qEC n y86) fun r93=>(.ask ((!r93)) (.done (.inr (.inl (false)))) (.done (.inl (v.1,v.2.1,v.2.2.1,(IntKind.i64.wrap (v.2.2.2+(1:Int)))))))))))))) .fail)) .fail) (.done (.inr (.inr (v.1)))))
def qLO (n:Nat) (x0:RW):Tr (Bool):=(.opt (zC (qFo n) n (x0,x0,(x0.length:Int),(0:Int))) fun r94=>(.alt r94 (fun r95=>(.done r95)) (fun r96=>(.done (decide ((r96.length:Int)≤(120:Int)))))))
def qH4:Nat→RW→Option (Bool)
 |0,_=>none
 |n+1,x0=>(qLO n x0).run
abbrev qLP (n:Nat):List (Ent (Rn n)):= [en (qGS n),en (qMA n),en (qOs n)]
def qNk (n:Nat):LEnt (KB 47) (Rn n) n:=lok (zK 47) 13 ⟨⟨[(0,aL),(5,aL),(6,aI),(7,aI)],[],[]⟩,[(.ret,⟨[(2,aB)],[],[]⟩),(.exit 0,⟨[(0,aL)],[],[]⟩)]⟩ (qFo n) (qLP n) [] fun _=>(by kernel_rfl)
theorem qP9:∀n,Ok (Rn n) qRH (qH4 n)
 |0=>ok0 fun _=>rfl
 |n+1=>stO (T:=qLO n) (by kernel_rfl) (qLP n) [qNk n] (fun _=>(by kernel_rfl)) fun _=>(by kernel_rfl)
def qOt:Sg:=⟨76,[aS],[],⟨(.tup [(false,[qL]),(false,[qB])]),[],[]⟩⟩
def qGF (n:Nat) (x0:BA):Tr (RW×Bool):=(.opt (q7 n x0 (⟨#[61]⟩:BA)) fun r102=>(.ask ((!r102.2)) (.ask (decide (0=([]:RW).length)) (.done (([]:RW),false)) .fail) (.opt (qD2 n r102.1) fun r103=>(.done (r103.1,r103.2)))))
def qEl:Nat→BA→Option (RW×Bool)
 |0,_=>none
 |n+1,x0=>(qGF n x0).run
abbrev qOu (n:Nat):List (Ent (Rn n)):= [en (qCK n),en (qHC n)]
theorem qNl:∀n,Ok (Rn n) qOt (qEl n)
 |0=>ok0 fun _=>rfl
 |n+1=>stO (T:=qGF n) (by kernel_rfl) (qOu n) [] (fun _=>(by kernel_rfl)) fun _=>(by kernel_rfl)
def qRI:Sg:=⟨77,[aL],[],⟨aL,[],[]⟩⟩
def qFp (n:Nat) (v:Nat×RW×Int×Int×RW):Tr ((Nat×RW×Int×Int×RW)⊕((Nat×RW))):=(.ask ((decide (v.2.2.2.1<v.2.2.1))) (.ask (decide (0≤v.2.2.2.1∧v.2.2.2.1<v.2.1.length)) (.opt (v.2.1[(v.2.2.2.1).toNat]?) fun e105=>(.ask (decide (e105.length=14)) (.opt (zB .i64 e105 0) fun y106=>(.opt (zB .i64 e105 1) fun y107=>(.opt (zB .i64 e105 2) fun y108=>(.opt (zB .i64 e105 3) fun y109=>(.opt (zY e105 4) fun y110=>(.opt (zB .i64 e105 5) fun y111=>(.opt (zB .i64 e105 6) fun y112=>(.opt (zo e105 7) fun y113=>(.opt (zo e105 8) fun y114=>(.opt (zB .i64 e105 9) fun y115=>(.opt (zB .i64 e105 10) fun y116=>(.opt (zo e105 11) fun y117=>(.opt (zo e105 12) fun y118=>(.opt (zAb e105 13) fun y119=>(.ask ((y106==(2:Int))) (.opt (qBQ n y106 y107 y108 y109 y110 y111 y112 y113 y114 y115 y116 y117 y118 y119) fun r120=>(.ask (decide (1=([[(.i .i64 r120.1),(.i .i64 r120.2.1),(.i .i64 r120.2.2.1),(.i .i64 r120.2.2.2)]]:RW).length)) (.ask (decide (v.1=v.2.2.2.2.length∧0<4∧0<32∧(v.1+([[(.i .i64 r120.1),(.i .i64 r120.2.1),(.i .i64 r120.2.2.1),(.i .i64 r120.2.2.2)]]:RW).length)*32≤140737488355328∧([[(.i .i64 r120.1),(.i .i64 r120.2.1),(.i .i64 r120.2.2.1),(.i .i64 r120.2.2.2)]]:RW).all (fun e=>e.length==4)=true)) (.done (.inl ((v.1+1),v.2.1,v.2.2.1,(IntKind.i64.wrap (v.2.2.2.1+(1:Int))),(v.2.2.2.2++([[(.i .i64 r120.1),(.i .i64 r120.2.1),(.i .i64 r120.2.2.1),(.i .i64 r120.2.2.2)]]:RW))))) .fail) .fail)) (.ask ((y106==(3:Int))) (.opt (qBQ n y106 y107 y108 y109 y110 y111 y112 y113 y114 y115 y116 y117 y118 y119) fun r121=>(.ask (decide (1=([[(.i .i64 r121.1),(.i .i64 r121.2.1),(.i .i64 r121.2.2.1),(.i .i64 r121.2.2.2)]]:RW).length)) (.ask (decide (v.1=v.2.2.2.2.length∧0<4∧0<32∧(v.1+([[(.i .i64 r121.1),(.i .i64 r121.2.1),(.i .i64 r121.2.2.1),(.i .i64 r121.2.2.2)]]:RW).length)*32≤140737488355328∧([[(.i .i64 r121.1),(.i .i64 r121.2.1),(.i .i64 r121.2.2.1),(.i .i64 r121.2.2.2)]]:RW).all (fun e=>e.length==4)=true)) (.done (.inl ((v.1+1),v.2.1,v.2.2.1,(IntKind.i64.wrap (v.2.2.2.1+(1:Int))),(v.2.2.2.2++([[(.i .i64 r121.1),(.i .i64 r121.2.1),(.i .i64 r121.2.2.1),(.i .i64 r121.2.2.2)]]:RW))))) .fail) .fail)) (.done (.inl (v.1,v.2.1,v.2.2.1,(IntKind.i64.wrap (v.2.2.2.1+(1:Int))),v.2.2.2.2))))))))))))))))))) .fail)) .fail) (.done (.inr ((v.1,v.2.2.2.2)))))
def qLQ (n:Nat) (x0:RW):Tr (RW):=(.opt (zC (qFp n) n ((0:Nat),x0,(x0.length:Int),(0:Int),([]:RW))) fun r122=>(.ask (decide (r122.1=r122.2.length)) (.done r122.2) .fail))
def qDt:Nat→RW→Option (RW)
 |0,_=>none
 |n+1,x0=>(qLQ n x0).run
abbrev qLR (n:Nat):List (Ent (Rn n)):= [en (qHy n)]
def qNm (n:Nat):LEnt (KB 77) (Rn n) n:=lok (zK 77) 29 ⟨⟨[(3,(.c (.own 0 384 0 0))),(7,aL),(8,aI),(9,aI)],[(384,⟨0,4,159,(.row [])⟩)],[]⟩,[(.exit 0,⟨[(3,(.c (.own 0 384 0 0)))],[(384,⟨0,4,159,(.row [])⟩)],[]⟩)]⟩ (qFp n) (qLR n) [] fun _=>(by kernel_rfl)
theorem qKS:∀n,Ok (Rn n) qRI (qDt n)
 |0=>ok0 fun _=>rfl
 |n+1=>stO (T:=qLQ n) (by kernel_rfl) (qLR n) [qNm n] (fun _=>(by kernel_rfl)) fun _=>(by kernel_rfl)
def qQA:Sg:=⟨123,[(.agg [qI,qI,qI,qI]),(.agg [qI,qI])],[],⟨aB,[],[]⟩⟩
def qGu (n:Nat) (x0 x1 x2 x3 x4 x5:Int):Tr (Bool):=(.opt (qAW n x4 x0 x2) fun r135=>(.ask (r135) (.opt (qAW n x5 x1 x3) fun r136=>(.done r136)) (.done false)))
def qGv:Nat→Int→Int→Int→Int→Int→Int→Option (Bool)
 |0,_,_,_,_,_,_=>none
 |n+1,x0,x1,x2,x3,x4,x5=>(qGu n x0 x1 x2 x3 x4 x5).run
abbrev qQB (n:Nat):List (Ent (Rn n)):= [en (qDp n)]
theorem qOv:∀n,Ok (Rn n) qQA (qGv n)
 |0=>ok0 fun _=>rfl
 |n+1=>stO (T:=qGu n) (by kernel_rfl) (qQB n) [] (fun _=>(by kernel_rfl)) fun _=>(by kernel_rfl)
def qSO:Sg:=⟨122,[(.agg [qI,qI,qI,qI]),(.c (.rp [vI,vI] 0))],[],⟨aB,[],[]⟩⟩
def qI1 (n:Nat) (x0 x1 x2 x3 x4 x5:Int):Tr (Bool):=(.opt (some x4:Option Int) fun y133=>(.opt (some x5:Option Int) fun y134=>(.opt (qGv n x0 x1 x2 x3 y133 y134) fun r137=>(.done r137))))
def qGT:Nat→Int→Int→Int→Int→Int→Int→Option (Bool)
 |0,_,_,_,_,_,_=>none
 |n+1,x0,x1,x2,x3,x4,x5=>(qI1 n x0 x1 x2 x3 x4 x5).run
abbrev qSP (n:Nat):List (Ent (Rn n)):= [en (qOv n)]
theorem qRJ:∀n,Ok (Rn n) qSO (qGT n)
 |0=>ok0 fun _=>rfl
 |n+1=>stO (T:=qI1 n) (by kernel_rfl) (qSP n) [] (fun _=>(by kernel_rfl)) fun _=>(by kernel_rfl)
def qCc:Sg:=⟨162,[aL,(.c (.fn 122 [(.rp [vI,vI])]))],[],⟨aI,[],[]⟩⟩
def qi (n:Nat) (v:RW×Int×Int×Int×Int):Tr ((RW×Int×Int×Int×Int)⊕((Int)⊕(Unit))):=(.ask ((decide (v.2.2.2.2<v.2.2.2.1))) (.ask (decide (0≤v.2.2.2.2∧v.2.2.2.2<v.1.length)) (.opt (v.1[(v.2.2.2.2).toNat]?) fun e128=>(.ask (decide (e128.length=4)) (.opt (zB .i64 e128 0) fun y129=>(.opt (zB .i64 e128 1) fun y130=>(.opt (zB .i64 e128 2) fun y131=>(.opt (zB .i64 e128 3) fun y132=>(.opt (qGT n y129 y130 y131 y132 v.2.1 v.2.2.1) fun r133=>(.ask (r133) (.done (.inr (.inl (v.2.2.2.2)))) (.done (.inl (v.1,v.2.1,v.2.2.1,v.2.2.2.1,(IntKind.i64.wrap (v.2.2.2.2+(1:Int)))))))))))) .fail)) .fail) (.done (.inr (.inr (())))))
def qn (n:Nat) (x0:RW) (x1 x2:Int):Tr (Int):=(.opt (zC (qi n) n (x0,x1,x2,(x0.length:Int),(0:Int))) fun r134=>(.alt r134 (fun r135=>(.done r135)) (fun r136=>(.done (-1:Int)))))
def qAK:Nat→RW→Int→Int→Option (Int)
 |0,_,_,_=>none
 |n+1,x0,x1,x2=>(qn n x0 x1 x2).run
abbrev qA2 (n:Nat):List (Ent (Rn n)):= [en (qRJ n)]
def qCM (n:Nat):LEnt (KB 162) (Rn n) n:=lok (zK 162) 13 ⟨⟨[(0,aL),(1,(.c (.fn 122 [(.rp [vI,vI])]))),(7,aI),(8,aI)],[],[]⟩,[(.ret,⟨[(4,aI)],[],[]⟩),(.exit 0,⟨[],[],[]⟩)]⟩ (qi n) (qA2 n) [] fun _=>(by kernel_rfl)
theorem qCW:∀n,Ok (Rn n) qCc (qAK n)
 |0=>ok0 fun _=>rfl
 |n+1=>stO (T:=qn n) (by kernel_rfl) (qA2 n) [qCM n] (fun _=>(by kernel_rfl)) fun _=>(by kernel_rfl)
def qCN:Sg:=⟨121,[aL,(.c (.fn 122 [(.rp [vI,vI])]))],[],⟨aB,[],[]⟩⟩
def qAC (n:Nat) (x0:RW) (x1 x2:Int):Tr (Bool):=(.opt (qAK n x0 x1 x2) fun r137=>(.done (decide (r137≥(0:Int)))))
def qAD:Nat→RW→Int→Int→Option (Bool)
 |0,_,_,_=>none
 |n+1,x0,x1,x2=>(qAC n x0 x1 x2).run
abbrev qCO (n:Nat):List (Ent (Rn n)):= [en (qCW n)]
theorem qCI:∀n,Ok (Rn n) qCN (qAD n)
 |0=>ok0 fun _=>rfl
 |n+1=>stO (T:=qAC n) (by kernel_rfl) (qCO n) [] (fun _=>(by kernel_rfl)) fun _=>(by kernel_rfl)
def qTa:Sg:=⟨78,[aL,(.agg [qI,qI])],[],⟨aB,[],[]⟩⟩
def qLS (n:Nat) (x0:RW) (x1 x2:Int):Tr (Bool):=(.opt (qAD n x0 x1 x2) fun r138=>(.done r138))
def qGe:Nat→RW→Int→Int→Option (Bool)
 |0,_,_,_=>none
 |n+1,x0,x1,x2=>(qLS n x0 x1 x2).run
abbrev qTb (n:Nat):List (Ent (Rn n)):= [en (qCI n)]
theorem qNn:∀n,Ok (Rn n) qTa (qGe n)
 |0=>ok0 fun _=>rfl
 |n+1=>stO (T:=qLS n) (by kernel_rfl) (qTb n) [] (fun _=>(by kernel_rfl)) fun _=>(by kernel_rfl)
def qQC:Sg:=⟨84,[aL],[],⟨(.agg [qL,qL,qL]),[],[]⟩⟩
def qBg (n:Nat) (v:RW×RW×RW×Nat×RW×Int×Int×RW×Int×Int×RW×Nat×Nat×RW×RW×RW):Tr ((RW×RW×RW×Nat×RW×Int×Int×RW×Int×Int×RW×Nat×Nat×RW×RW×RW)⊕((RW×RW×Nat×RW×Int×Int×RW×Nat×Nat×RW×RW×RW))):=(.ask ((decide (v.2.2.2.2.2.2.2.2.2.1<v.2.2.2.2.2.2.2.2.1))) (.ask (decide (0≤v.2.2.2.2.2.2.2.2.2.1∧v.2.2.2.2.2.2.2.2.2.1<v.2.2.2.2.2.2.2.1.length)) (.opt (v.2.2.2.2.2.2.2.1[(v.2.2.2.2.2.2.2.2.2.1).toNat]?) fun e104=>(.ask (decide (e104.length=3)) (.opt (zB .i64 e104 0) fun y105=>(.opt (zB .i64 e104 1) fun y106=>(.opt (zY e104 2) fun y107=>(.opt (qGe n v.2.2.1 y105 y106) fun r108=>(.ask (r108) (.ask (decide (1=([[(.i .i64 v.2.2.2.2.2.2.2.2.2.1)]]:RW).length)) (.ask (decide (v.2.2.2.1=v.2.2.2.2.2.2.2.2.2.2.2.2.2.1.length∧0<1∧0<8∧(v.2.2.2.1+([[(.i .i64 v.2.2.2.2.2.2.2.2.2.1)]]:RW).length)*8≤140737488355328∧([[(.i .i64 v.2.2.2.2.2.2.2.2.2.1)]]:RW).all (fun e=>e.length==1)=true)) (.done (.inl (v.1,v.2.1,v.2.2.1,(v.2.2.2.1+1),v.2.2.2.2.1,v.2.2.2.2.2.1,v.2.2.2.2.2.2.1,v.2.2.2.2.2.2.2.1,v.2.2.2.2.2.2.2.2.1,(IntKind.i64.wrap (v.2.2.2.2.2.2.2.2.2.1+(1:Int))),v.2.2.2.2.2.2.2.2.2.2.1,v.2.2.2.2.2.2.2.2.2.2.2.1,v.2.2.2.2.2.2.2.2.2.2.2.2.1,(v.2.2.2.2.2.2.2.2.2.2.2.2.2.1++([[(.i .i64 v.2.2.2.2.2.2.2.2.2.1)]]:RW)),v.2.2.2.2.2.2.2.2.2.2.2.2.2.2.1,v.2.2.2.2.2.2.2.2.2.2.2.2.2.2.2))) .fail) .fail) (.done (.inl (v.1,v.2.1,v.2.2.1,v.2.2.2.1,v.2.2.2.2.1,v.2.2.2.2.2.1,v.2.2.2.2.2.2.1,v.2.2.2.2.2.2.2.1,v.2.2.2.2.2.2.2.2.1,(IntKind.i64.wrap (v.2.2.2.2.2.2.2.2.2.1+(1:Int))),v.2.2.2.2.2.2.2.2.2.2.1,v.2.2.2.2.2.2.2.2.2.2.2.1,v.2.2.2.2.2.2.2.2.2.2.2.2.1,v.2.2.2.2.2.2.2.2.2.2.2.2.2.1,v.2.2.2.2.2.2.2.2.2.2.2.2.2.2.1,v.2.2.2.2.2.2.2.2.2.2.2.2.2.2.2)))))))) .fail)) .fail) (.done (.inr ((v.1,v.2.1,v.2.2.2.1,v.2.2.2.2.1,v.2.2.2.2.2.1,v.2.2.2.2.2.2.1,v.2.2.2.2.2.2.2.2.2.2.1,v.2.2.2.2.2.2.2.2.2.2.2.1,v.2.2.2.2.2.2.2.2.2.2.2.2.1,v.2.2.2.2.2.2.2.2.2.2.2.2.2.1,v.2.2.2.2.2.2.2.2.2.2.2.2.2.2.1,v.2.2.2.2.2.2.2.2.2.2.2.2.2.2.2)))))
def qFL (n:Nat) (v:RW×RW×Int×Int×RW×Nat×Nat×RW×RW):Tr ((RW×RW×Int×Int×RW×Nat×Nat×RW×RW)⊕((RW×Nat×Nat×RW×RW))):=(.ask ((decide (v.2.2.2.1<v.2.2.1))) (.ask (decide (0≤v.2.2.2.1∧v.2.2.2.1<v.2.1.length)) (.opt (v.2.1[(v.2.2.2.1).toNat]?) fun e98=>(.ask (decide (e98.length=3)) (.opt (zB .i64 e98 0) fun y99=>(.opt (zB .i64 e98 1) fun y100=>(.opt (zY e98 2) fun y101=>(.opt (qEl n y101) fun r102=>(.opt (qDt n r102.1) fun r103=>(.opt (zC (qBg n) n (v.1,r102.1,r103,(0:Nat),v.2.1,v.2.2.1,v.2.2.2.1,v.1,(v.1.length:Int),(0:Int),v.2.2.2.2.1,v.2.2.2.2.2.1,v.2.2.2.2.2.2.1,([]:RW),v.2.2.2.2.2.2.2.1,v.2.2.2.2.2.2.2.2)) fun r109=>(.ask (decide (1=([[(.ls r109.2.1)]]:RW).length)) (.ask (decide (r109.2.2.2.2.2.2.2.1=r109.2.2.2.2.2.2.2.2.2.2.1.length∧0<1∧0<24∧(r109.2.2.2.2.2.2.2.1+([[(.ls r109.2.1)]]:RW).length)*24≤140737488355328∧([[(.ls r109.2.1)]]:RW).all (fun e=>e.length==1)=true)) (.ask (decide (r109.2.2.1=r109.2.2.2.2.2.2.2.2.2.1.length)) (.ask (decide (1=([[(.ls r109.2.2.2.2.2.2.2.2.2.1)]]:RW).length)) (.ask (decide (r109.2.2.2.2.2.2.2.2.1=r109.2.2.2.2.2.2.2.2.2.2.2.length∧0<1∧0<24∧(r109.2.2.2.2.2.2.2.2.1+([[(.ls r109.2.2.2.2.2.2.2.2.2.1)]]:RW).length)*24≤140737488355328∧([[(.ls r109.2.2.2.2.2.2.2.2.2.1)]]:RW).all (fun e=>e.length==1)=true)) (.done (.inl (r109.1,r109.2.2.2.1,r109.2.2.2.2.1,(IntKind.i64.wrap (r109.2.2.2.2.2.1+(1:Int))),r109.2.2.2.2.2.2.1,(r109.2.2.2.2.2.2.2.1+1),(r109.2.2.2.2.2.2.2.2.1+1),(r109.2.2.2.2.2.2.2.2.2.2.1++([[(.ls r109.2.1)]]:RW)),(r109.2.2.2.2.2.2.2.2.2.2.2++([[(.ls r109.2.2.2.2.2.2.2.2.2.1)]]:RW))))) .fail) .fail) .fail) .fail) .fail))))))) .fail)) .fail) (.done (.inr ((v.2.2.2.2.1,v.2.2.2.2.2.1,v.2.2.2.2.2.2.1,v.2.2.2.2.2.2.2.1,v.2.2.2.2.2.2.2.2)))))
def qKT (n:Nat) (x0:RW):Tr (RW×RW×RW):=(.opt (zC (qFL n) n (x0,x0,(x0.length:Int),(0:Int),x0,(0:Nat),(0:Nat),([]:RW),([]:RW))) fun r110=>(.ask (decide (r110.2.1=r110.2.2.2.1.length)) (.ask (decide (r110.2.2.1=r110.2.2.2.2.length)) (.done (r110.1,r110.2.2.2.1,r110.2.2.2.2)) .fail) .fail))
def qGw:Nat→RW→Option (RW×RW×RW)
 |0,_=>none
 |n+1,x0=>(qKT n x0).run
abbrev qGx (n:Nat):List (Ent (Rn n)):= [en (qNl n),en (qKS n),en (qNn n)]
def qLT (n:Nat):LEnt (lb 29 (KB 84)) (Rn n) n:=lok (Uniq.pick (zK 84) 29) 7645 ⟨⟨[(0,aL),(2,(.c (.ptr 0 128 0 0 0))),(3,(.c (.ptr 0 192 0 0 0))),(6,aL),(8,aL),(9,(.c (.own 0 1792 0 0))),(14,aL),(15,aI),(16,aI),(29,aL),(30,aI),(31,aI)],[(128,⟨0,3,120,(.box [(.p .nl),(.p .nl),(.p .nl)])⟩),(192,⟨0,3,120,(.box [qL,(.own 0 194 0 0),(.own 0 195 0 0)])⟩),(1792,⟨0,1,3,(.row [])⟩),(194,⟨0,1,107,(.row [])⟩),(195,⟨0,1,167,(.row [])⟩)],[]⟩,[(.exit 2,⟨[(0,aL),(2,(.c (.ptr 0 128 0 0 0))),(3,(.c (.ptr 0 192 0 0 0))),(6,aL),(9,(.c (.own 0 1792 0 0))),(14,aL),(15,aI),(16,aI)],[(128,⟨0,3,120,(.box [(.p .nl),(.p .nl),(.p .nl)])⟩),(192,⟨0,3,120,(.box [qL,(.own 0 194 0 0),(.own 0 195 0 0)])⟩),(1792,⟨0,1,3,(.row [])⟩),(194,⟨0,1,107,(.row [])⟩),(195,⟨0,1,167,(.row [])⟩)],[]⟩)]⟩ (qBg n) (qGx n) [] fun _=>(by kernel_rfl)
def qM9 (n:Nat):LEnt (KB 84) (Rn n) n:=lok (zK 84) 29 ⟨⟨[(0,aL),(2,(.c (.ptr 0 128 0 0 0))),(3,(.c (.ptr 0 192 0 0 0))),(14,aL),(15,aI),(16,aI)],[(128,⟨0,3,120,(.box [(.p .nl),(.p .nl),(.p .nl)])⟩),(192,⟨0,3,120,(.box [qL,(.own 0 194 0 0),(.own 0 195 0 0)])⟩),(194,⟨0,1,107,(.row [])⟩),(195,⟨0,1,167,(.row [])⟩)],[]⟩,[(.exit 0,⟨[(2,(.c (.ptr 0 128 0 0 0))),(3,(.c (.ptr 0 192 0 0 0)))],[(128,⟨0,3,120,(.box [(.p .nl),(.p .nl),(.p .nl)])⟩),(192,⟨0,3,120,(.box [qL,(.own 0 194 0 0),(.own 0 195 0 0)])⟩),(194,⟨0,1,107,(.row [])⟩),(195,⟨0,1,167,(.row [])⟩)],[]⟩)]⟩ (qFL n) (qGx n) [qLT n] fun _=>(by kernel_rfl)
theorem qOw:∀n,Ok (Rn n) qQC (qGw n)
 |0=>ok0 fun _=>rfl
 |n+1=>stO (T:=qKT n) (by kernel_rfl) (qGx n) [qM9 n] (fun _=>(by kernel_rfl)) fun _=>(by kernel_rfl)
def qFq:Sg:=⟨163,[aL,(.agg [qI,qI])],[],⟨aI,[],[]⟩⟩
def qBU (n:Nat) (v:RW×Int×Int×Int×Int):Tr ((RW×Int×Int×Int×Int)⊕((Int)⊕(Unit))):=(.ask ((decide (v.2.2.1<v.2.1))) (.ask (decide (0≤v.2.2.1∧v.2.2.1<v.1.length)) (.opt (v.1[(v.2.2.1).toNat]?) fun e119=>(.ask (decide (e119.length=2)) (.opt (zB .i64 e119 0) fun y120=>(.opt (zB .i64 e119 1) fun y121=>(.ask (((v.2.2.2.1==y120)&&((v.2.2.2.2==y121)&&true))) (.done (.inr (.inl (v.2.2.1)))) (.done (.inl (v.1,v.2.1,(IntKind.i64.wrap (v.2.2.1+(1:Int))),v.2.2.2.1,v.2.2.2.2)))))) .fail)) .fail) (.done (.inr (.inr (())))))
def qBu (n:Nat) (x0:RW) (x1 x2:Int):Tr (Int):=(.opt (zC (qBU n) n (x0,(x0.length:Int),(0:Int),x1,x2)) fun r122=>(.alt r122 (fun r123=>(.done r123)) (fun r124=>(.done (-1:Int)))))
def qBv:Nat→RW→Int→Int→Option (Int)
 |0,_,_,_=>none
 |n+1,x0,x1,x2=>(qBu n x0 x1 x2).run
def qE5 (n:Nat):LEnt (KB 163) (Rn n) n:=lok (zK 163) 13 ⟨⟨[(0,aL),(3,(.c (.ptr 0 192 0 0 0))),(7,aI),(8,aI)],[(192,⟨0,2,29,(.box [qI,qI])⟩)],[]⟩,[(.ret,⟨[(4,aI)],[],[]⟩),(.exit 0,⟨[],[],[]⟩)]⟩ (qBU n) [] [] fun _=>(by kernel_rfl)
theorem qFV:∀n,Ok (Rn n) qFq (qBv n)
 |0=>ok0 fun _=>rfl
 |n+1=>stO (T:=qBu n) (by kernel_rfl) [] [qE5 n] (fun _=>(by kernel_rfl)) fun _=>(by kernel_rfl)
def qE6:Sg:=⟨126,[aL,(.agg [qI,qI])],[],⟨aB,[],[]⟩⟩
def qBV (n:Nat) (x0:RW) (x1 x2:Int):Tr (Bool):=(.opt (qBv n x0 x1 x2) fun r125=>(.done (decide (r125≥(0:Int)))))
def qAs:Nat→RW→Int→Int→Option (Bool)
 |0,_,_,_=>none
 |n+1,x0,x1,x2=>(qBV n x0 x1 x2).run
abbrev qE7 (n:Nat):List (Ent (Rn n)):= [en (qFV n)]
theorem qE0:∀n,Ok (Rn n) qE6 (qAs n)
 |0=>ok0 fun _=>rfl
 |n+1=>stO (T:=qBV n) (by kernel_rfl) (qE7 n) [] (fun _=>(by kernel_rfl)) fun _=>(by kernel_rfl)
def qJ1:Sg:=⟨128,[(.agg [qI,qI]),(.c (.rp [vL] 0))],[],⟨aB,[],[]⟩⟩
def qD4 (n:Nat) (x0 x1:Int) (x2:RW):Tr (Bool):=(.opt (some x2:Option RW) fun y131=>(.opt (qGe n y131 x0 x1) fun r132=>(.done r132)))
def qCl:Nat→Int→Int→RW→Option (Bool)
 |0,_,_,_=>none
 |n+1,x0,x1,x2=>(qD4 n x0 x1 x2).run
abbrev qJ2 (n:Nat):List (Ent (Rn n)):= [en (qNn n)]
theorem qJR:∀n,Ok (Rn n) qJ1 (qCl n)
 |0=>ok0 fun _=>rfl
 |n+1=>stO (T:=qD4 n) (by kernel_rfl) (qJ2 n) [] (fun _=>(by kernel_rfl)) fun _=>(by kernel_rfl)
def qB1:Sg:=⟨164,[aL,(.c (.fn 128 [(.rp [vL])]))],[],⟨aI,[],[]⟩⟩
def qp (n:Nat) (v:RW×RW×Int×Int):Tr ((RW×RW×Int×Int)⊕((Int)⊕(Unit))):=(.ask ((decide (v.2.2.2<v.2.2.1))) (.ask (decide (0≤v.2.2.2∧v.2.2.2<v.1.length)) (.opt (v.1[(v.2.2.2).toNat]?) fun e128=>(.ask (decide (e128.length=2)) (.opt (zB .i64 e128 0) fun y129=>(.opt (zB .i64 e128 1) fun y130=>(.opt (qCl n y129 y130 v.2.1) fun r131=>(.ask (r131) (.done (.inr (.inl (v.2.2.2)))) (.done (.inl (v.1,v.2.1,v.2.2.1,(IntKind.i64.wrap (v.2.2.2+(1:Int)))))))))) .fail)) .fail) (.done (.inr (.inr (())))))
def qw (n:Nat) (x0 x1:RW):Tr (Int):=(.opt (zC (qp n) n (x0,x1,(x0.length:Int),(0:Int))) fun r132=>(.alt r132 (fun r133=>(.done r133)) (fun r134=>(.done (-1:Int)))))
def qx:Nat→RW→RW→Option (Int)
 |0,_,_=>none
 |n+1,x0,x1=>(qw n x0 x1).run
abbrev qAo (n:Nat):List (Ent (Rn n)):= [en (qJR n)]
def qBj (n:Nat):LEnt (KB 164) (Rn n) n:=lok (zK 164) 13 ⟨⟨[(0,aL),(1,(.c (.fn 128 [(.rp [vL])]))),(7,aI),(8,aI)],[],[]⟩,[(.ret,⟨[(4,aI)],[],[]⟩),(.exit 0,⟨[],[],[]⟩)]⟩ (qp n) (qAo n) [] fun _=>(by kernel_rfl)
theorem qBy:∀n,Ok (Rn n) qB1 (qx n)
 |0=>ok0 fun _=>rfl
 |n+1=>stO (T:=qw n) (by kernel_rfl) (qAo n) [qBj n] (fun _=>(by kernel_rfl)) fun _=>(by kernel_rfl)
def qBk:Sg:=⟨127,[aL,(.c (.fn 128 [(.rp [vL])]))],[],⟨aB,[],[]⟩⟩
def qq (n:Nat) (x0 x1:RW):Tr (Bool):=(.opt (qx n x0 x1) fun r135=>(.done (decide (r135≥(0:Int)))))
def qd:Nat→RW→RW→Option (Bool)
 |0,_,_=>none
 |n+1,x0,x1=>(qq n x0 x1).run
abbrev qBl (n:Nat):List (Ent (Rn n)):= [en (qBy n)]
theorem qBi:∀n,Ok (Rn n) qBk (qd n)
 |0=>ok0 fun _=>rfl
 |n+1=>stO (T:=qq n) (by kernel_rfl) (qBl n) [] (fun _=>(by kernel_rfl)) fun _=>(by kernel_rfl)
def qJ3:Sg:=⟨130,[aI,(.c (.rp [vL] 0))],[],⟨aB,[],[]⟩⟩
def qD5 (n:Nat) (x0:Int) (x1:RW):Tr (Bool):=(.opt (some x1:Option RW) fun y130=>(.ask (decide (0≤x0∧x0<y130.length)) (.opt (y130[(x0).toNat]?) fun e131=>(.ask (decide (e131.length=1)) (.opt (zo e131 0) fun y132=>(.done y132)) .fail)) .fail))
def qD6:Nat→Int→RW→Option (Bool)
 |0,_,_=>none
 |n+1,x0,x1=>(qD5 n x0 x1).run
theorem qJS:∀n,Ok (Rn n) qJ3 (qD6 n)
 |0=>ok0 fun _=>rfl
 |n+1=>stO (T:=qD5 n) (by kernel_rfl) [] [] (fun _=>(by kernel_rfl)) fun _=>(by kernel_rfl)
def qCz:Sg:=⟨165,[aL,(.c (.fn 130 [(.rp [vL])]))],[],⟨aI,[],[]⟩⟩
def qAL (n:Nat) (v:RW×RW×Int×Int):Tr ((RW×RW×Int×Int)⊕((Int)⊕(Unit))):=(.ask ((decide (v.2.2.2<v.2.2.1))) (.ask (decide (0≤v.2.2.2∧v.2.2.2<v.1.length)) (.opt (v.1[(v.2.2.2).toNat]?) fun e128=>(.ask (decide (e128.length=1)) (.opt (zB .i64 e128 0) fun y129=>(.opt (qD6 n y129 v.2.1) fun r130=>(.ask (r130) (.done (.inr (.inl (v.2.2.2)))) (.done (.inl (v.1,v.2.1,v.2.2.1,(IntKind.i64.wrap (v.2.2.2+(1:Int))))))))) .fail)) .fail) (.done (.inr (.inr (())))))
def qBC (n:Nat) (x0 x1:RW):Tr (Int):=(.opt (zC (qAL n) n (x0,x1,(x0.length:Int),(0:Int))) fun r131=>(.alt r131 (fun r132=>(.done r132)) (fun r133=>(.done (-1:Int)))))
def qAS:Nat→RW→RW→Option (Int)
 |0,_,_=>none
 |n+1,x0,x1=>(qBC n x0 x1).run
abbrev qBD (n:Nat):List (Ent (Rn n)):= [en (qJS n)]
def qCd (n:Nat):LEnt (KB 165) (Rn n) n:=lok (zK 165) 13 ⟨⟨[(0,aL),(1,(.c (.fn 130 [(.rp [vL])]))),(7,aI),(8,aI)],[],[]⟩,[(.ret,⟨[(4,aI)],[],[]⟩),(.exit 0,⟨[],[],[]⟩)]⟩ (qAL n) (qBD n) [] fun _=>(by kernel_rfl)
theorem qCs:∀n,Ok (Rn n) qCz (qAS n)
 |0=>ok0 fun _=>rfl
 |n+1=>stO (T:=qBC n) (by kernel_rfl) (qBD n) [qCd n] (fun _=>(by kernel_rfl)) fun _=>(by kernel_rfl)
def qCe:Sg:=⟨129,[aL,(.c (.fn 130 [(.rp [vL])]))],[],⟨aB,[],[]⟩⟩
def qAM (n:Nat) (x0 x1:RW):Tr (Bool):=(.opt (qAS n x0 x1) fun r134=>(.done (decide (r134≥(0:Int)))))
def qAN:Nat→RW→RW→Option (Bool)
 |0,_,_=>none
 |n+1,x0,x1=>(qAM n x0 x1).run
abbrev qCf (n:Nat):List (Ent (Rn n)):= [en (qCs n)]
theorem qCX:∀n,Ok (Rn n) qCe (qAN n)
 |0=>ok0 fun _=>rfl
 |n+1=>stO (T:=qAM n) (by kernel_rfl) (qCf n) [] (fun _=>(by kernel_rfl)) fun _=>(by kernel_rfl)
def qLU:Sg:=⟨87,[(.agg [qL,qL,qL]),aL],[],⟨aL,[],[]⟩⟩
def qCS (n:Nat) (v:RW×RW×Int×Int×RW×RW×RW×Nat×RW):Tr ((RW×RW×Int×Int×RW×RW×RW×Nat×RW)⊕((RW×RW×RW×Nat×RW))):=(.ask ((decide (v.2.2.2.1<v.2.2.1))) (.ask (decide (0≤v.2.2.2.1∧v.2.2.2.1<v.2.1.length)) (.opt (v.2.1[(v.2.2.2.1).toNat]?) fun e112=>(.ask (decide (e112.length=3)) (.opt (zB .i64 e112 0) fun y113=>(.opt (zB .i64 e112 1) fun y114=>(.opt (zY e112 2) fun y115=>(.ask (decide (0≤v.2.2.2.1∧v.2.2.2.1<v.2.2.2.2.2.1.length)) (.opt (v.2.2.2.2.2.1[(v.2.2.2.1).toNat]?) fun e116=>(.ask (decide (e116.length=1)) (.opt (zAb e116 0) fun y117=>(.opt (qDt n y117) fun r118=>(.opt (qAs n v.1 y113 y114) fun r119=>(.ask (r119) (.ask (decide (v.2.2.2.2.2.2.2.1=v.2.2.2.2.2.2.2.2.length∧0≤v.2.2.2.1∧v.2.2.2.1<((v.2.2.2.2.2.2.2.1:Nat):Int))) (.opt (v.2.2.2.2.2.2.2.2[(v.2.2.2.1).toNat]?) fun e120=>(.ask (decide (0+1≤e120.length)) (.done (.inl (v.1,v.2.1,v.2.2.1,(IntKind.i64.wrap (v.2.2.2.1+(1:Int))),v.2.2.2.2.1,v.2.2.2.2.2.1,v.2.2.2.2.2.2.1,v.2.2.2.2.2.2.2.1,(v.2.2.2.2.2.2.2.2.set (v.2.2.2.1).toNat (zJ e120 0 [(.b true)]))))) .fail)) .fail) (.opt (qd n v.1 r118) fun r121=>(.ask (decide (v.2.2.2.2.2.2.2.1=v.2.2.2.2.2.2.2.2.length∧0≤v.2.2.2.1∧v.2.2.2.1<((v.2.2.2.2.2.2.2.1:Nat):Int))) (.opt (v.2.2.2.2.2.2.2.2[(v.2.2.2.1).toNat]?) fun e122=>(.ask (decide (0+1≤e122.length)) (.done (.inl (v.1,v.2.1,v.2.2.1,(IntKind.i64.wrap (v.2.2.2.1+(1:Int))),v.2.2.2.2.1,v.2.2.2.2.2.1,v.2.2.2.2.2.2.1,v.2.2.2.2.2.2.2.1,(v.2.2.2.2.2.2.2.2.set (v.2.2.2.1).toNat (zJ e122 0 [(.b r121)]))))) .fail)) .fail)))))) .fail)) .fail)))) .fail)) .fail) (.done (.inr ((v.2.2.2.2.1,v.2.2.2.2.2.1,v.2.2.2.2.2.2.1,v.2.2.2.2.2.2.2.1,v.2.2.2.2.2.2.2.2)))))
def qDX (n:Nat) (v:Bool×RW×Int×Int×RW×RW×RW×Nat×RW):Tr ((Bool×RW×Int×Int×RW×RW×RW×Nat×RW)⊕((Bool×RW×RW×RW×Nat×RW))):=(.ask ((decide (v.2.2.2.1<v.2.2.1))) (.ask (decide (0≤v.2.2.2.1∧v.2.2.2.1<v.2.1.length)) (.opt (v.2.1[(v.2.2.2.1).toNat]?) fun e124=>(.ask (decide (e124.length=1)) (.opt (zAb e124 0) fun y125=>(.ask (decide (v.2.2.2.2.2.2.2.1=v.2.2.2.2.2.2.2.2.length∧0≤v.2.2.2.1∧v.2.2.2.1<((v.2.2.2.2.2.2.2.1:Nat):Int))) (.opt (v.2.2.2.2.2.2.2.2[(v.2.2.2.1).toNat]?) fun e126=>(.opt (zo e126 0) fun y127=>(.ask ((!y127)) (.ask (decide (v.2.2.2.2.2.2.2.1=v.2.2.2.2.2.2.2.2.length)) (.opt (qAN n y125 v.2.2.2.2.2.2.2.2) fun r128=>(.ask (zd (⟨(.c (.p (.b r128))),[],[]⟩:Res)) (.ask (r128) (.ask (decide (v.2.2.2.2.2.2.2.1=v.2.2.2.2.2.2.2.2.length∧0≤v.2.2.2.1∧v.2.2.2.1<((v.2.2.2.2.2.2.2.1:Nat):Int))) (.opt (v.2.2.2.2.2.2.2.2[(v.2.2.2.1).toNat]?) fun e129=>(.ask (decide (0+1≤e129.length)) (.done (.inl (true,v.2.1,v.2.2.1,(IntKind.i64.wrap (v.2.2.2.1+(1:Int))),v.2.2.2.2.1,v.2.2.2.2.2.1,v.2.2.2.2.2.2.1,v.2.2.2.2.2.2.2.1,(v.2.2.2.2.2.2.2.2.set (v.2.2.2.1).toNat (zJ e129 0 [(.b true)]))))) .fail)) .fail) (.done (.inl (v.1,v.2.1,v.2.2.1,(IntKind.i64.wrap (v.2.2.2.1+(1:Int))),v.2.2.2.2.1,v.2.2.2.2.2.1,v.2.2.2.2.2.2.1,v.2.2.2.2.2.2.2.1,v.2.2.2.2.2.2.2.2)))) .fail)) .fail) (.done (.inl (v.1,v.2.1,v.2.2.1,(IntKind.i64.wrap (v.2.2.2.1+(1:Int))),v.2.2.2.2.1,v.2.2.2.2.2.1,v.2.2.2.2.2.2.1,v.2.2.2.2.2.2.2.1,v.2.2.2.2.2.2.2.2)))))) .fail)) .fail)) .fail) (.done (.inr ((v.1,v.2.2.2.2.1,v.2.2.2.2.2.1,v.2.2.2.2.2.2.1,v.2.2.2.2.2.2.2.1,v.2.2.2.2.2.2.2.2)))))
def qCT (n:Nat) (v:Bool×RW×RW×RW×Nat×RW):Tr ((Bool×RW×RW×RW×Nat×RW)⊕((Nat×RW))):=(.ask (v.1) (.opt (zC (qDX n) n (false,v.2.2.2.1,(v.2.2.2.1.length:Int),(0:Int),v.2.1,v.2.2.1,v.2.2.2.1,v.2.2.2.2.1,v.2.2.2.2.2)) fun r130=>(.done (.inl (r130.1,r130.2.1,r130.2.2.1,r130.2.2.2.1,r130.2.2.2.2.1,r130.2.2.2.2.2)))) (.done (.inr ((v.2.2.2.2.1,v.2.2.2.2.2)))))
def qEb (n:Nat) (x0 x1 x2 x3:RW):Tr (RW):=(.ask (decide (0≤(x0.length:Int)∧(x0.length:Int)=(x0.length:Int)∧1*(x0.length:Int)≤140737488355328∧(x0.length:Int)≤9223372036854775807)) (.opt (zC (qCS n) n (x3,x0,(x0.length:Int),(0:Int),x0,x1,x2,((x0.length:Int)).toNat,(zAI [(.b false)] ((x0.length:Int)).toNat))) fun r123=>(.opt (zC (qCT n) n (true,r123.1,r123.2.1,r123.2.2.1,r123.2.2.2.1,r123.2.2.2.2)) fun r131=>(.ask (decide (r131.1=r131.2.length)) (.done r131.2) .fail))) .fail)
def qEc:Nat→RW→RW→RW→RW→Option (RW)
 |0,_,_,_,_=>none
 |n+1,x0,x1,x2,x3=>(qEb n x0 x1 x2 x3).run
abbrev qDM (n:Nat):List (Ent (Rn n)):= [en (qKS n),en (qE0 n),en (qBi n),en (qCX n)]
def qJT (n:Nat):LEnt (KB 87) (Rn n) n:=lok (zK 87) 29 ⟨⟨[(1,aL),(2,(.c (.ptr 0 128 0 0 0))),(5,(.c (.ptr 0 320 0 0 0))),(17,aL),(18,aI),(19,aI)],[(128,⟨0,3,120,(.box [qL,qL,qL])⟩),(320,⟨0,1,123,(.box [(.own 0 960 0 0)])⟩),(960,⟨0,1,4,(.row [])⟩)],[]⟩,[(.exit 0,⟨[(2,(.c (.ptr 0 128 0 0 0))),(5,(.c (.ptr 0 320 0 0 0)))],[(128,⟨0,3,120,(.box [qL,qL,qL])⟩),(320,⟨0,1,123,(.box [(.own 0 960 0 0)])⟩),(960,⟨0,1,4,(.row [])⟩)],[]⟩)]⟩ (qCS n) (qDM n) [] fun _=>(by kernel_rfl)
def qI2 (n:Nat):LEnt (lb 61 (KB 87)) (Rn n) n:=lok (Uniq.pick (zK 87) 61) 495 ⟨⟨[(2,(.c (.ptr 0 128 0 0 0))),(5,(.c (.ptr 0 320 0 0 0))),(9,aB),(45,aL),(46,aI),(47,aI)],[(128,⟨0,3,120,(.box [qL,qL,qL])⟩),(320,⟨0,1,123,(.box [(.own 0 960 0 0)])⟩),(960,⟨0,1,4,(.row [])⟩)],[]⟩,[(.exit 4,⟨[(2,(.c (.ptr 0 128 0 0 0))),(5,(.c (.ptr 0 320 0 0 0))),(9,aB)],[(128,⟨0,3,120,(.box [qL,qL,qL])⟩),(320,⟨0,1,123,(.box [(.own 0 960 0 0)])⟩),(960,⟨0,1,4,(.row [])⟩)],[]⟩)]⟩ (qDX n) (qDM n) [] fun _=>(by kernel_rfl)
def qJU (n:Nat):LEnt (KB 87) (Rn n) n:=lok (zK 87) 61 ⟨⟨[(2,(.c (.ptr 0 128 0 0 0))),(5,(.c (.ptr 0 320 0 0 0))),(9,aB)],[(128,⟨0,3,120,(.box [qL,qL,qL])⟩),(320,⟨0,1,123,(.box [(.own 0 960 0 0)])⟩),(960,⟨0,1,4,(.row [])⟩)],[]⟩,[(.exit 2,⟨[(5,(.c (.ptr 0 320 0 0 0)))],[(320,⟨0,1,123,(.box [(.own 0 960 0 0)])⟩),(960,⟨0,1,4,(.row [])⟩)],[]⟩)]⟩ (qCT n) (qDM n) [qI2 n] fun _=>(by kernel_rfl)
theorem qKl:∀n,Ok (Rn n) qLU (qEc n)
 |0=>ok0 fun _=>rfl
 |n+1=>stO (T:=qEb n) (by kernel_rfl) (qDM n) [qJT n,qJU n] (fun _=>(by kernel_rfl)) fun _=>(by kernel_rfl)
def qRK:Sg:=⟨42,[aL,aL],[],⟨(.c (.own 0 0 0 0)),[],[⟨0,2,29,(.row [])⟩]⟩⟩
def qEO (n:Nat) (v:RW×Nat×RW×Int×Int×RW):Tr ((RW×Nat×RW×Int×Int×RW)⊕((Nat×RW))):=(.ask ((decide (v.2.2.2.2.1<v.2.2.2.1))) (.ask (decide (0≤v.2.2.2.2.1∧v.2.2.2.2.1<v.2.2.1.length)) (.opt (v.2.2.1[(v.2.2.2.2.1).toNat]?) fun e133=>(.ask (decide (e133.length=1)) (.opt (zo e133 0) fun y134=>(.ask (y134) (.ask (decide (0≤v.2.2.2.2.1∧v.2.2.2.2.1<v.1.length)) (.opt (v.1[(v.2.2.2.2.1).toNat]?) fun e135=>(.ask (decide (e135.length=3)) (.opt (zB .i64 e135 0) fun y136=>(.opt (zB .i64 e135 1) fun y137=>(.ask (decide (1=([[(.i .i64 y136),(.i .i64 y137)]]:RW).length)) (.ask (decide (v.2.1=v.2.2.2.2.2.length∧0<2∧0<16∧(v.2.1+([[(.i .i64 y136),(.i .i64 y137)]]:RW).length)*16≤140737488355328∧([[(.i .i64 y136),(.i .i64 y137)]]:RW).all (fun e=>e.length==2)=true)) (.done (.inl (v.1,(v.2.1+1),v.2.2.1,v.2.2.2.1,(IntKind.i64.wrap (v.2.2.2.2.1+(1:Int))),(v.2.2.2.2.2++([[(.i .i64 y136),(.i .i64 y137)]]:RW))))) .fail) .fail))) .fail)) .fail) (.done (.inl (v.1,v.2.1,v.2.2.1,v.2.2.2.1,(IntKind.i64.wrap (v.2.2.2.2.1+(1:Int))),v.2.2.2.2.2))))) .fail)) .fail) (.done (.inr ((v.2.1,v.2.2.2.2.2)))))
def qH5 (n:Nat) (x0 x1:RW):Tr (Nat×RW):=(.opt (qH4 n x0) fun r97=>(.ask ((!r97)) (.done ((0:Nat),([]:RW))) (.ask ((decide ((x1.length:Int)>(120:Int)))) (.done ((0:Nat),([]:RW))) (.opt (qGw n x0) fun r111=>(.opt (qEc n r111.1 r111.2.1 r111.2.2 x1) fun r132=>(.opt (zC (qEO n) n (x0,(0:Nat),r132,(r132.length:Int),(0:Int),([]:RW))) fun r138=>(.done (r138.1,r138.2))))))))
def qFr:Nat→RW→RW→Option (Nat×RW)
 |0,_,_=>none
 |n+1,x0,x1=>(qH5 n x0 x1).run
abbrev qLV (n:Nat):List (Ent (Rn n)):= [en (qP9 n),en (qOw n),en (qKl n)]
def qNo (n:Nat):LEnt (KB 42) (Rn n) n:=lok (zK 42) 61 ⟨⟨[(0,aL),(5,(.c (.own 0 1024 0 0))),(20,aL),(21,aI),(22,aI)],[(1024,⟨0,2,29,(.row [])⟩)],[]⟩,[(.exit 0,⟨[(5,(.c (.own 0 1024 0 0)))],[(1024,⟨0,2,29,(.row [])⟩)],[]⟩)]⟩ (qEO n) (qLV n) [] fun _=>(by kernel_rfl)
theorem qQD:∀n,Ok (Rn n) qRK (qFr n)
 |0=>ok0 fun _=>rfl
 |n+1=>stO (T:=qH5 n) (by kernel_rfl) (qLV n) [qNo n] (fun _=>(by kernel_rfl)) fun _=>(by kernel_rfl)
def qTA:Sg:=⟨79,[(.agg [qI,qI]),(.agg [qI,qI])],[],⟨aB,[],[]⟩⟩
def qHL (n:Nat) (x0 x1 x2 x3:Int):Tr (Bool):=(.ask ((x0 !=x2)) (.done false) (.ask ((x1 !=x3)) (.done false) (.done true)))
def qEm:Nat→Int→Int→Int→Int→Option (Bool)
 |0,_,_,_,_=>none
 |n+1,x0,x1,x2,x3=>(qHL n x0 x1 x2 x3).run
theorem qMZ:∀n,Ok (Rn n) qTA (qEm n)
 |0=>ok0 fun _=>rfl
 |n+1=>stO (T:=qHL n) (by kernel_rfl) [] [] (fun _=>(by kernel_rfl)) fun _=>(by kernel_rfl)
def qSQ:Sg:=⟨33,[aL,aL],[],⟨aB,[],[]⟩⟩
def qDu (n:Nat) (v:RW×RW×Int):Tr ((RW×RW×Int)⊕((Bool)⊕(Unit))):=(.ask ((decide (v.2.2<(v.1.length:Int)))) (.ask (decide (0≤v.2.2∧v.2.2<v.1.length)) (.opt (v.1[(v.2.2).toNat]?) fun e140=>(.ask (decide (e140.length=2)) (.opt (zB .i64 e140 0) fun y141=>(.opt (zB .i64 e140 1) fun y142=>(.ask (decide (0≤v.2.2∧v.2.2<v.2.1.length)) (.opt (v.2.1[(v.2.2).toNat]?) fun e143=>(.ask (decide (e143.length=2)) (.opt (zB .i64 e143 0) fun y144=>(.opt (zB .i64 e143 1) fun y145=>(.opt (qEm n y141 y142 y144 y145) fun r146=>(.ask ((!r146)) (.done (.inr (.inl (false)))) (.done (.inl (v.1,v.2.1,(IntKind.i64.wrap (v.2.2+(1:Int)))))))))) .fail)) .fail))) .fail)) .fail) (.done (.inr (.inr (())))))
def qI3 (n:Nat) (x0 x1:RW):Tr (Bool):=(.ask (((x0.length:Int) !=(x1.length:Int))) (.done false) (.opt (zC (qDu n) n (x0,x1,(0:Int))) fun r147=>(.alt r147 (fun r148=>(.done r148)) (fun r149=>(.done true)))))
def qDY:Nat→RW→RW→Option (Bool)
 |0,_,_=>none
 |n+1,x0,x1=>(qI3 n x0 x1).run
abbrev qMa (n:Nat):List (Ent (Rn n)):= [en (qMZ n)]
def qOx (n:Nat):LEnt (KB 33) (Rn n) n:=lok (zK 33) 29 ⟨⟨[(0,aL),(1,aL),(5,aI)],[],[]⟩,[(.ret,⟨[(4,aB)],[],[]⟩),(.exit 0,⟨[],[],[]⟩)]⟩ (qDu n) (qMa n) [] fun _=>(by kernel_rfl)
theorem qRL:∀n,Ok (Rn n) qSQ (qDY n)
 |0=>ok0 fun _=>rfl
 |n+1=>stO (T:=qI3 n) (by kernel_rfl) (qMa n) [qOx n] (fun _=>(by kernel_rfl)) fun _=>(by kernel_rfl)
def qSR:Sg:=⟨49,[(.agg [qI,qI,qS]),(.agg [qI,qI,qS])],[],⟨aB,[],[]⟩⟩
def qI4 (n:Nat) (x0 x1:Int) (x2:BA) (x3 x4:Int) (x5:BA):Tr (Bool):=(.opt (qEm n x0 x1 x3 x4) fun r160=>(.ask ((!r160)) (.done false) (.ask ((!(x2.toList==x5.toList))) (.done false) (.done true))))
def qGU:Nat→Int→Int→BA→Int→Int→BA→Option (Bool)
 |0,_,_,_,_,_,_=>none
 |n+1,x0,x1,x2,x3,x4,x5=>(qI4 n x0 x1 x2 x3 x4 x5).run
abbrev qSS (n:Nat):List (Ent (Rn n)):= [en (qMZ n)]
theorem qRM:∀n,Ok (Rn n) qSR (qGU n)
 |0=>ok0 fun _=>rfl
 |n+1=>stO (T:=qI4 n) (by kernel_rfl) (qSS n) [] (fun _=>(by kernel_rfl)) fun _=>(by kernel_rfl)
def qRN:Sg:=⟨16,[aL,aL],[],⟨aB,[],[]⟩⟩
def qDN (n:Nat) (v:RW×RW×Int):Tr ((RW×RW×Int)⊕((Bool)⊕(Unit))):=(.ask ((decide (v.2.2<(v.1.length:Int)))) (.ask (decide (0≤v.2.2∧v.2.2<v.1.length)) (.opt (v.1[(v.2.2).toNat]?) fun e152=>(.ask (decide (e152.length=3)) (.opt (zB .i64 e152 0) fun y153=>(.opt (zB .i64 e152 1) fun y154=>(.opt (zY e152 2) fun y155=>(.ask (decide (0≤v.2.2∧v.2.2<v.2.1.length)) (.opt (v.2.1[(v.2.2).toNat]?) fun e156=>(.ask (decide (e156.length=3)) (.opt (zB .i64 e156 0) fun y157=>(.opt (zB .i64 e156 1) fun y158=>(.opt (zY e156 2) fun y159=>(.opt (qGU n y153 y154 y155 y157 y158 y159) fun r160=>(.ask ((!r160)) (.done (.inr (.inl (false)))) (.done (.inl (v.1,v.2.1,(IntKind.i64.wrap (v.2.2+(1:Int))))))))))) .fail)) .fail)))) .fail)) .fail) (.done (.inr (.inr (())))))
def qH6 (n:Nat) (x0 x1:RW):Tr (Bool):=(.ask (((x0.length:Int) !=(x1.length:Int))) (.done false) (.opt (zC (qDN n) n (x0,x1,(0:Int))) fun r161=>(.alt r161 (fun r162=>(.done r162)) (fun r163=>(.done true)))))
def qFs:Nat→RW→RW→Option (Bool)
 |0,_,_=>none
 |n+1,x0,x1=>(qH6 n x0 x1).run
abbrev qLW (n:Nat):List (Ent (Rn n)):= [en (qRM n)]
def qNp (n:Nat):LEnt (KB 16) (Rn n) n:=lok (zK 16) 29 ⟨⟨[(0,aL),(1,aL),(5,aI)],[],[]⟩,[(.ret,⟨[(4,aB)],[],[]⟩),(.exit 0,⟨[],[],[]⟩)]⟩ (qDN n) (qLW n) [] fun _=>(by kernel_rfl)
theorem qQE:∀n,Ok (Rn n) qRN (qFs n)
 |0=>ok0 fun _=>rfl
 |n+1=>stO (T:=qH6 n) (by kernel_rfl) (qLW n) [qNp n] (fun _=>(by kernel_rfl)) fun _=>(by kernel_rfl)
def qQF:Sg:=⟨80,[aI],[],⟨aS,[],[]⟩⟩
def qCD (n:Nat) (v:Int×BA):Tr ((Int×BA)⊕((BA))):=(.ask ((decide (v.1>(0:Int)))) (.ask (decide (1=([[(.i .u8 (IntKind.u8.wrap (IntKind.i64.wrap ((48:Int)+(Int.tmod v.1 (10:Int))))))]]:RW).length)) (.opt (bytesOf ([[(.i .u8 (IntKind.u8.wrap (IntKind.i64.wrap ((48:Int)+(Int.tmod v.1 (10:Int))))))]]:RW)) fun l169=>(.ask (decide ((⟨l169.toArray⟩:BA).size+v.2.size≤9223372036854775807)) (.done (.inl ((IntKind.i64.wrap (Int.tdiv v.1 (10:Int))),((⟨l169.toArray⟩:BA)++v.2)))) .fail)) .fail) (.done (.inr (v.2))))
def qGy (n:Nat) (x0:Int):Tr (BA):=(.ask ((decide (x0≤(0:Int)))) (.done (⟨#[109,48]⟩:BA)) (.opt (zC (qCD n) n (x0,(⟨#[]⟩:BA))) fun r170=>(.ask (decide ((⟨#[109]⟩:BA).size+r170.size≤9223372036854775807)) (.done ((⟨#[109]⟩:BA)++r170)) .fail)))
def qED:Nat→Int→Option (BA)
 |0,_=>none
 |n+1,x0=>(qGy n x0).run
def qNA (n:Nat):LEnt (KB 80) (Rn n) n:=lok (zK 80) 30 ⟨⟨[(0,aI),(3,aS)],[],[]⟩,[(.exit 0,⟨[(3,aS)],[],[]⟩)]⟩ (qCD n) [] [] fun _=>(by kernel_rfl)
theorem qOy:∀n,Ok (Rn n) qQF (qED n)
 |0=>ok0 fun _=>rfl
 |n+1=>stO (T:=qGy n) (by kernel_rfl) [] [qNA n] (fun _=>(by kernel_rfl)) fun _=>(by kernel_rfl)
def qOz:Sg:=⟨34,[(.c (.own 0 0 0 0)),aI],[[(0,⟨0,3,72,(.row [])⟩)]],⟨aI,[[(0,⟨0,3,72,(.row [])⟩)]],[]⟩⟩
def qE1 (n:Nat) (v:Nat×Int×Int×RW):Tr ((Nat×Int×Int×RW)⊕((Int×RW))):=(.ask ((decide (v.2.2.1<((v.1:Nat):Int)))) (.ask (decide (v.1=v.2.2.2.length∧0≤v.2.2.1∧v.2.2.1<((v.1:Nat):Int))) (.opt (v.2.2.2[(v.2.2.1).toNat]?) fun e167=>(.ask (decide (0+1≤e167.length)) (.ask (decide (v.1=(v.2.2.2.set (v.2.2.1).toNat (zJ e167 0 [(.i .i64 v.2.1)])).length∧0≤v.2.2.1∧v.2.2.1<((v.1:Nat):Int))) (.opt ((v.2.2.2.set (v.2.2.1).toNat (zJ e167 0 [(.i .i64 v.2.1)]))[(v.2.2.1).toNat]?) fun e168=>(.ask (decide (1+1≤e168.length)) (.opt (qED n (IntKind.i64.wrap ((IntKind.i64.wrap (v.2.1+(1:Int)))+(1:Int)))) fun r169=>(.ask (decide (v.1=((v.2.2.2.set (v.2.2.1).toNat (zJ e167 0 [(.i .i64 v.2.1)])).set (v.2.2.1).toNat (zJ e168 1 [(.i .i64 (IntKind.i64.wrap (v.2.1+(1:Int))))])).length∧0≤v.2.2.1∧v.2.2.1<((v.1:Nat):Int))) (.opt (((v.2.2.2.set (v.2.2.1).toNat (zJ e167 0 [(.i .i64 v.2.1)])).set (v.2.2.1).toNat (zJ e168 1 [(.i .i64 (IntKind.i64.wrap (v.2.1+(1:Int))))]))[(v.2.2.1).toNat]?) fun e170=>(.ask (decide (2+1≤e170.length)) (.done (.inl (v.1,(IntKind.i64.wrap ((IntKind.i64.wrap ((IntKind.i64.wrap (v.2.1+(1:Int)))+(1:Int)))+(1:Int))),(IntKind.i64.wrap (v.2.2.1+(1:Int))),(((v.2.2.2.set (v.2.2.1).toNat (zJ e167 0 [(.i .i64 v.2.1)])).set (v.2.2.1).toNat (zJ e168 1 [(.i .i64 (IntKind.i64.wrap (v.2.1+(1:Int))))])).set (v.2.2.1).toNat (zJ e170 2 [(.s r169)]))))) .fail)) .fail)) .fail)) .fail) .fail)) .fail) (.done (.inr ((v.2.1,v.2.2.2)))))
def qJV (n x0:Nat) (x1:Int) (x2:RW):Tr (Int×RW):=(.opt (zC (qE1 n) n (x0,x1,(0:Int),x2)) fun r171=>(.done (r171.1,r171.2)))
def qGG:Nat→Nat→Int→RW→Option (Int×RW)
 |0,_,_,_=>none
 |n+1,x0,x1,x2=>(qJV n x0 x1 x2).run
abbrev qJW (n:Nat):List (Ent (Rn n)):= [en (qOy n)]
def qMJ (n:Nat):LEnt (KB 34) (Rn n) n:=lok (zK 34) 13 ⟨⟨[(0,(.c (.own 0 0 0 0))),(1,aI),(5,aI)],[],[[(0,⟨0,3,72,(.row [])⟩)]]⟩,[(.exit 0,⟨[(1,aI)],[],[[(0,⟨0,3,72,(.row [])⟩)]]⟩)]⟩ (qE1 n) (qJW n) [] fun _=>(by kernel_rfl)
theorem qNq:∀n,Ok (Rn n) qOz (qGG n)
 |0=>ok0 fun _=>rfl
 |n+1=>stO (T:=qJV n) (by kernel_rfl) (qJW n) [qMJ n] (fun _=>(by kernel_rfl)) fun _=>(by kernel_rfl)
def qQG:Sg:=⟨35,[(.c (.own 0 0 0 0)),aI],[[(0,⟨0,2,29,(.row [])⟩)]],⟨aI,[[(0,⟨0,2,29,(.row [])⟩)]],[]⟩⟩
def qC0 (n:Nat) (v:Nat×Int×Int×RW):Tr ((Nat×Int×Int×RW)⊕((Int×RW))):=(.ask ((decide (v.2.2.1<((v.1:Nat):Int)))) (.ask (decide (v.1=v.2.2.2.length∧0≤v.2.2.1∧v.2.2.1<((v.1:Nat):Int))) (.opt (v.2.2.2[(v.2.2.1).toNat]?) fun e173=>(.ask (decide (0+1≤e173.length)) (.ask (decide (v.1=(v.2.2.2.set (v.2.2.1).toNat (zJ e173 0 [(.i .i64 v.2.1)])).length∧0≤v.2.2.1∧v.2.2.1<((v.1:Nat):Int))) (.opt ((v.2.2.2.set (v.2.2.1).toNat (zJ e173 0 [(.i .i64 v.2.1)]))[(v.2.2.1).toNat]?) fun e174=>(.ask (decide (1+1≤e174.length)) (.done (.inl (v.1,(IntKind.i64.wrap ((IntKind.i64.wrap (v.2.1+(1:Int)))+(1:Int))),(IntKind.i64.wrap (v.2.2.1+(1:Int))),((v.2.2.2.set (v.2.2.1).toNat (zJ e173 0 [(.i .i64 v.2.1)])).set (v.2.2.1).toNat (zJ e174 1 [(.i .i64 (IntKind.i64.wrap (v.2.1+(1:Int))))]))))) .fail)) .fail) .fail)) .fail) (.done (.inr ((v.2.1,v.2.2.2)))))
def qGz (n x0:Nat) (x1:Int) (x2:RW):Tr (Int×RW):=(.opt (zC (qC0 n) n (x0,x1,(0:Int),x2)) fun r175=>(.done (r175.1,r175.2)))
def qDC:Nat→Nat→Int→RW→Option (Int×RW)
 |0,_,_,_=>none
 |n+1,x0,x1,x2=>(qGz n x0 x1 x2).run
def qNB (n:Nat):LEnt (KB 35) (Rn n) n:=lok (zK 35) 13 ⟨⟨[(0,(.c (.own 0 0 0 0))),(1,aI),(5,aI)],[],[[(0,⟨0,2,29,(.row [])⟩)]]⟩,[(.exit 0,⟨[(1,aI)],[],[[(0,⟨0,2,29,(.row [])⟩)]]⟩)]⟩ (qC0 n) [] [] fun _=>(by kernel_rfl)
theorem qO0:∀n,Ok (Rn n) qQG (qDC n)
 |0=>ok0 fun _=>rfl
 |n+1=>stO (T:=qGz n) (by kernel_rfl) [] [qNB n] (fun _=>(by kernel_rfl)) fun _=>(by kernel_rfl)
def qQH:Sg:=⟨36,[aL,aI],[],⟨aI,[],[]⟩⟩
def qC1 (n:Nat) (v:RW×Int×Int):Tr ((RW×Int×Int)⊕((Int)⊕(Int))):=(.ask ((decide (v.2.2<(v.1.length:Int)))) (.ask (decide (0≤v.2.2∧v.2.2<v.1.length)) (.opt (v.1[(v.2.2).toNat]?) fun e179=>(.ask (decide (e179.length=2)) (.opt (zB .i64 e179 0) fun y180=>(.ask ((y180 !=v.2.1)) (.done (.inr (.inl ((-1:Int))))) (.ask (decide (0≤v.2.2∧v.2.2<v.1.length)) (.opt (v.1[(v.2.2).toNat]?) fun e181=>(.ask (decide (e181.length=2)) (.opt (zB .i64 e181 1) fun y182=>(.ask ((y182 !=(IntKind.i64.wrap (v.2.1+(1:Int))))) (.done (.inr (.inl ((-1:Int))))) (.done (.inl (v.1,(IntKind.i64.wrap ((IntKind.i64.wrap (v.2.1+(1:Int)))+(1:Int))),(IntKind.i64.wrap (v.2.2+(1:Int)))))))) .fail)) .fail))) .fail)) .fail) (.done (.inr (.inr (v.2.1)))))
def qG0 (n:Nat) (x0:RW) (x1:Int):Tr (Int):=(.opt (zC (qC1 n) n (x0,x1,(0:Int))) fun r183=>(.alt r183 (fun r184=>(.done r184)) (fun r185=>(.done r185))))
def qEE:Nat→RW→Int→Option (Int)
 |0,_,_=>none
 |n+1,x0,x1=>(qG0 n x0 x1).run
def qNC (n:Nat):LEnt (KB 36) (Rn n) n:=lok (zK 36) 13 ⟨⟨[(0,aL),(1,aI),(5,aI)],[],[]⟩,[(.ret,⟨[(4,aI)],[],[]⟩),(.exit 0,⟨[(1,aI)],[],[]⟩)]⟩ (qC1 n) [] [] fun _=>(by kernel_rfl)
theorem qO1:∀n,Ok (Rn n) qQH (qEE n)
 |0=>ok0 fun _=>rfl
 |n+1=>stO (T:=qG0 n) (by kernel_rfl) [] [qNC n] (fun _=>(by kernel_rfl)) fun _=>(by kernel_rfl)
def qKm:Sg:=⟨10,[aL,aL],[],⟨aB,[],[]⟩⟩
def qEM (n:Nat) (x0 x1:RW):Tr (Bool):=(.opt (qFX n x0 (1048576:Int)) fun r9=>(.ask ((decide (r9<(0:Int)))) (.done true) (.opt (qIf n x1 r9) fun r10=>(.ask ((decide (r10<(0:Int)))) (.done true) (.opt (qCt n x0) fun r18=>(.opt (qDT n x1) fun r25=>(.ask (decide (r18.1=r18.2.length)) (.ask (decide (r25.1=r25.2.length)) (.opt (qHk n r18.2 r25.2) fun r80=>(.ask (zd (⟨(.c (.own 0 0 0 r80.1)),[],[⟨0,2,29,(.row r80.2)⟩]⟩:Res)) (.opt (qCt n x0) fun r81=>(.opt (qDT n x1) fun r82=>(.ask (decide (r81.1=r81.2.length)) (.ask (decide (r82.1=r82.2.length)) (.opt (qFr n r81.2 r82.2) fun r139=>(.ask (zd (⟨(.c (.own 0 0 0 r139.1)),[],[⟨0,2,29,(.row r139.2)⟩]⟩:Res)) (.ask (decide (r139.1=r139.2.length)) (.ask (decide (r80.1=r80.2.length)) (.opt (qDY n r139.2 r80.2) fun r150=>(.ask (zd (⟨(.c (.p (.b r150))),[],[]⟩:Res)) (.ask ((!r150)) (.done false) (.opt (qCt n x0) fun r151=>(.ask (decide (r81.1=r81.2.length)) (.ask (decide (r151.1=r151.2.length)) (.opt (qFs n r81.2 r151.2) fun r164=>(.ask (zd (⟨(.c (.p (.b r164))),[],[]⟩:Res)) (.ask ((!r164)) (.done false) (.opt (qDT n x1) fun r165=>(.ask (decide (r82.1=r82.2.length)) (.ask (decide (r165.1=r165.2.length)) (.opt (qDY n r82.2 r165.2) fun r166=>(.ask (zd (⟨(.c (.p (.b r166))),[],[]⟩:Res)) (.ask ((!r166)) (.done false) (.ask (decide (r81.1=r81.2.length)) (.opt (qGG n r81.1 (1:Int) r81.2) fun r172=>(.ask (decide (r82.1=r82.2.length)) (.opt (qDC n r82.1 r172.1 r82.2) fun r176=>(.ask ((decide (r176.1<(0:Int)))) (.done false) (.ask (decide (r139.1=r139.2.length)) (.ask (decide (r80.1=r80.2.length)) (.opt (qDY n r139.2 r80.2) fun r177=>(.ask (zd (⟨(.c (.p (.b r177))),[],[]⟩:Res)) (.ask ((!r177)) (.done false) (.ask (decide (r139.1=r139.2.length)) (.opt (qDC n r139.1 (1:Int) r139.2) fun r178=>(.ask (decide (r139.1=r178.2.length)) (.opt (qEE n r178.2 (1:Int)) fun r186=>(.ask (zd (⟨(.c (.p (.i .i64 r186))),[],[]⟩:Res)) (.ask ((decide (r186<(0:Int)))) (.done false) (.ask ((r186 !=r178.1)) (.done false) (.opt (qCt n x0) fun r187=>(.opt (qDT n x1) fun r188=>(.ask (decide (r187.1=r187.2.length)) (.ask (decide (r188.1=r188.2.length)) (.opt (qFr n r187.2 r188.2) fun r189=>(.ask (zd (⟨(.c (.own 0 0 0 r189.1)),[],[⟨0,2,29,(.row r189.2)⟩]⟩:Res)) (.ask (decide (r189.1=r189.2.length)) (.ask (decide (r80.1=r80.2.length)) (.opt (qDY n r189.2 r80.2) fun r190=>(.ask (zd (⟨(.c (.p (.b r190))),[],[]⟩:Res)) (.ask ((!r190)) (.done false) (.ask (decide (r139.1=r178.2.length)) (.opt (qEE n r178.2 (1:Int)) fun r191=>(.ask (zd (⟨(.c (.p (.i .i64 r191))),[],[]⟩:Res)) (.ask ((decide (r191<(0:Int)))) (.done false) (.ask ((r191 !=r178.1)) (.done false) (.done true))) .fail)) .fail)) .fail)) .fail) .fail) .fail)) .fail) .fail))))) .fail)) .fail)) .fail)) .fail)) .fail) .fail))) .fail)) .fail)) .fail)) .fail) .fail))) .fail)) .fail) .fail))) .fail)) .fail) .fail) .fail)) .fail) .fail))) .fail)) .fail) .fail)))))))
def qF2:Nat→RW→RW→Option (Bool)
 |0,_,_=>none
 |n+1,x0,x1=>(qEM n x0 x1).run
abbrev qKn (n:Nat):List (Ent (Rn n)):= [en (qPZ n),en (qQe n),en (qPa n),en (qQh n),en (qPx n),en (qQD n),en (qRL n),en (qQE n),en (qNq n),en (qO0 n),en (qO1 n)]
theorem qJ4:∀n,Ok (Rn n) qKm (qF2 n)
 |0=>ok0 fun _=>rfl
 |n+1=>stO (T:=qEM n) (by kernel_rfl) (qKn n) [] (fun _=>(by kernel_rfl)) fun _=>(by kernel_rfl)
end
end Go.Proofs.YtkkkfjgagjdcoaaGreatDoor.KFnExactTouched

