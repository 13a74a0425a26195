import Derived.Test.YtkkkfjgagjdcoaaGreatDoorKFnExactInCircle
namespace Go.Proofs.YtkkkfjgagjdcoaaGreatDoor.KFnExactInCircle
open Go.Eng
set_option linter.unusedVariables false
set_option maxRecDepth 100000
noncomputable section
abbrev RW:=List (List PV)
abbrev BA:=ByteArray
def qQU:Sg:=⟨43,[(.agg [qI,qI,qS]),aI],[],⟨aI,[],[]⟩⟩
def qHp (n:Nat) (x0 x1:Int) (x2:BA) (x3:Int):Tr (Int):=(.ask ((decide ((IntKind.i64.wrap (x3-(x2.size:Int)))<(0:Int)))) (.done (-1:Int)) (.done (IntKind.i64.wrap (x3-(x2.size:Int)))))
def qFW:Nat→Int→Int→BA→Int→Option (Int)
 |0,_,_,_,_=>none
 |n+1,x0,x1,x2,x3=>(qHp n x0 x1 x2 x3).run
theorem qPF:∀n,Ok (Rn n) qQU (qFW n)
 |0=>ok0 fun _=>rfl
 |n+1=>stO (T:=qHp n) (by kernel_rfl) [] [] (fun _=>(by kernel_rfl)) fun _=>(by kernel_rfl)
def qPG:Sg:=⟨11,[aL,aI],[],⟨aI,[],[]⟩⟩
def qCA (n:Nat) (v:RW×Int×Int):Tr ((RW×Int×Int)⊕((Int)⊕(Int))):=(.ask ((decide (v.2.2<(v.1.length:Int)))) (.ask (decide (0≤v.2.2∧v.2.2<v.1.length)) (.opt (v.1[(v.2.2).toNat]?) fun e1=>(.ask (decide (e1.length=3)) (.opt (zC .i64 e1 0) fun y2=>(.opt (zC .i64 e1 1) fun y3=>(.opt (zX e1 2) fun y4=>(.opt (qFW n y2 y3 y4 v.2.1) fun r5=>(.ask ((decide (r5<(0:Int)))) (.done (.inr (.inl ((-1:Int))))) (.done (.inl (v.1,r5,(IntKind.i64.wrap (v.2.2+(1:Int))))))))))) .fail)) .fail) (.done (.inr (.inr (v.2.1)))))
def qGZ (n:Nat) (x0:RW) (x1:Int):Tr (Int):=(.ask ((decide ((IntKind.i64.wrap (x1-(x0.length:Int)))<(0:Int)))) (.done (-1:Int)) (.opt (zD (qCA n) n (x0,(IntKind.i64.wrap (x1-(x0.length:Int))),(0:Int))) fun r6=>(.alt r6 (fun r7=>(.done r7)) (fun r8=>(.done r8)))))
def qEl:Nat→RW→Int→Option (Int)
 |0,_,_=>none
 |n+1,x0,x1=>(qGZ n x0 x1).run
abbrev qJo (n:Nat):List (Ent (Rn n)):= [en (qPF n)]
def qME (n:Nat):LEnt (KB 11) (Rn n) n:=lok (zL 11) 61 ⟨⟨[(0,aL),(1,aI),(5,aI)],[],[]⟩,[(.ret,⟨[(4,aI)],[],[]⟩),(.exit 0,⟨[(1,aI)],[],[]⟩)]⟩ (qCA n) (qJo n) [] fun _=>(by kernel_rfl)
theorem qOD:∀n,Ok (Rn n) qPG (qEl n)
 |0=>ok0 fun _=>rfl
 |n+1=>stO (T:=qGZ n) (by kernel_rfl) (qJo n) [qME n] (fun _=>(by kernel_rfl)) fun _=>(by kernel_rfl)
def qRP:Sg:=⟨14,[(.agg [qI,qI])],[],⟨(.agg [qI,qI]),[],[]⟩⟩
def qGR (n:Nat) (x0 x1:Int):Tr (Int×Int):=(.done (x0,x1))
def qDJ:Nat→Int→Int→Option (Int×Int)
 |0,_,_=>none
 |n+1,x0,x1=>(qGR n x0 x1).run
theorem qLO:∀n,Ok (Rn n) qRP (qDJ n)
 |0=>ok0 fun _=>rfl
 |n+1=>stO (T:=qGR n) (by kernel_rfl) [] [] (fun _=>(by kernel_rfl)) fun _=>(by kernel_rfl)
def qQV:Sg:=⟨46,[(.agg [qI,qI,qS])],[],⟨(.agg [qI,qI,qS]),[],[]⟩⟩
def qHq (n:Nat) (x0 x1:Int) (x2:BA):Tr (Int×Int×BA):=(.opt (qDJ n x0 x1) fun r14=>(.done (r14.1,r14.2,x2)))
def qFX:Nat→Int→Int→BA→Option (Int×Int×BA)
 |0,_,_,_=>none
 |n+1,x0,x1,x2=>(qHq n x0 x1 x2).run
abbrev qQW (n:Nat):List (Ent (Rn n)):= [en (qLO n)]
theorem qPH:∀n,Ok (Rn n) qQV (qFX n)
 |0=>ok0 fun _=>rfl
 |n+1=>stO (T:=qHq n) (by kernel_rfl) (qQW n) [] (fun _=>(by kernel_rfl)) fun _=>(by kernel_rfl)
def qPI:Sg:=⟨13,[aL],[],⟨(.c (.own 0 0 0 0)),[],[⟨0,3,72,(.row [])⟩]⟩⟩
def qCi (n:Nat) (v:RW×Nat×Int×RW):Tr ((RW×Nat×Int×RW)⊕((Nat×RW))):=(.ask ((decide (v.2.2.1<(v.1.length:Int)))) (.ask (decide (0≤v.2.2.1∧v.2.2.1<v.1.length)) (.opt (v.1[(v.2.2.1).toNat]?) fun e10=>(.ask (decide (e10.length=3)) (.opt (zC .i64 e10 0) fun y11=>(.opt (zC .i64 e10 1) fun y12=>(.opt (zX e10 2) fun y13=>(.opt (qFX n y11 y12 y13) fun r14=>(.ask (decide (v.2.1=v.2.2.2.length∧0≤v.2.2.1∧v.2.2.1<((v.2.1:Nat):Int))) (.opt (v.2.2.2[(v.2.2.1).toNat]?) fun e15=>(.ask (decide (0+3≤e15.length)) (.done (.inl (v.1,v.2.1,(IntKind.i64.wrap (v.2.2.1+(1:Int))),(v.2.2.2.set (v.2.2.1).toNat (zx e15 0 [(.i .i64 r14.1),(.i .i64 r14.2.1),(.s r14.2.2)]))))) .fail)) .fail))))) .fail)) .fail) (.done (.inr ((v.2.1,v.2.2.2)))))
def qGa (n:Nat) (x0:RW):Tr (Nat×RW):=(.ask (decide (0≤(x0.length:Int)∧(x0.length:Int)=(x0.length:Int)∧32*(x0.length:Int)≤140737488355328∧(x0.length:Int)≤9223372036854775807)) (.opt (zD (qCi n) n (x0,((x0.length:Int)).toNat,(0:Int),(zAI [(.i .i64 (0:Int)),(.i .i64 (0:Int)),(.s (⟨#[]⟩:BA))] ((x0.length:Int)).toNat))) fun r16=>(.done (r16.1,r16.2))) .fail)
def qC7:Nat→RW→Option (Nat×RW)
 |0,_=>none
 |n+1,x0=>(qGa n x0).run
abbrev qJp (n:Nat):List (Ent (Rn n)):= [en (qPH n)]
def qMF (n:Nat):LEnt (KB 13) (Rn n) n:=lok (zL 13) 29 ⟨⟨[(0,aL),(3,(.c (.own 0 448 0 0))),(4,aI)],[(448,⟨0,3,72,(.row [])⟩)],[]⟩,[(.exit 0,⟨[(3,(.c (.own 0 448 0 0)))],[(448,⟨0,3,72,(.row [])⟩)],[]⟩)]⟩ (qCi n) (qJp n) [] fun _=>(by kernel_rfl)
theorem qOE:∀n,Ok (Rn n) qPI (qC7 n)
 |0=>ok0 fun _=>rfl
 |n+1=>stO (T:=qGa n) (by kernel_rfl) (qJp n) [qMF n] (fun _=>(by kernel_rfl)) fun _=>(by kernel_rfl)
def qPJ:Sg:=⟨92,[aS],[],⟨aB,[],[]⟩⟩
def qBY (n:Nat) (v:BA×Int):Tr ((BA×Int)⊕((Bool)⊕(BA))):=(.ask ((decide (v.2<(v.1.size:Int)))) (.ask (decide (0≤v.2)) (.opt (v.1.toList[(v.2).toNat]?) fun c21=>(.ask ((decide ((c21.toNat:Int)<(32:Int)))) (.done (.inr (.inl (false)))) (.ask (decide (0≤v.2)) (.opt (v.1.toList[(v.2).toNat]?) fun c22=>(.ask ((decide ((c22.toNat:Int)>(126:Int)))) (.done (.inr (.inl (false)))) (.done (.inl (v.1,(IntKind.i64.wrap (v.2+(1:Int)))))))) .fail))) .fail) (.done (.inr (.inr (v.1)))))
def qGb (n:Nat) (x0:BA):Tr (Bool):=(.opt (zD (qBY n) n (x0,(0:Int))) fun r23=>(.alt r23 (fun r24=>(.done r24)) (fun r25=>(.done (decide ((r25.size:Int)≤(200:Int)))))))
def qCR:Nat→BA→Option (Bool)
 |0,_=>none
 |n+1,x0=>(qGb n x0).run
def qMG (n:Nat):LEnt (KB 92) (Rn n) n:=lok (zL 92) 13 ⟨⟨[(0,aS),(3,aI)],[],[]⟩,[(.ret,⟨[(2,aB)],[],[]⟩),(.exit 0,⟨[(0,aS)],[],[]⟩)]⟩ (qBY n) [] [] fun _=>(by kernel_rfl)
theorem qFt:∀n,Ok (Rn n) qPJ (qCR n)
 |0=>ok0 fun _=>rfl
 |n+1=>stO (T:=qGb n) (by kernel_rfl) [] [qMG n] (fun _=>(by kernel_rfl)) fun _=>(by kernel_rfl)
def qLd:Sg:=⟨135,[(.c (.ptr 0 0 0 0 0))],[[(0,⟨0,4,175,(.box [qS,qI,qB,(.own 0 1 1 0)])⟩),(1,⟨1,14,162,(.row [])⟩)]],⟨(.tup []),[[(0,⟨0,4,175,(.box [qS,qI,qB,(.own 0 1 1 0)])⟩),(1,⟨1,14,162,(.row [])⟩)]],[]⟩⟩
def qDl (n:Nat) (v:BA×Int×Bool×Nat×RW):Tr ((BA×Int×Bool×Nat×RW)⊕((BA×Int×Bool×Nat×RW))):=(.ask ((decide (v.2.1<(v.1.size:Int)))) (.ask (decide (0≤v.2.1)) (.opt (v.1.toList[(v.2.1).toNat]?) fun c29=>(.ask (((c29.toNat:Int)==(32:Int))) (.done (.inl (v.1,(IntKind.i64.wrap (v.2.1+(1:Int))),v.2.2.1,v.2.2.2.1,v.2.2.2.2))) (.done (.inr ((v.1,v.2.1,v.2.2.1,v.2.2.2.1,v.2.2.2.2)))))) .fail) (.done (.inr ((v.1,v.2.1,v.2.2.1,v.2.2.2.1,v.2.2.2.2)))))
def qGc (n:Nat) (x0:BA) (x1:Int) (x2:Bool) (x3:Nat) (x4:RW):Tr (BA×Int×Bool×Nat×RW):=(.opt (zD (qDl n) n (x0,x1,x2,x3,x4)) fun r30=>(.done (r30.1,r30.2.1,r30.2.2.1,r30.2.2.2.1,r30.2.2.2.2)))
def qBl:Nat→BA→Int→Bool→Nat→RW→Option (BA×Int×Bool×Nat×RW)
 |0,_,_,_,_,_=>none
 |n+1,x0,x1,x2,x3,x4=>(qGc n x0 x1 x2 x3 x4).run
def qJq (n:Nat):LEnt (KB 135) (Rn n) n:=lok (zL 135) 1 ⟨⟨[(0,(.c (.ptr 0 0 0 0 0)))],[],[[(0,⟨0,4,175,(.box [qS,qI,qB,(.own 0 1 1 0)])⟩),(1,⟨1,14,162,(.row [])⟩)]]⟩,[(.exit 0,⟨[],[],[[(0,⟨0,4,175,(.box [qS,qI,qB,(.own 0 1 1 0)])⟩),(1,⟨1,14,162,(.row [])⟩)]]⟩)]⟩ (qDl n) [] [] fun _=>(by kernel_rfl)
theorem qD6:∀n,Ok (Rn n) qLd (qBl n)
 |0=>ok0 fun _=>rfl
 |n+1=>stO (T:=qGc n) (by kernel_rfl) [] [qJq n] (fun _=>(by kernel_rfl)) fun _=>(by kernel_rfl)
def qPK:Sg:=⟨208,[(.c (.ptr 0 0 0 0 0)),aS],[[(0,⟨0,4,175,(.box [qS,qI,qB,(.own 0 1 1 0)])⟩),(1,⟨1,14,162,(.row [])⟩)]],⟨aB,[[(0,⟨0,4,175,(.box [qS,qI,qB,(.own 0 1 1 0)])⟩),(1,⟨1,14,162,(.row [])⟩)]],[]⟩⟩
def qJr (n:Nat) (x0 x1:BA) (x2:Int) (x3:Bool) (x4:Nat) (x5:RW):Tr (Bool×BA×Int×Bool×Nat×RW):=(.opt (qBl n x1 x2 x3 x4 x5) fun r31=>(.ask (r31.2.2.1) (.done (false,r31.1,r31.2.1,r31.2.2.1,r31.2.2.2.1,r31.2.2.2.2)) (.ask ((decide ((IntKind.i64.wrap (r31.2.1+(x0.size:Int)))>(r31.1.size:Int)))) (.done (false,r31.1,r31.2.1,r31.2.2.1,r31.2.2.2.1,r31.2.2.2.2)) (.ask (decide (0≤r31.2.1∧r31.2.1≤(IntKind.i64.wrap (r31.2.1+(x0.size:Int)))∧(IntKind.i64.wrap (r31.2.1+(x0.size:Int)))≤r31.1.size)) (.ask ((!((r31.1.extract (r31.2.1).toNat ((IntKind.i64.wrap (r31.2.1+(x0.size:Int)))).toNat).toList==x0.toList))) (.done (false,r31.1,r31.2.1,r31.2.2.1,r31.2.2.2.1,r31.2.2.2.2)) (.done (true,r31.1,(IntKind.i64.wrap (r31.2.1+(x0.size:Int))),r31.2.2.1,r31.2.2.2.1,r31.2.2.2.2))) .fail))))
def qAI:Nat→BA→BA→Int→Bool→Nat→RW→Option (Bool×BA×Int×Bool×Nat×RW)
 |0,_,_,_,_,_,_=>none
 |n+1,x0,x1,x2,x3,x4,x5=>(qJr n x0 x1 x2 x3 x4 x5).run
abbrev qPL (n:Nat):List (Ent (Rn n)):= [en (qD6 n)]
theorem qEL:∀n,Ok (Rn n) qPK (qAI n)
 |0=>ok0 fun _=>rfl
 |n+1=>stO (T:=qJr n) (by kernel_rfl) (qPL n) [] (fun _=>(by kernel_rfl)) fun _=>(by kernel_rfl)
def qR3:Sg:=⟨54,[aI,aI,aI],[],⟨aB,[],[]⟩⟩
def qHU (n:Nat) (x0 x1 x2:Int):Tr (Bool):=(.ask ((decide (x0≥x1))) (.done (decide (x0≤x2))) (.done false))
def qA0:Nat→Int→Int→Int→Option (Bool)
 |0,_,_,_=>none
 |n+1,x0,x1,x2=>(qHU n x0 x1 x2).run
theorem qDx:∀n,Ok (Rn n) qR3 (qA0 n)
 |0=>ok0 fun _=>rfl
 |n+1=>stO (T:=qHU n) (by kernel_rfl) [] [] (fun _=>(by kernel_rfl)) fun _=>(by kernel_rfl)
def qPM:Sg:=⟨139,[(.agg [qI,qI,qS])],[],⟨aB,[],[]⟩⟩
def qGd (n:Nat) (x0 x1:Int) (x2:BA):Tr (Bool):=(.ask ((x0==(0:Int))) (.ask ((x1==(0:Int))) (.done (x2.toList==(⟨#[]⟩:BA).toList)) (.done false)) (.ask ((x0==(1:Int))) (.opt (qA0 n x1 (-1000000000000000:Int) (1000000000000000:Int)) fun r34=>(.ask (r34) (.done (x2.toList==(⟨#[]⟩:BA).toList)) (.done false))) (.ask ((x0==(2:Int))) (.ask ((x1==(0:Int))) (.opt (qCR n x2) fun r35=>(.done r35)) (.done false)) (.ask ((x0==(3:Int))) (.opt (qA0 n x1 (0:Int) (1:Int)) fun r36=>(.ask (r36) (.done (x2.toList==(⟨#[]⟩:BA).toList)) (.done false))) (.ask ((x0==(4:Int))) (.opt (qA0 n x1 (1:Int) (5:Int)) fun r37=>(.ask (r37) (.done (x2.toList==(⟨#[]⟩:BA).toList)) (.done false))) (.done false))))))
def qa:Nat→Int→Int→BA→Option (Bool)
 |0,_,_,_=>none
 |n+1,x0,x1,x2=>(qGd n x0 x1 x2).run
abbrev qPN (n:Nat):List (Ent (Rn n)):= [en (qDx n),en (qFt n)]
theorem qEM:∀n,Ok (Rn n) qPM (qa n)
 |0=>ok0 fun _=>rfl
 |n+1=>stO (T:=qGd n) (by kernel_rfl) (qPN n) [] (fun _=>(by kernel_rfl)) fun _=>(by kernel_rfl)
def qRQ:Sg:=⟨51,[(.agg [qI,qI])],[],⟨aB,[],[]⟩⟩
def qIl (n:Nat) (x0 x1:Int):Tr (Bool):=(.opt (qA0 n x0 (1:Int) (52:Int)) fun r39=>(.ask (r39) (.opt (qA0 n x1 (1:Int) (99:Int)) fun r40=>(.done r40)) (.done false)))
def qAM:Nat→Int→Int→Option (Bool)
 |0,_,_=>none
 |n+1,x0,x1=>(qIl n x0 x1).run
abbrev qRR (n:Nat):List (Ent (Rn n)):= [en (qDx n)]
theorem qEH:∀n,Ok (Rn n) qRQ (qAM n)
 |0=>ok0 fun _=>rfl
 |n+1=>stO (T:=qIl n) (by kernel_rfl) (qRR n) [] (fun _=>(by kernel_rfl)) fun _=>(by kernel_rfl)
def qQX:Sg:=⟨214,[(.agg [qI,qI,qI,qI])],[],⟨aB,[],[]⟩⟩
def qHr (n:Nat) (x0 x1 x2 x3:Int):Tr (Bool):=(.opt (qAM n x0 x1) fun r42=>(.ask (r42) (.opt (qAM n x2 x3) fun r43=>(.ask (r43) (.ask ((decide (x0≤x2))) (.done (decide (x1≤x3))) (.done false)) (.done false))) (.done false)))
def qFY:Nat→Int→Int→Int→Int→Option (Bool)
 |0,_,_,_,_=>none
 |n+1,x0,x1,x2,x3=>(qHr n x0 x1 x2 x3).run
abbrev qQY (n:Nat):List (Ent (Rn n)):= [en (qEH n)]
theorem qPO:∀n,Ok (Rn n) qQX (qFY n)
 |0=>ok0 fun _=>rfl
 |n+1=>stO (T:=qHr n) (by kernel_rfl) (qQY n) [] (fun _=>(by kernel_rfl)) fun _=>(by kernel_rfl)
def qQZ:Sg:=⟨215,[aI,aI],[],⟨aB,[],[]⟩⟩
def qHs (n:Nat) (x0 x1:Int):Tr (Bool):=(.ask ((x0==(1:Int))) (.ask ((decide (x1≥(1:Int)))) (.done (decide (x1≤(10:Int)))) (.done false)) (.ask ((x0==(2:Int))) (.ask ((decide (x1≥(1:Int)))) (.done (decide (x1≤(10:Int)))) (.done false)) (.ask ((x0==(3:Int))) (.ask ((decide (x1≥(1:Int)))) (.done (decide (x1≤(10:Int)))) (.done false)) (.ask ((x0==(4:Int))) (.ask ((decide (x1≥(1:Int)))) (.done (decide (x1≤(10:Int)))) (.done false)) (.ask ((x0==(6:Int))) (.ask ((decide (x1≥(1:Int)))) (.done (decide (x1≤(10:Int)))) (.done false)) (.ask ((x0==(7:Int))) (.ask ((decide (x1≥(1:Int)))) (.done (decide (x1≤(10:Int)))) (.done false)) (.ask ((x0==(5:Int))) (.ask ((x1==(2:Int))) (.done true) (.done (x1==(3:Int)))) (.ask ((x0==(8:Int))) (.done (x1==(1:Int))) (.ask ((x0==(9:Int))) (.done (x1==(1:Int))) (.ask ((x0==(10:Int))) (.done (x1==(1:Int))) (.done false)))))))))))
def qFZ:Nat→Int→Int→Option (Bool)
 |0,_,_=>none
 |n+1,x0,x1=>(qHs n x0 x1).run
theorem qPP:∀n,Ok (Rn n) qQZ (qFZ n)
 |0=>ok0 fun _=>rfl
 |n+1=>stO (T:=qHs n) (by kernel_rfl) [] [] (fun _=>(by kernel_rfl)) fun _=>(by kernel_rfl)
def qOF:Sg:=⟨176,[(.agg [qI,qI,qI,qI,qS,qI,qI,qB,qB,qI,qI,qB,qB,qL])],[],⟨aB,[],[]⟩⟩
def qFu (n:Nat) (x0 x1 x2 x3:Int) (x4:BA) (x5 x6:Int) (x7 x8:Bool) (x9 x10:Int) (x11 x12:Bool) (x13:RW):Tr (Bool):=(.ask ((x0==(1:Int))) (.ask ((x1==(0:Int))) (.ask (((x5==(0:Int))&&((x6==(0:Int))&&((x7==false)&&((x8==false)&&true))))) (.ask (((x9==(0:Int))&&((x10==(0:Int))&&((x11==false)&&((x12==false)&&true))))) (.ask (((x13.length:Int)==(0:Int))) (.opt (qa n x2 x3 x4) fun r38=>(.ask (r38) (.ask ((x2 !=(0:Int))) (.ask ((x2 !=(1:Int))) (.done true) (.done (decide (x3≥(0:Int))))) (.done false)) (.done false))) (.done false)) (.done false)) (.done false)) (.done false)) (.ask ((x0==(2:Int))) (.ask ((x1==(0:Int))) (.ask (((x2==(0:Int))&&((x3==(0:Int))&&((x4.toList==(⟨#[]⟩:BA).toList)&&true)))) (.ask (((x9==(0:Int))&&((x10==(0:Int))&&((x11==false)&&((x12==false)&&true))))) (.ask (((x13.length:Int)==(0:Int))) (.opt (qAM n x5 x6) fun r41=>(.done r41)) (.done false)) (.done false)) (.done false)) (.done false)) (.ask ((x0==(3:Int))) (.ask ((x1==(0:Int))) (.ask (((x2==(0:Int))&&((x3==(0:Int))&&((x4.toList==(⟨#[]⟩:BA).toList)&&true)))) (.ask (((x13.length:Int)==(0:Int))) (.opt (qFY n x5 x6 x9 x10) fun r44=>(.done r44)) (.done false)) (.done false)) (.done false)) (.ask ((x0==(4:Int))) (.ask ((x1==(0:Int))) (.ask (((x2==(0:Int))&&((x3==(0:Int))&&((x4.toList==(⟨#[]⟩:BA).toList)&&true)))) (.ask (((x5==(0:Int))&&((x6==(0:Int))&&((x7==false)&&((x8==false)&&true))))) (.ask (((x9==(0:Int))&&((x10==(0:Int))&&((x11==false)&&((x12==false)&&true))))) (.done ((x13.length:Int)==(1:Int))) (.done false)) (.done false)) (.done false)) (.done false)) (.ask ((x0==(5:Int))) (.opt (qA0 n x1 (1:Int) (11:Int)) fun r45=>(.ask (r45) (.ask (((x2==(0:Int))&&((x3==(0:Int))&&((x4.toList==(⟨#[]⟩:BA).toList)&&true)))) (.ask (((x5==(0:Int))&&((x6==(0:Int))&&((x7==false)&&((x8==false)&&true))))) (.ask (((x9==(0:Int))&&((x10==(0:Int))&&((x11==false)&&((x12==false)&&true))))) (.done ((x13.length:Int)==(2:Int))) (.done false)) (.done false)) (.done false)) (.done false))) (.ask ((x0==(6:Int))) (.opt (qFZ n x1 (x13.length:Int)) fun r46=>(.ask (r46) (.ask (((x2==(0:Int))&&((x3==(0:Int))&&((x4.toList==(⟨#[]⟩:BA).toList)&&true)))) (.ask (((x5==(0:Int))&&((x6==(0:Int))&&((x7==false)&&((x8==false)&&true))))) (.done ((x9==(0:Int))&&((x10==(0:Int))&&((x11==false)&&((x12==false)&&true))))) (.done false)) (.done false)) (.done false))) (.done false)))))))
def qCC:Nat→Int→Int→Int→Int→BA→Int→Int→Bool→Bool→Int→Int→Bool→Bool→RW→Option (Bool)
 |0,_,_,_,_,_,_,_,_,_,_,_,_,_,_=>none
 |n+1,x0,x1,x2,x3,x4,x5,x6,x7,x8,x9,x10,x11,x12,x13=>(qFu n x0 x1 x2 x3 x4 x5 x6 x7 x8 x9 x10 x11 x12 x13).run
abbrev qOG (n:Nat):List (Ent (Rn n)):= [en (qEM n),en (qEH n),en (qPO n),en (qDx n),en (qPP n)]
theorem qIL:∀n,Ok (Rn n) qOF (qCC n)
 |0=>ok0 fun _=>rfl
 |n+1=>stO (T:=qFu n) (by kernel_rfl) (qOG n) [] (fun _=>(by kernel_rfl)) fun _=>(by kernel_rfl)
def qOH:Sg:=⟨175,[(.c (.ptr 0 0 0 0 0)),(.agg [qI,qI,qI,qI,qS,qI,qI,qB,qB,qI,qI,qB,qB,qL])],[[(0,⟨0,4,175,(.box [qS,qI,qB,(.own 0 1 1 0)])⟩),(1,⟨1,14,162,(.row [])⟩)]],⟨aI,[[(0,⟨0,4,175,(.box [qS,qI,qB,(.own 0 1 1 0)])⟩),(1,⟨1,14,162,(.row [])⟩)]],[]⟩⟩
def qJG (n:Nat) (x0 x1 x2 x3:Int) (x4:BA) (x5 x6:Int) (x7 x8:Bool) (x9 x10:Int) (x11 x12:Bool) (x13:RW) (x14:BA) (x15:Int) (x16:Bool) (x17:Nat) (x18:RW):Tr (Int×BA×Int×Bool×Nat×RW):=(.ask (decide (1=([[(.i .i64 x0),(.i .i64 x1),(.i .i64 x2),(.i .i64 x3),(.s x4),(.i .i64 x5),(.i .i64 x6),(.b x7),(.b x8),(.i .i64 x9),(.i .i64 x10),(.b x11),(.b x12),(.ls x13)]]:RW).length)) (.ask (decide (x17=x18.length∧0<14∧0<120∧(x17+([[(.i .i64 x0),(.i .i64 x1),(.i .i64 x2),(.i .i64 x3),(.s x4),(.i .i64 x5),(.i .i64 x6),(.b x7),(.b x8),(.i .i64 x9),(.i .i64 x10),(.b x11),(.b x12),(.ls x13)]]:RW).length)*120≤140737488355328∧([[(.i .i64 x0),(.i .i64 x1),(.i .i64 x2),(.i .i64 x3),(.s x4),(.i .i64 x5),(.i .i64 x6),(.b x7),(.b x8),(.i .i64 x9),(.i .i64 x10),(.b x11),(.b x12),(.ls x13)]]:RW).all (fun e=>e.length==14)=true)) (.ask ((decide ((((x17+1):Nat):Int)>(60:Int)))) (.done ((IntKind.i64.wrap ((((x17+1):Nat):Int)-(1:Int))),x14,x15,true,(x17+1),(x18++([[(.i .i64 x0),(.i .i64 x1),(.i .i64 x2),(.i .i64 x3),(.s x4),(.i .i64 x5),(.i .i64 x6),(.b x7),(.b x8),(.i .i64 x9),(.i .i64 x10),(.b x11),(.b x12),(.ls x13)]]:RW)))) (.opt (qCC n x0 x1 x2 x3 x4 x5 x6 x7 x8 x9 x10 x11 x12 x13) fun r47=>(.ask ((!r47)) (.done ((IntKind.i64.wrap ((((x17+1):Nat):Int)-(1:Int))),x14,x15,true,(x17+1),(x18++([[(.i .i64 x0),(.i .i64 x1),(.i .i64 x2),(.i .i64 x3),(.s x4),(.i .i64 x5),(.i .i64 x6),(.b x7),(.b x8),(.i .i64 x9),(.i .i64 x10),(.b x11),(.b x12),(.ls x13)]]:RW)))) (.done ((IntKind.i64.wrap ((((x17+1):Nat):Int)-(1:Int))),x14,x15,x16,(x17+1),(x18++([[(.i .i64 x0),(.i .i64 x1),(.i .i64 x2),(.i .i64 x3),(.s x4),(.i .i64 x5),(.i .i64 x6),(.b x7),(.b x8),(.i .i64 x9),(.i .i64 x10),(.b x11),(.b x12),(.ls x13)]]:RW))))))) .fail) .fail)
def qr:Nat→Int→Int→Int→Int→BA→Int→Int→Bool→Bool→Int→Int→Bool→Bool→RW→BA→Int→Bool→Nat→RW→Option (Int×BA×Int×Bool×Nat×RW)
 |0,_,_,_,_,_,_,_,_,_,_,_,_,_,_,_,_,_,_,_=>none
 |n+1,x0,x1,x2,x3,x4,x5,x6,x7,x8,x9,x10,x11,x12,x13,x14,x15,x16,x17,x18=>(qJG n x0 x1 x2 x3 x4 x5 x6 x7 x8 x9 x10 x11 x12 x13 x14 x15 x16 x17 x18).run
abbrev qOI (n:Nat):List (Ent (Rn n)):= [en (qIL n)]
theorem qC8:∀n,Ok (Rn n) qOH (qr n)
 |0=>ok0 fun _=>rfl
 |n+1=>stO (T:=qJG n) (by kernel_rfl) (qOI n) [] (fun _=>(by kernel_rfl)) fun _=>(by kernel_rfl)
def qM3:Sg:=⟨209,[(.c (.ptr 0 0 0 0 0))],[[(0,⟨0,4,175,(.box [qS,qI,qB,(.own 0 1 1 0)])⟩),(1,⟨1,14,162,(.row [])⟩)]],⟨aI,[[(0,⟨0,4,175,(.box [qS,qI,qB,(.own 0 1 1 0)])⟩),(1,⟨1,14,162,(.row [])⟩)]],[]⟩⟩
def qD7 (n:Nat) (v:BA×BA×Int×Bool×Nat×RW):Tr ((BA×BA×Int×Bool×Nat×RW)⊕((Int×BA×Int×Bool×Nat×RW)⊕(BA×Int×Bool×Nat×RW))):=(.ask ((decide (v.2.2.1<(v.2.1.size:Int)))) (.ask (decide (0≤v.2.2.1)) (.opt (v.2.1.toList[(v.2.2.1).toNat]?) fun c53=>(.ask (((c53.toNat:Int) !=(34:Int))) (.ask (decide (0≤v.2.2.1∧v.2.2.1≤(IntKind.i64.wrap (v.2.2.1+(1:Int)))∧(IntKind.i64.wrap (v.2.2.1+(1:Int)))≤v.2.1.size)) (.ask (decide (v.1.size+(v.2.1.extract (v.2.2.1).toNat ((IntKind.i64.wrap (v.2.2.1+(1:Int)))).toNat).size≤9223372036854775807)) (.done (.inl ((v.1++(v.2.1.extract (v.2.2.1).toNat ((IntKind.i64.wrap (v.2.2.1+(1:Int)))).toNat)),v.2.1,(IntKind.i64.wrap (v.2.2.1+(1:Int))),v.2.2.2.1,v.2.2.2.2.1,v.2.2.2.2.2))) .fail) .fail) (.ask ((decide ((IntKind.i64.wrap (v.2.2.1+(1:Int)))≥(v.2.1.size:Int)))) (.opt (qr n (1:Int) (0:Int) (2:Int) (0:Int) v.1 (0:Int) (0:Int) false false (0:Int) (0:Int) false false ([]:RW) v.2.1 (IntKind.i64.wrap (v.2.2.1+(1:Int))) v.2.2.2.1 v.2.2.2.2.1 v.2.2.2.2.2) fun r54=>(.done (.inr (.inl ((r54.1,r54.2.1,r54.2.2.1,r54.2.2.2.1,r54.2.2.2.2.1,r54.2.2.2.2.2)))))) (.ask (decide (0≤(IntKind.i64.wrap (v.2.2.1+(1:Int))))) (.opt (v.2.1.toList[((IntKind.i64.wrap (v.2.2.1+(1:Int)))).toNat]?) fun c55=>(.ask (((c55.toNat:Int) !=(34:Int))) (.opt (qr n (1:Int) (0:Int) (2:Int) (0:Int) v.1 (0:Int) (0:Int) false false (0:Int) (0:Int) false false ([]:RW) v.2.1 (IntKind.i64.wrap (v.2.2.1+(1:Int))) v.2.2.2.1 v.2.2.2.2.1 v.2.2.2.2.2) fun r56=>(.done (.inr (.inl ((r56.1,r56.2.1,r56.2.2.1,r56.2.2.2.1,r56.2.2.2.2.1,r56.2.2.2.2.2)))))) (.ask (decide (v.1.size+(⟨#[34]⟩:BA).size≤9223372036854775807)) (.done (.inl ((v.1++(⟨#[34]⟩:BA)),v.2.1,(IntKind.i64.wrap ((IntKind.i64.wrap (v.2.2.1+(1:Int)))+(1:Int))),v.2.2.2.1,v.2.2.2.2.1,v.2.2.2.2.2))) .fail))) .fail)))) .fail) (.done (.inr (.inr ((v.2.1,v.2.2.1,v.2.2.2.1,v.2.2.2.2.1,v.2.2.2.2.2))))))
def qIM (n:Nat) (x0:BA) (x1:Int) (x2:Bool) (x3:Nat) (x4:RW):Tr (Int×BA×Int×Bool×Nat×RW):=(.opt (zD (qD7 n) n ((⟨#[]⟩:BA),x0,x1,x2,x3,x4)) fun r57=>(.alt r57 (fun r58=>(.done (r58.1,r58.2.1,r58.2.2.1,r58.2.2.2.1,r58.2.2.2.2.1,r58.2.2.2.2.2))) (fun r59=>(.done ((0:Int),r59.1,r59.2.1,true,r59.2.2.2.1,r59.2.2.2.2)))))
def qFK:Nat→BA→Int→Bool→Nat→RW→Option (Int×BA×Int×Bool×Nat×RW)
 |0,_,_,_,_,_=>none
 |n+1,x0,x1,x2,x3,x4=>(qIM n x0 x1 x2 x3 x4).run
abbrev qIN (n:Nat):List (Ent (Rn n)):= [en (qC8 n)]
def qKz (n:Nat):LEnt (KB 209) (Rn n) n:=lok (zL 209) 14 ⟨⟨[(0,(.c (.ptr 0 0 0 0 0))),(3,aS)],[],[[(0,⟨0,4,175,(.box [qS,qI,qB,(.own 0 1 1 0)])⟩),(1,⟨1,14,162,(.row [])⟩)]]⟩,[(.ret,⟨[(2,aI)],[],[[(0,⟨0,4,175,(.box [qS,qI,qB,(.own 0 1 1 0)])⟩),(1,⟨1,14,162,(.row [])⟩)]]⟩),(.exit 0,⟨[(0,(.c (.ptr 0 0 0 0 0)))],[],[[(0,⟨0,4,175,(.box [qS,qI,qB,(.own 0 1 1 0)])⟩),(1,⟨1,14,162,(.row [])⟩)]]⟩)]⟩ (qD7 n) (qIN n) [] fun _=>(by kernel_rfl)
theorem qMH:∀n,Ok (Rn n) qM3 (qFK n)
 |0=>ok0 fun _=>rfl
 |n+1=>stO (T:=qIM n) (by kernel_rfl) (qIN n) [qKz n] (fun _=>(by kernel_rfl)) fun _=>(by kernel_rfl)
def qQa:Sg:=⟨141,[aI],[],⟨aS,[],[]⟩⟩
def qHt (n:Nat) (x0:Int):Tr (BA):=(.ask (decide (6=([[(.s (⟨#[]⟩:BA))],[(.s (⟨#[35,68,73,86,33]⟩:BA))],[(.s (⟨#[35,84,89,80,69,33]⟩:BA))],[(.s (⟨#[35,82,69,70,33]⟩:BA))],[(.s (⟨#[35,79,86,69,82,33]⟩:BA))],[(.s (⟨#[35,67,89,67,76,69,33]⟩:BA))]]:RW).length∧0≤x0∧x0<((6:Nat):Int))) (.opt (([[(.s (⟨#[]⟩:BA))],[(.s (⟨#[35,68,73,86,33]⟩:BA))],[(.s (⟨#[35,84,89,80,69,33]⟩:BA))],[(.s (⟨#[35,82,69,70,33]⟩:BA))],[(.s (⟨#[35,79,86,69,82,33]⟩:BA))],[(.s (⟨#[35,67,89,67,76,69,33]⟩:BA))]]:RW)[(x0).toNat]?) fun e62=>(.opt (zX e62 0) fun y63=>(.done y63))) .fail)
def qBW:Nat→Int→Option (BA)
 |0,_=>none
 |n+1,x0=>(qHt n x0).run
theorem qGe:∀n,Ok (Rn n) qQa (qBW n)
 |0=>ok0 fun _=>rfl
 |n+1=>stO (T:=qHt n) (by kernel_rfl) [] [] (fun _=>(by kernel_rfl)) fun _=>(by kernel_rfl)
def qPQ:Sg:=⟨210,[aI],[],⟨(.agg [qI,qI,qS]),[],[]⟩⟩
def qGf (n:Nat) (x0:Int):Tr (Int×Int×BA):=(.done ((4:Int),x0,(⟨#[]⟩:BA)))
def qC9:Nat→Int→Option (Int×Int×BA)
 |0,_=>none
 |n+1,x0=>(qGf n x0).run
theorem qOJ:∀n,Ok (Rn n) qPQ (qC9 n)
 |0=>ok0 fun _=>rfl
 |n+1=>stO (T:=qGf n) (by kernel_rfl) [] [] (fun _=>(by kernel_rfl)) fun _=>(by kernel_rfl)
def qM4:Sg:=⟨211,[(.c (.ptr 0 0 0 0 0))],[[(0,⟨0,4,175,(.box [qS,qI,qB,(.own 0 1 1 0)])⟩),(1,⟨1,14,162,(.row [])⟩)]],⟨aS,[[(0,⟨0,4,175,(.box [qS,qI,qB,(.own 0 1 1 0)])⟩),(1,⟨1,14,162,(.row [])⟩)]],[]⟩⟩
def qCE (n:Nat) (v:Int×BA×Int×Bool×Nat×RW):Tr ((Int×BA×Int×Bool×Nat×RW)⊕((Int×BA×Int×Bool×Nat×RW))):=(.ask ((decide (v.2.2.1<(v.2.1.size:Int)))) (.ask (decide (0≤v.2.2.1)) (.opt (v.2.1.toList[(v.2.2.1).toNat]?) fun c68=>(.ask ((decide ((c68.toNat:Int)≥(65:Int)))) (.ask (decide (0≤v.2.2.1)) (.opt (v.2.1.toList[(v.2.2.1).toNat]?) fun c69=>(.ask ((decide ((c69.toNat:Int)≤(90:Int)))) (.done (.inl (v.1,v.2.1,(IntKind.i64.wrap (v.2.2.1+(1:Int))),v.2.2.2.1,v.2.2.2.2.1,v.2.2.2.2.2))) (.ask (decide (0≤v.2.2.1)) (.opt (v.2.1.toList[(v.2.2.1).toNat]?) fun c70=>(.ask ((decide ((c70.toNat:Int)≥(48:Int)))) (.ask (decide (0≤v.2.2.1)) (.opt (v.2.1.toList[(v.2.2.1).toNat]?) fun c71=>(.ask ((decide ((c71.toNat:Int)≤(57:Int)))) (.done (.inl (v.1,v.2.1,(IntKind.i64.wrap (v.2.2.1+(1:Int))),v.2.2.2.1,v.2.2.2.2.1,v.2.2.2.2.2))) (.ask (decide (0≤v.2.2.1)) (.opt (v.2.1.toList[(v.2.2.1).toNat]?) fun c72=>(.ask (((c72.toNat:Int)==(36:Int))) (.done (.inl (v.1,v.2.1,(IntKind.i64.wrap (v.2.2.1+(1:Int))),v.2.2.2.1,v.2.2.2.2.1,v.2.2.2.2.2))) (.done (.inr ((v.1,v.2.1,v.2.2.1,v.2.2.2.1,v.2.2.2.2.1,v.2.2.2.2.2)))))) .fail))) .fail) (.ask (decide (0≤v.2.2.1)) (.opt (v.2.1.toList[(v.2.2.1).toNat]?) fun c73=>(.ask (((c73.toNat:Int)==(36:Int))) (.done (.inl (v.1,v.2.1,(IntKind.i64.wrap (v.2.2.1+(1:Int))),v.2.2.2.1,v.2.2.2.2.1,v.2.2.2.2.2))) (.done (.inr ((v.1,v.2.1,v.2.2.1,v.2.2.2.1,v.2.2.2.2.1,v.2.2.2.2.2)))))) .fail))) .fail))) .fail) (.ask (decide (0≤v.2.2.1)) (.opt (v.2.1.toList[(v.2.2.1).toNat]?) fun c74=>(.ask ((decide ((c74.toNat:Int)≥(48:Int)))) (.ask (decide (0≤v.2.2.1)) (.opt (v.2.1.toList[(v.2.2.1).toNat]?) fun c75=>(.ask ((decide ((c75.toNat:Int)≤(57:Int)))) (.done (.inl (v.1,v.2.1,(IntKind.i64.wrap (v.2.2.1+(1:Int))),v.2.2.2.1,v.2.2.2.2.1,v.2.2.2.2.2))) (.ask (decide (0≤v.2.2.1)) (.opt (v.2.1.toList[(v.2.2.1).toNat]?) fun c76=>(.ask (((c76.toNat:Int)==(36:Int))) (.done (.inl (v.1,v.2.1,(IntKind.i64.wrap (v.2.2.1+(1:Int))),v.2.2.2.1,v.2.2.2.2.1,v.2.2.2.2.2))) (.done (.inr ((v.1,v.2.1,v.2.2.1,v.2.2.2.1,v.2.2.2.2.1,v.2.2.2.2.2)))))) .fail))) .fail) (.ask (decide (0≤v.2.2.1)) (.opt (v.2.1.toList[(v.2.2.1).toNat]?) fun c77=>(.ask (((c77.toNat:Int)==(36:Int))) (.done (.inl (v.1,v.2.1,(IntKind.i64.wrap (v.2.2.1+(1:Int))),v.2.2.2.1,v.2.2.2.2.1,v.2.2.2.2.2))) (.done (.inr ((v.1,v.2.1,v.2.2.1,v.2.2.2.1,v.2.2.2.2.1,v.2.2.2.2.2)))))) .fail))) .fail))) .fail) (.done (.inr ((v.1,v.2.1,v.2.2.1,v.2.2.2.1,v.2.2.2.2.1,v.2.2.2.2.2)))))
def qIO (n:Nat) (x0:BA) (x1:Int) (x2:Bool) (x3:Nat) (x4:RW):Tr (BA×BA×Int×Bool×Nat×RW):=(.opt (zD (qCE n) n (x1,x0,x1,x2,x3,x4)) fun r78=>(.ask (decide (0≤r78.1∧r78.1≤r78.2.2.1∧r78.2.2.1≤r78.2.1.size)) (.done ((r78.2.1.extract (r78.1).toNat (r78.2.2.1).toNat),r78.2.1,r78.2.2.1,r78.2.2.2.1,r78.2.2.2.2.1,r78.2.2.2.2.2)) .fail))
def qDA:Nat→BA→Int→Bool→Nat→RW→Option (BA×BA×Int×Bool×Nat×RW)
 |0,_,_,_,_,_=>none
 |n+1,x0,x1,x2,x3,x4=>(qIO n x0 x1 x2 x3 x4).run
def qK0 (n:Nat):LEnt (KB 211) (Rn n) n:=lok (zL 211) 14 ⟨⟨[(0,(.c (.ptr 0 0 0 0 0))),(3,aI)],[],[[(0,⟨0,4,175,(.box [qS,qI,qB,(.own 0 1 1 0)])⟩),(1,⟨1,14,162,(.row [])⟩)]]⟩,[(.exit 0,⟨[(0,(.c (.ptr 0 0 0 0 0))),(3,aI)],[],[[(0,⟨0,4,175,(.box [qS,qI,qB,(.own 0 1 1 0)])⟩),(1,⟨1,14,162,(.row [])⟩)]]⟩)]⟩ (qCE n) [] [] fun _=>(by kernel_rfl)
theorem qHV:∀n,Ok (Rn n) qM4 (qDA n)
 |0=>ok0 fun _=>rfl
 |n+1=>stO (T:=qIO n) (by kernel_rfl) [] [qK0 n] (fun _=>(by kernel_rfl)) fun _=>(by kernel_rfl)
def qR4:Sg:=⟨182,[aI],[],⟨aS,[],[]⟩⟩
def qJs (n:Nat) (x0:Int):Tr (BA):=(.ask (decide (11=([[(.s (⟨#[]⟩:BA))],[(.s (⟨#[83,85,77]⟩:BA))],[(.s (⟨#[77,73,78]⟩:BA))],[(.s (⟨#[77,65,88]⟩:BA))],[(.s (⟨#[67,79,85,78,84]⟩:BA))],[(.s (⟨#[73,70]⟩:BA))],[(.s (⟨#[65,78,68]⟩:BA))],[(.s (⟨#[79,82]⟩:BA))],[(.s (⟨#[78,79,84]⟩:BA))],[(.s (⟨#[65,66,83]⟩:BA))],[(.s (⟨#[76,69,78]⟩:BA))]]:RW).length∧0≤x0∧x0<((11:Nat):Int))) (.opt (([[(.s (⟨#[]⟩:BA))],[(.s (⟨#[83,85,77]⟩:BA))],[(.s (⟨#[77,73,78]⟩:BA))],[(.s (⟨#[77,65,88]⟩:BA))],[(.s (⟨#[67,79,85,78,84]⟩:BA))],[(.s (⟨#[73,70]⟩:BA))],[(.s (⟨#[65,78,68]⟩:BA))],[(.s (⟨#[79,82]⟩:BA))],[(.s (⟨#[78,79,84]⟩:BA))],[(.s (⟨#[65,66,83]⟩:BA))],[(.s (⟨#[76,69,78]⟩:BA))]]:RW)[(x0).toNat]?) fun e80=>(.opt (zX e80 0) fun y81=>(.done y81))) .fail)
def qCj:Nat→Int→Option (BA)
 |0,_=>none
 |n+1,x0=>(qJs n x0).run
theorem qMI:∀n,Ok (Rn n) qR4 (qCj n)
 |0=>ok0 fun _=>rfl
 |n+1=>stO (T:=qJs n) (by kernel_rfl) [] [] (fun _=>(by kernel_rfl)) fun _=>(by kernel_rfl)
def qPR:Sg:=⟨99,[aI],[],⟨aS,[],[]⟩⟩
def qBZ (n:Nat) (v:Int×BA):Tr ((Int×BA)⊕((BA))):=(.ask ((decide (v.1>(0:Int)))) (.ask (decide (1=([[(.i .u8 (IntKind.u8.wrap (IntKind.i64.wrap ((65:Int)+(Int.tmod (IntKind.i64.wrap (v.1-(1:Int))) (26:Int))))))]]:RW).length)) (.opt (bytesOf ([[(.i .u8 (IntKind.u8.wrap (IntKind.i64.wrap ((65:Int)+(Int.tmod (IntKind.i64.wrap (v.1-(1:Int))) (26:Int))))))]]:RW)) fun l91=>(.ask (decide ((⟨l91.toArray⟩:BA).size+v.2.size≤9223372036854775807)) (.done (.inl ((IntKind.i64.wrap (Int.tdiv (IntKind.i64.wrap (v.1-(1:Int))) (26:Int))),((⟨l91.toArray⟩:BA)++v.2)))) .fail)) .fail) (.done (.inr (v.2))))
def qEm (n:Nat) (x0:Int):Tr (BA):=(.opt (qA0 n x0 (1:Int) (52:Int)) fun r90=>(.ask ((!r90)) (.done (⟨#[]⟩:BA)) (.opt (zD (qBZ n) n (x0,(⟨#[]⟩:BA))) fun r92=>(.done r92))))
def qDB:Nat→Int→Option (BA)
 |0,_=>none
 |n+1,x0=>(qEm n x0).run
abbrev qJt (n:Nat):List (Ent (Rn n)):= [en (qDx n)]
def qMJ (n:Nat):LEnt (KB 99) (Rn n) n:=lok (zL 99) 30 ⟨⟨[(0,aI),(3,aS)],[],[]⟩,[(.exit 0,⟨[(3,aS)],[],[]⟩)]⟩ (qBZ n) (qJt n) [] fun _=>(by kernel_rfl)
theorem qJH:∀n,Ok (Rn n) qPR (qDB n)
 |0=>ok0 fun _=>rfl
 |n+1=>stO (T:=qEm n) (by kernel_rfl) (qJt n) [qMJ n] (fun _=>(by kernel_rfl)) fun _=>(by kernel_rfl)
def qPS:Sg:=⟨233,[aS],[],⟨aI,[],[]⟩⟩
def qCk (n:Nat) (v:BA×Int):Tr ((BA×Int)⊕((Int)⊕(Unit))):=(.ask ((decide (v.2≤(52:Int)))) (.opt (qDB n v.2) fun r90=>(.ask ((r90.toList==v.1.toList)) (.done (.inr (.inl (v.2)))) (.done (.inl (v.1,(IntKind.i64.wrap (v.2+(1:Int)))))))) (.done (.inr (.inr (())))))
def qGg (n:Nat) (x0:BA):Tr (Int):=(.opt (zD (qCk n) n (x0,(1:Int))) fun r91=>(.alt r91 (fun r92=>(.done r92)) (fun r93=>(.done (0:Int)))))
def qCS:Nat→BA→Option (Int)
 |0,_=>none
 |n+1,x0=>(qGg n x0).run
abbrev qJu (n:Nat):List (Ent (Rn n)):= [en (qJH n)]
def qMK (n:Nat):LEnt (KB 233) (Rn n) n:=lok (zL 233) 13 ⟨⟨[(0,aS),(3,aI)],[],[]⟩,[(.ret,⟨[(2,aI)],[],[]⟩),(.exit 0,⟨[],[],[]⟩)]⟩ (qCk n) (qJu n) [] fun _=>(by kernel_rfl)
theorem qOK:∀n,Ok (Rn n) qPS (qCS n)
 |0=>ok0 fun _=>rfl
 |n+1=>stO (T:=qGg n) (by kernel_rfl) (qJu n) [qMK n] (fun _=>(by kernel_rfl)) fun _=>(by kernel_rfl)
def qRS:Sg:=⟨138,[aS,aI],[],⟨(.tup [(false,[qI]),(false,[qB])]),[],[]⟩⟩
def qBg (n:Nat) (v:BA×Int×Int):Tr ((BA×Int×Int)⊕((Int×Bool)⊕(Int))):=(.ask ((decide (v.2.2<(v.1.size:Int)))) (.ask (decide (0≤v.2.2)) (.opt (v.1.toList[(v.2.2).toNat]?) fun c97=>(.ask ((decide ((c97.toNat:Int)<(48:Int)))) (.done (.inr (.inl (((0:Int),false))))) (.ask (decide (0≤v.2.2)) (.opt (v.1.toList[(v.2.2).toNat]?) fun c98=>(.ask ((decide ((c98.toNat:Int)>(57:Int)))) (.done (.inr (.inl (((0:Int),false))))) (.ask (decide (0≤v.2.2)) (.opt (v.1.toList[(v.2.2).toNat]?) fun c99=>(.done (.inl (v.1,(IntKind.i64.wrap ((IntKind.i64.wrap (v.2.1*(10:Int)))+(IntKind.i64.wrap (IntKind.u8.wrap ((c99.toNat:Int)-(48:Int)))))),(IntKind.i64.wrap (v.2.2+(1:Int))))))) .fail))) .fail))) .fail) (.done (.inr (.inr (v.2.1)))))
def qEn (n:Nat) (x0:BA) (x1:Int):Tr (Int×Bool):=(.ask ((decide ((x0.size:Int)<(1:Int)))) (.done ((0:Int),false)) (.ask ((decide ((x0.size:Int)>x1))) (.done ((0:Int),false)) (.ask (decide (0≤(0:Int))) (.opt (x0.toList[((0:Int)).toNat]?) fun c96=>(.ask (((c96.toNat:Int)==(48:Int))) (.ask ((decide ((x0.size:Int)>(1:Int)))) (.done ((0:Int),false)) (.opt (zD (qBg n) n (x0,(0:Int),(0:Int))) fun r100=>(.alt r100 (fun r101=>(.done (r101.1,r101.2))) (fun r102=>(.done (r102,true)))))) (.opt (zD (qBg n) n (x0,(0:Int),(0:Int))) fun r103=>(.alt r103 (fun r104=>(.done (r104.1,r104.2))) (fun r105=>(.done (r105,true))))))) .fail)))
def qv:Nat→BA→Int→Option (Int×Bool)
 |0,_,_=>none
 |n+1,x0,x1=>(qEn n x0 x1).run
def qOL (n:Nat):LEnt (KB 138) (Rn n) n:=lok (zL 138) 61 ⟨⟨[(0,aS),(6,aI),(7,aI)],[],[]⟩,[(.ret,⟨[(4,aI),(5,aB)],[],[]⟩),(.exit 0,⟨[(6,aI)],[],[]⟩)]⟩ (qBg n) [] [] fun _=>(by kernel_rfl)
theorem qHu:∀n,Ok (Rn n) qRS (qv n)
 |0=>ok0 fun _=>rfl
 |n+1=>stO (T:=qEn n) (by kernel_rfl) [] [qOL n] (fun _=>(by kernel_rfl)) fun _=>(by kernel_rfl)
def qM5:Sg:=⟨213,[aS],[],⟨(.tup [(true,[qI,qI,qB,qB]),(false,[qB])]),[],[]⟩⟩
def qAO (n:Nat) (v:BA×Int×Int×Int×Bool×Bool×Int×Int×Bool×Bool):Tr ((BA×Int×Int×Int×Bool×Bool×Int×Int×Bool×Bool)⊕((BA×Int×Int×Int×Bool×Bool×Int×Int×Bool×Bool))):=(.ask ((decide (v.2.1<(v.1.size:Int)))) (.ask (decide (0≤v.2.1)) (.opt (v.1.toList[(v.2.1).toNat]?) fun c87=>(.ask ((decide ((c87.toNat:Int)≥(65:Int)))) (.ask (decide (0≤v.2.1)) (.opt (v.1.toList[(v.2.1).toNat]?) fun c88=>(.ask ((decide ((c88.toNat:Int)≤(90:Int)))) (.done (.inl (v.1,(IntKind.i64.wrap (v.2.1+(1:Int))),v.2.2.1,v.2.2.2.1,v.2.2.2.2.1,v.2.2.2.2.2.1,v.2.2.2.2.2.2.1,v.2.2.2.2.2.2.2.1,v.2.2.2.2.2.2.2.2.1,v.2.2.2.2.2.2.2.2.2))) (.done (.inr ((v.1,v.2.1,v.2.2.1,v.2.2.2.1,v.2.2.2.2.1,v.2.2.2.2.2.1,v.2.2.2.2.2.2.1,v.2.2.2.2.2.2.2.1,v.2.2.2.2.2.2.2.2.1,v.2.2.2.2.2.2.2.2.2)))))) .fail) (.done (.inr ((v.1,v.2.1,v.2.2.1,v.2.2.2.1,v.2.2.2.2.1,v.2.2.2.2.2.1,v.2.2.2.2.2.2.1,v.2.2.2.2.2.2.2.1,v.2.2.2.2.2.2.2.2.1,v.2.2.2.2.2.2.2.2.2)))))) .fail) (.done (.inr ((v.1,v.2.1,v.2.2.1,v.2.2.2.1,v.2.2.2.2.1,v.2.2.2.2.2.1,v.2.2.2.2.2.2.1,v.2.2.2.2.2.2.2.1,v.2.2.2.2.2.2.2.2.1,v.2.2.2.2.2.2.2.2.2)))))
def qCQ (n:Nat) (x0:BA):Tr (Int×Int×Bool×Bool×Bool):=(.ask ((decide ((x0.size:Int)>(0:Int)))) (.ask (decide (0≤(0:Int))) (.opt (x0.toList[((0:Int)).toNat]?) fun c86=>(.ask (((c86.toNat:Int)==(36:Int))) (.ask (decide (0≤(1:Int)∧(1:Int)≤(x0.size:Int)∧(x0.size:Int)≤x0.size)) (.opt (zD (qAO n) n ((x0.extract ((1:Int)).toNat ((x0.size:Int)).toNat),(0:Int),(0:Int),(0:Int),false,false,(0:Int),(0:Int),true,false)) fun r89=>(.ask (decide (0≤(0:Int)∧(0:Int)≤r89.2.1∧r89.2.1≤r89.1.size)) (.opt (qCS n (r89.1.extract ((0:Int)).toNat (r89.2.1).toNat)) fun r94=>(.ask (decide (0≤r89.2.1∧r89.2.1≤(r89.1.size:Int)∧(r89.1.size:Int)≤r89.1.size)) (.ask ((decide (((r89.1.extract (r89.2.1).toNat ((r89.1.size:Int)).toNat).size:Int)>(0:Int)))) (.ask (decide (0≤(0:Int))) (.opt ((r89.1.extract (r89.2.1).toNat ((r89.1.size:Int)).toNat).toList[((0:Int)).toNat]?) fun c95=>(.ask (((c95.toNat:Int)==(36:Int))) (.ask (decide (0≤(1:Int)∧(1:Int)≤((r89.1.extract (r89.2.1).toNat ((r89.1.size:Int)).toNat).size:Int)∧((r89.1.extract (r89.2.1).toNat ((r89.1.size:Int)).toNat).size:Int)≤(r89.1.extract (r89.2.1).toNat ((r89.1.size:Int)).toNat).size)) (.opt (qv n ((r89.1.extract (r89.2.1).toNat ((r89.1.size:Int)).toNat).extract ((1:Int)).toNat (((r89.1.extract (r89.2.1).toNat ((r89.1.size:Int)).toNat).size:Int)).toNat) (2:Int)) fun r106=>(.ask ((!r106.2)) (.done ((0:Int),(0:Int),false,false,false)) (.opt (qAM n r94 r106.1) fun r107=>(.ask ((!r107)) (.done ((0:Int),(0:Int),false,false,false)) (.done (r94,r106.1,r89.2.2.2.2.2.2.2.2.1,true,true)))))) .fail) (.opt (qv n (r89.1.extract (r89.2.1).toNat ((r89.1.size:Int)).toNat) (2:Int)) fun r108=>(.ask ((!r108.2)) (.done ((0:Int),(0:Int),false,false,false)) (.opt (qAM n r94 r108.1) fun r109=>(.ask ((!r109)) (.done ((0:Int),(0:Int),false,false,false)) (.done (r94,r108.1,r89.2.2.2.2.2.2.2.2.1,r89.2.2.2.2.2.2.2.2.2,true)))))))) .fail) (.opt (qv n (r89.1.extract (r89.2.1).toNat ((r89.1.size:Int)).toNat) (2:Int)) fun r110=>(.ask ((!r110.2)) (.done ((0:Int),(0:Int),false,false,false)) (.opt (qAM n r94 r110.1) fun r111=>(.ask ((!r111)) (.done ((0:Int),(0:Int),false,false,false)) (.done (r94,r110.1,r89.2.2.2.2.2.2.2.2.1,r89.2.2.2.2.2.2.2.2.2,true))))))) .fail)) .fail)) .fail) (.opt (zD (qAO n) n (x0,(0:Int),(0:Int),(0:Int),false,false,(0:Int),(0:Int),false,false)) fun r112=>(.ask (decide (0≤(0:Int)∧(0:Int)≤r112.2.1∧r112.2.1≤r112.1.size)) (.opt (qCS n (r112.1.extract ((0:Int)).toNat (r112.2.1).toNat)) fun r113=>(.ask (decide (0≤r112.2.1∧r112.2.1≤(r112.1.size:Int)∧(r112.1.size:Int)≤r112.1.size)) (.ask ((decide (((r112.1.extract (r112.2.1).toNat ((r112.1.size:Int)).toNat).size:Int)>(0:Int)))) (.ask (decide (0≤(0:Int))) (.opt ((r112.1.extract (r112.2.1).toNat ((r112.1.size:Int)).toNat).toList[((0:Int)).toNat]?) fun c114=>(.ask (((c114.toNat:Int)==(36:Int))) (.ask (decide (0≤(1:Int)∧(1:Int)≤((r112.1.extract (r112.2.1).toNat ((r112.1.size:Int)).toNat).size:Int)∧((r112.1.extract (r112.2.1).toNat ((r112.1.size:Int)).toNat).size:Int)≤(r112.1.extract (r112.2.1).toNat ((r112.1.size:Int)).toNat).size)) (.opt (qv n ((r112.1.extract (r112.2.1).toNat ((r112.1.size:Int)).toNat).extract ((1:Int)).toNat (((r112.1.extract (r112.2.1).toNat ((r112.1.size:Int)).toNat).size:Int)).toNat) (2:Int)) fun r115=>(.ask ((!r115.2)) (.done ((0:Int),(0:Int),false,false,false)) (.opt (qAM n r113 r115.1) fun r116=>(.ask ((!r116)) (.done ((0:Int),(0:Int),false,false,false)) (.done (r113,r115.1,r112.2.2.2.2.2.2.2.2.1,true,true)))))) .fail) (.opt (qv n (r112.1.extract (r112.2.1).toNat ((r112.1.size:Int)).toNat) (2:Int)) fun r117=>(.ask ((!r117.2)) (.done ((0:Int),(0:Int),false,false,false)) (.opt (qAM n r113 r117.1) fun r118=>(.ask ((!r118)) (.done ((0:Int),(0:Int),false,false,false)) (.done (r113,r117.1,r112.2.2.2.2.2.2.2.2.1,r112.2.2.2.2.2.2.2.2.2,true)))))))) .fail) (.opt (qv n (r112.1.extract (r112.2.1).toNat ((r112.1.size:Int)).toNat) (2:Int)) fun r119=>(.ask ((!r119.2)) (.done ((0:Int),(0:Int),false,false,false)) (.opt (qAM n r113 r119.1) fun r120=>(.ask ((!r120)) (.done ((0:Int),(0:Int),false,false,false)) (.done (r113,r119.1,r112.2.2.2.2.2.2.2.2.1,r112.2.2.2.2.2.2.2.2.2,true))))))) .fail)) .fail)))) .fail) (.opt (zD (qAO n) n (x0,(0:Int),(0:Int),(0:Int),false,false,(0:Int),(0:Int),false,false)) fun r121=>(.ask (decide (0≤(0:Int)∧(0:Int)≤r121.2.1∧r121.2.1≤r121.1.size)) (.opt (qCS n (r121.1.extract ((0:Int)).toNat (r121.2.1).toNat)) fun r122=>(.ask (decide (0≤r121.2.1∧r121.2.1≤(r121.1.size:Int)∧(r121.1.size:Int)≤r121.1.size)) (.ask ((decide (((r121.1.extract (r121.2.1).toNat ((r121.1.size:Int)).toNat).size:Int)>(0:Int)))) (.ask (decide (0≤(0:Int))) (.opt ((r121.1.extract (r121.2.1).toNat ((r121.1.size:Int)).toNat).toList[((0:Int)).toNat]?) fun c123=>(.ask (((c123.toNat:Int)==(36:Int))) (.ask (decide (0≤(1:Int)∧(1:Int)≤((r121.1.extract (r121.2.1).toNat ((r121.1.size:Int)).toNat).size:Int)∧((r121.1.extract (r121.2.1).toNat ((r121.1.size:Int)).toNat).size:Int)≤(r121.1.extract (r121.2.1).toNat ((r121.1.size:Int)).toNat).size)) (.opt (qv n ((r121.1.extract (r121.2.1).toNat ((r121.1.size:Int)).toNat).extract ((1:Int)).toNat (((r121.1.extract (r121.2.1).toNat ((r121.1.size:Int)).toNat).size:Int)).toNat) (2:Int)) fun r124=>(.ask ((!r124.2)) (.done ((0:Int),(0:Int),false,false,false)) (.opt (qAM n r122 r124.1) fun r125=>(.ask ((!r125)) (.done ((0:Int),(0:Int),false,false,false)) (.done (r122,r124.1,r121.2.2.2.2.2.2.2.2.1,true,true)))))) .fail) (.opt (qv n (r121.1.extract (r121.2.1).toNat ((r121.1.size:Int)).toNat) (2:Int)) fun r126=>(.ask ((!r126.2)) (.done ((0:Int),(0:Int),false,false,false)) (.opt (qAM n r122 r126.1) fun r127=>(.ask ((!r127)) (.done ((0:Int),(0:Int),false,false,false)) (.done (r122,r126.1,r121.2.2.2.2.2.2.2.2.1,r121.2.2.2.2.2.2.2.2.2,true)))))))) .fail) (.opt (qv n (r121.1.extract (r121.2.1).toNat ((r121.1.size:Int)).toNat) (2:Int)) fun r128=>(.ask ((!r128.2)) (.done ((0:Int),(0:Int),false,false,false)) (.opt (qAM n r122 r128.1) fun r129=>(.ask ((!r129)) (.done ((0:Int),(0:Int),false,false,false)) (.done (r122,r128.1,r121.2.2.2.2.2.2.2.2.1,r121.2.2.2.2.2.2.2.2.2,true))))))) .fail)) .fail)))
def qAr:Nat→BA→Option (Int×Int×Bool×Bool×Bool)
 |0,_=>none
 |n+1,x0=>(qCQ n x0).run
abbrev qIP (n:Nat):List (Ent (Rn n)):= [en (qOK n),en (qHu n),en (qEH n)]
def qK1 (n:Nat):LEnt (KB 213) (Rn n) n:=lok (zL 213) 62 ⟨⟨[(0,aS),(2,(.c (.ptr 0 128 0 0 0))),(4,(.c (.ptr 0 256 0 0 0))),(5,aI)],[(128,⟨0,4,90,(.box [qI,qI,qB,qB])⟩),(256,⟨0,4,90,(.box [qI,qI,qB,qB])⟩)],[]⟩,[(.exit 0,⟨[(0,aS),(2,(.c (.ptr 0 128 0 0 0))),(4,(.c (.ptr 0 256 0 0 0))),(5,aI)],[(128,⟨0,4,90,(.box [qI,qI,qB,qB])⟩),(256,⟨0,4,90,(.box [qI,qI,qB,qB])⟩)],[]⟩)]⟩ (qAO n) (qIP n) [] fun _=>(by kernel_rfl)
theorem qHW:∀n,Ok (Rn n) qM5 (qAr n)
 |0=>ok0 fun _=>rfl
 |n+1=>stO (T:=qCQ n) (by kernel_rfl) (qIP n) [qK1 n] (fun _=>(by kernel_rfl)) fun _=>(by kernel_rfl)
def qM6:Sg:=⟨97,[aS],[],⟨(.tup [(true,[qI,qI,qS]),(false,[qB])]),[],[]⟩⟩
def qBa (n:Nat) (v:BA×Int×Int×Int×BA×Int×Int×BA):Tr ((BA×Int×Int×Int×BA×Int×Int×BA)⊕((Int×Int×BA×Int×Int×BA))):=(.ask ((decide (v.2.1≤(5:Int)))) (.opt (qBW n v.2.1) fun r93=>(.ask ((r93.toList==v.1.toList)) (.done (.inl (v.1,(IntKind.i64.wrap (v.2.1+(1:Int))),v.2.2.1,v.2.2.2.1,v.2.2.2.2.1,v.2.2.2.2.2.1,v.2.1,v.2.2.2.2.2.2.2))) (.done (.inl (v.1,(IntKind.i64.wrap (v.2.1+(1:Int))),v.2.2.1,v.2.2.2.1,v.2.2.2.2.1,v.2.2.2.2.2.1,v.2.2.2.2.2.2.1,v.2.2.2.2.2.2.2))))) (.done (.inr ((v.2.2.1,v.2.2.2.1,v.2.2.2.2.1,v.2.2.2.2.2.1,v.2.2.2.2.2.2.1,v.2.2.2.2.2.2.2)))))
def qA8 (n:Nat) (x0:BA):Tr (Int×Int×BA×Bool):=(.ask ((x0.toList==(⟨#[]⟩:BA).toList)) (.done ((0:Int),(0:Int),(⟨#[]⟩:BA),true)) (.ask (decide (0≤(0:Int))) (.opt (x0.toList[((0:Int)).toNat]?) fun c86=>(.ask (((c86.toNat:Int)==(39:Int))) (.ask (decide (0≤(1:Int)∧(1:Int)≤(x0.size:Int)∧(x0.size:Int)≤x0.size)) (.opt (qa n (2:Int) (0:Int) (x0.extract ((1:Int)).toNat ((x0.size:Int)).toNat)) fun r87=>(.ask ((!r87)) (.done ((0:Int),(0:Int),(⟨#[]⟩:BA),false)) (.done ((2:Int),(0:Int),(x0.extract ((1:Int)).toNat ((x0.size:Int)).toNat),true)))) .fail) (.ask ((x0.toList==(⟨#[84,82,85,69]⟩:BA).toList)) (.ask ((x0.toList==(⟨#[84,82,85,69]⟩:BA).toList)) (.opt (qa n (3:Int) (1:Int) (⟨#[]⟩:BA)) fun r88=>(.ask ((!r88)) (.done ((0:Int),(0:Int),(⟨#[]⟩:BA),false)) (.done ((3:Int),(1:Int),(⟨#[]⟩:BA),true)))) (.opt (qa n (3:Int) (0:Int) (⟨#[]⟩:BA)) fun r89=>(.ask ((!r89)) (.done ((0:Int),(0:Int),(⟨#[]⟩:BA),false)) (.done ((3:Int),(0:Int),(⟨#[]⟩:BA),true))))) (.ask ((x0.toList==(⟨#[70,65,76,83,69]⟩:BA).toList)) (.ask ((x0.toList==(⟨#[84,82,85,69]⟩:BA).toList)) (.opt (qa n (3:Int) (1:Int) (⟨#[]⟩:BA)) fun r90=>(.ask ((!r90)) (.done ((0:Int),(0:Int),(⟨#[]⟩:BA),false)) (.done ((3:Int),(1:Int),(⟨#[]⟩:BA),true)))) (.opt (qa n (3:Int) (0:Int) (⟨#[]⟩:BA)) fun r91=>(.ask ((!r91)) (.done ((0:Int),(0:Int),(⟨#[]⟩:BA),false)) (.done ((3:Int),(0:Int),(⟨#[]⟩:BA),true))))) (.ask (decide (0≤(0:Int))) (.opt (x0.toList[((0:Int)).toNat]?) fun c92=>(.ask (((c92.toNat:Int)==(35:Int))) (.opt (zD (qBa n) n (x0,(1:Int),(0:Int),(0:Int),(⟨#[]⟩:BA),(4:Int),(0:Int),(⟨#[]⟩:BA))) fun r94=>(.opt (qa n r94.2.2.2.1 r94.2.2.2.2.1 r94.2.2.2.2.2) fun r95=>(.ask ((!r95)) (.done ((0:Int),(0:Int),(⟨#[]⟩:BA),false)) (.done (r94.2.2.2.1,r94.2.2.2.2.1,r94.2.2.2.2.2,true))))) (.ask (decide (0≤(0:Int))) (.opt (x0.toList[((0:Int)).toNat]?) fun c96=>(.ask (((c96.toNat:Int)==(45:Int))) (.ask (decide (0≤(1:Int)∧(1:Int)≤(x0.size:Int)∧(x0.size:Int)≤x0.size)) (.opt (qv n (x0.extract ((1:Int)).toNat ((x0.size:Int)).toNat) (16:Int)) fun r97=>(.ask ((!r97.2)) (.done ((0:Int),(0:Int),(⟨#[]⟩:BA),false)) (.ask (((c96.toNat:Int)==(45:Int))) (.ask ((r97.1==(0:Int))) (.done ((0:Int),(0:Int),(⟨#[]⟩:BA),false)) (.ask (((c96.toNat:Int)==(45:Int))) (.opt (qa n (1:Int) (IntKind.i64.wrap (0-r97.1)) (⟨#[]⟩:BA)) fun r98=>(.ask ((!r98)) (.done ((0:Int),(0:Int),(⟨#[]⟩:BA),false)) (.done ((1:Int),(IntKind.i64.wrap (0-r97.1)),(⟨#[]⟩:BA),true)))) (.opt (qa n (1:Int) r97.1 (⟨#[]⟩:BA)) fun r99=>(.ask ((!r99)) (.done ((0:Int),(0:Int),(⟨#[]⟩:BA),false)) (.done ((1:Int),r97.1,(⟨#[]⟩:BA),true)))))) (.ask (((c96.toNat:Int)==(45:Int))) (.opt (qa n (1:Int) (IntKind.i64.wrap (0-r97.1)) (⟨#[]⟩:BA)) fun r100=>(.ask ((!r100)) (.done ((0:Int),(0:Int),(⟨#[]⟩:BA),false)) (.done ((1:Int),(IntKind.i64.wrap (0-r97.1)),(⟨#[]⟩:BA),true)))) (.opt (qa n (1:Int) r97.1 (⟨#[]⟩:BA)) fun r101=>(.ask ((!r101)) (.done ((0:Int),(0:Int),(⟨#[]⟩:BA),false)) (.done ((1:Int),r97.1,(⟨#[]⟩:BA),true)))))))) .fail) (.opt (qv n x0 (16:Int)) fun r102=>(.ask ((!r102.2)) (.done ((0:Int),(0:Int),(⟨#[]⟩:BA),false)) (.ask (((c96.toNat:Int)==(45:Int))) (.ask ((r102.1==(0:Int))) (.done ((0:Int),(0:Int),(⟨#[]⟩:BA),false)) (.ask (((c96.toNat:Int)==(45:Int))) (.opt (qa n (1:Int) (IntKind.i64.wrap (0-r102.1)) (⟨#[]⟩:BA)) fun r103=>(.ask ((!r103)) (.done ((0:Int),(0:Int),(⟨#[]⟩:BA),false)) (.done ((1:Int),(IntKind.i64.wrap (0-r102.1)),(⟨#[]⟩:BA),true)))) (.opt (qa n (1:Int) r102.1 (⟨#[]⟩:BA)) fun r104=>(.ask ((!r104)) (.done ((0:Int),(0:Int),(⟨#[]⟩:BA),false)) (.done ((1:Int),r102.1,(⟨#[]⟩:BA),true)))))) (.ask (((c96.toNat:Int)==(45:Int))) (.opt (qa n (1:Int) (IntKind.i64.wrap (0-r102.1)) (⟨#[]⟩:BA)) fun r105=>(.ask ((!r105)) (.done ((0:Int),(0:Int),(⟨#[]⟩:BA),false)) (.done ((1:Int),(IntKind.i64.wrap (0-r102.1)),(⟨#[]⟩:BA),true)))) (.opt (qa n (1:Int) r102.1 (⟨#[]⟩:BA)) fun r106=>(.ask ((!r106)) (.done ((0:Int),(0:Int),(⟨#[]⟩:BA),false)) (.done ((1:Int),r102.1,(⟨#[]⟩:BA),true)))))))))) .fail))) .fail))))) .fail))
def qAL:Nat→BA→Option (Int×Int×BA×Bool)
 |0,_=>none
 |n+1,x0=>(qA8 n x0).run
abbrev qIQ (n:Nat):List (Ent (Rn n)):= [en (qEM n),en (qGe n),en (qHu n)]
def qIm (n:Nat):LEnt (KB 97) (Rn n) n:=lok (zL 97) 15355 ⟨⟨[(0,aS),(2,(.c (.ptr 0 128 0 0 0))),(4,(.c (.ptr 0 256 0 0 0))),(5,aI)],[(128,⟨0,3,128,(.box [qI,qI,qS])⟩),(256,⟨0,3,128,(.box [qI,qI,qS])⟩)],[]⟩,[(.exit 1,⟨[(2,(.c (.ptr 0 128 0 0 0))),(4,(.c (.ptr 0 256 0 0 0)))],[(128,⟨0,3,128,(.box [qI,qI,qS])⟩),(256,⟨0,3,128,(.box [qI,qI,qS])⟩)],[]⟩)]⟩ (qBa n) (qIQ n) [] fun _=>(by kernel_rfl)
theorem qHX:∀n,Ok (Rn n) qM6 (qAL n)
 |0=>ok0 fun _=>rfl
 |n+1=>stO (T:=qA8 n) (by kernel_rfl) (qIQ n) [qIm n] (fun _=>(by kernel_rfl)) fun _=>(by kernel_rfl)
def qPT:Sg:=⟨180,[aI],[],⟨aI,[],[]⟩⟩
def qGh (n:Nat) (x0:Int):Tr (Int):=(.ask ((decide (x0≥(6:Int)))) (.done (1:Int)) (.ask ((x0==(5:Int))) (.done (2:Int)) (.ask ((decide (x0≥(3:Int)))) (.done (4:Int)) (.done (3:Int)))))
def qCT:Nat→Int→Option (Int)
 |0,_=>none
 |n+1,x0=>(qGh n x0).run
theorem qJI:∀n,Ok (Rn n) qPT (qCT n)
 |0=>ok0 fun _=>rfl
 |n+1=>stO (T:=qGh n) (by kernel_rfl) [] [] (fun _=>(by kernel_rfl)) fun _=>(by kernel_rfl)
def qQb:Sg:=⟨181,[aI],[],⟨aS,[],[]⟩⟩
def qHv (n:Nat) (x0:Int):Tr (BA):=(.ask (decide (12=([[(.s (⟨#[]⟩:BA))],[(.s (⟨#[43]⟩:BA))],[(.s (⟨#[45]⟩:BA))],[(.s (⟨#[42]⟩:BA))],[(.s (⟨#[47]⟩:BA))],[(.s (⟨#[38]⟩:BA))],[(.s (⟨#[61]⟩:BA))],[(.s (⟨#[60,62]⟩:BA))],[(.s (⟨#[60]⟩:BA))],[(.s (⟨#[60,61]⟩:BA))],[(.s (⟨#[62]⟩:BA))],[(.s (⟨#[62,61]⟩:BA))]]:RW).length∧0≤x0∧x0<((12:Nat):Int))) (.opt (([[(.s (⟨#[]⟩:BA))],[(.s (⟨#[43]⟩:BA))],[(.s (⟨#[45]⟩:BA))],[(.s (⟨#[42]⟩:BA))],[(.s (⟨#[47]⟩:BA))],[(.s (⟨#[38]⟩:BA))],[(.s (⟨#[61]⟩:BA))],[(.s (⟨#[60,62]⟩:BA))],[(.s (⟨#[60]⟩:BA))],[(.s (⟨#[60,61]⟩:BA))],[(.s (⟨#[62]⟩:BA))],[(.s (⟨#[62,61]⟩:BA))]]:RW)[(x0).toNat]?) fun e120=>(.opt (zX e120 0) fun y121=>(.done y121))) .fail)
def qCv:Nat→Int→Option (BA)
 |0,_=>none
 |n+1,x0=>(qHv n x0).run
theorem qJv:∀n,Ok (Rn n) qQb (qCv n)
 |0=>ok0 fun _=>rfl
 |n+1=>stO (T:=qHv n) (by kernel_rfl) [] [] (fun _=>(by kernel_rfl)) fun _=>(by kernel_rfl)
def qPU:Sg:=⟨174,[(.c (.ptr 0 0 0 0 0)),aI],[[(0,⟨0,4,175,(.box [qS,qI,qB,(.own 0 1 1 0)])⟩),(1,⟨1,14,162,(.row [])⟩)]],⟨aI,[[(0,⟨0,4,175,(.box [qS,qI,qB,(.own 0 1 1 0)])⟩),(1,⟨1,14,162,(.row [])⟩)]],[]⟩⟩
def qEo (n:Nat) (v:Int×Nat×Int×RW×BA×Int×Bool×Nat×RW):Tr ((Int×Nat×Int×RW×BA×Int×Bool×Nat×RW)⊕((Int×BA×Int×Bool×Nat×RW)⊕(BA×Int×Bool×Nat×RW))):=(.ask ((decide (v.2.2.1<((v.2.1:Nat):Int)))) (.ask (decide (v.2.1=v.2.2.2.1.length∧0≤v.2.2.1∧v.2.2.1<((v.2.1:Nat):Int))) (.opt (v.2.2.2.1[(v.2.2.1).toNat]?) fun e115=>(.opt (zC .i64 e115 0) fun y116=>(.opt (qCT n y116) fun r117=>(.ask ((r117==v.1)) (.ask (decide (v.2.1=v.2.2.2.1.length∧0≤v.2.2.1∧v.2.2.1<((v.2.1:Nat):Int))) (.opt (v.2.2.2.1[(v.2.2.1).toNat]?) fun e118=>(.opt (zC .i64 e118 0) fun y119=>(.opt (qCv n y119) fun r120=>(.opt (qAI n r120 v.2.2.2.2.1 v.2.2.2.2.2.1 v.2.2.2.2.2.2.1 v.2.2.2.2.2.2.2.1 v.2.2.2.2.2.2.2.2) fun r121=>(.ask (r121.1) (.ask (decide (v.2.1=v.2.2.2.1.length∧0≤v.2.2.1∧v.2.2.1<((v.2.1:Nat):Int))) (.opt (v.2.2.2.1[(v.2.2.1).toNat]?) fun e122=>(.opt (zC .i64 e122 0) fun y123=>(.done (.inr (.inl ((y123,r121.2.1,r121.2.2.1,r121.2.2.2.1,r121.2.2.2.2.1,r121.2.2.2.2.2))))))) .fail) (.done (.inl (v.1,v.2.1,(IntKind.i64.wrap (v.2.2.1+(1:Int))),v.2.2.2.1,r121.2.1,r121.2.2.1,r121.2.2.2.1,r121.2.2.2.2.1,r121.2.2.2.2.2)))))))) .fail) (.done (.inl (v.1,v.2.1,(IntKind.i64.wrap (v.2.2.1+(1:Int))),v.2.2.2.1,v.2.2.2.2.1,v.2.2.2.2.2.1,v.2.2.2.2.2.2.1,v.2.2.2.2.2.2.2.1,v.2.2.2.2.2.2.2.2))))))) .fail) (.done (.inr (.inr ((v.2.2.2.2.1,v.2.2.2.2.2.1,v.2.2.2.2.2.2.1,v.2.2.2.2.2.2.2.1,v.2.2.2.2.2.2.2.2))))))
def qJw (n:Nat) (x0:Int) (x1:BA) (x2:Int) (x3:Bool) (x4:Nat) (x5:RW):Tr (Int×BA×Int×Bool×Nat×RW):=(.opt (zD (qEo n) n (x0,(11:Nat),(0:Int),([[(.i .i64 (7:Int))],[(.i .i64 (9:Int))],[(.i .i64 (11:Int))],[(.i .i64 (6:Int))],[(.i .i64 (8:Int))],[(.i .i64 (10:Int))],[(.i .i64 (1:Int))],[(.i .i64 (2:Int))],[(.i .i64 (3:Int))],[(.i .i64 (4:Int))],[(.i .i64 (5:Int))]]:RW),x1,x2,x3,x4,x5)) fun r124=>(.alt r124 (fun r125=>(.done (r125.1,r125.2.1,r125.2.2.1,r125.2.2.2.1,r125.2.2.2.2.1,r125.2.2.2.2.2))) (fun r126=>(.done ((0:Int),r126.1,r126.2.1,r126.2.2.1,r126.2.2.2.1,r126.2.2.2.2)))))
def qEp:Nat→Int→BA→Int→Bool→Nat→RW→Option (Int×BA×Int×Bool×Nat×RW)
 |0,_,_,_,_,_,_=>none
 |n+1,x0,x1,x2,x3,x4,x5=>(qJw n x0 x1 x2 x3 x4 x5).run
abbrev qJx (n:Nat):List (Ent (Rn n)):= [en (qJI n),en (qJv n),en (qEL n)]
def qML (n:Nat):LEnt (KB 174) (Rn n) n:=lok (zL 174) 29 ⟨⟨[(0,(.c (.ptr 0 0 0 0 0))),(1,aI),(5,(.c (.own 1 448 0 0))),(6,aI)],[(448,⟨0,1,2,(.row [])⟩)],[[(0,⟨0,4,175,(.box [qS,qI,qB,(.own 0 1 1 0)])⟩),(1,⟨1,14,162,(.row [])⟩)]]⟩,[(.ret,⟨[(4,aI)],[],[[(0,⟨0,4,175,(.box [qS,qI,qB,(.own 0 1 1 0)])⟩),(1,⟨1,14,162,(.row [])⟩)]]⟩),(.exit 0,⟨[],[],[[(0,⟨0,4,175,(.box [qS,qI,qB,(.own 0 1 1 0)])⟩),(1,⟨1,14,162,(.row [])⟩)]]⟩)]⟩ (qEo n) (qJx n) [] fun _=>(by kernel_rfl)
theorem qOM:∀n,Ok (Rn n) qPU (qEp n)
 |0=>ok0 fun _=>rfl
 |n+1=>stO (T:=qJw n) (by kernel_rfl) (qJx n) [qML n] (fun _=>(by kernel_rfl)) fun _=>(by kernel_rfl)
def qJJ:Sg:=⟨134,[(.c (.ptr 0 0 0 0 0)),aI],[[(0,⟨0,4,175,(.box [qS,qI,qB,(.own 0 1 1 0)])⟩),(1,⟨1,14,162,(.row [])⟩)]],⟨aI,[[(0,⟨0,4,175,(.box [qS,qI,qB,(.own 0 1 1 0)])⟩),(1,⟨1,14,162,(.row [])⟩)]],[]⟩⟩
def qON:Sg:=⟨173,[(.c (.ptr 0 0 0 0 0))],[[(0,⟨0,4,175,(.box [qS,qI,qB,(.own 0 1 1 0)])⟩),(1,⟨1,14,162,(.row [])⟩)]],⟨aI,[[(0,⟨0,4,175,(.box [qS,qI,qB,(.own 0 1 1 0)])⟩),(1,⟨1,14,162,(.row [])⟩)]],[]⟩⟩
def qM7:Sg:=⟨212,[(.c (.ptr 0 0 0 0 0)),aI],[[(0,⟨0,4,175,(.box [qS,qI,qB,(.own 0 1 1 0)])⟩),(1,⟨1,14,162,(.row [])⟩)]],⟨aI,[[(0,⟨0,4,175,(.box [qS,qI,qB,(.own 0 1 1 0)])⟩),(1,⟨1,14,162,(.row [])⟩)]],[]⟩⟩
def qOO:Sg:=⟨232,[(.c (.ptr 0 0 0 0 0))],[[(0,⟨0,4,175,(.box [qS,qI,qB,(.own 0 1 1 0)])⟩),(1,⟨1,14,162,(.row [])⟩)]],⟨aI,[[(0,⟨0,4,175,(.box [qS,qI,qB,(.own 0 1 1 0)])⟩),(1,⟨1,14,162,(.row [])⟩)]],[]⟩⟩
structure G_spec_l3Rd_row where
 spec_l3Rd_row:Int→BA→Int→Bool→Nat→RW→Option (Int×BA×Int×Bool×Nat×RW)
 spec_l3Rd_one:BA→Int→Bool→Nat→RW→Option (Int×BA×Int×Bool×Nat×RW)
 spec_l3Rd_call:Int→BA→Int→Bool→Nat→RW→Option (Int×BA×Int×Bool×Nat×RW)
 spec_l3Rd_arg:BA→Int→Bool→Nat→RW→Option (Int×BA×Int×Bool×Nat×RW)
def qES (rec:G_spec_l3Rd_row) (n:Nat) (v:Int×Int×BA×Int×Bool×Nat×RW):Tr ((Int×Int×BA×Int×Bool×Nat×RW)⊕((Int×BA×Int×Bool×Nat×RW)⊕(Int×BA×Int×Bool×Nat×RW))):=(.ask ((!v.2.2.2.2.1)) (.opt (qEp n v.1 v.2.2.1 v.2.2.2.1 v.2.2.2.2.1 v.2.2.2.2.2.1 v.2.2.2.2.2.2) fun r115=>(.ask ((r115.1==(0:Int))) (.done (.inr (.inl ((v.2.1,r115.2.1,r115.2.2.1,r115.2.2.2.1,r115.2.2.2.2.1,r115.2.2.2.2.2))))) (.opt (rec.spec_l3Rd_row (IntKind.i64.wrap (v.1+(1:Int))) r115.2.1 r115.2.2.1 r115.2.2.2.1 r115.2.2.2.2.1 r115.2.2.2.2.2) fun r116=>(.ask (decide (2=([[(.i .i64 v.2.1)],[(.i .i64 r116.1)]]:RW).length)) (.opt (qr n (5:Int) r115.1 (0:Int) (0:Int) (⟨#[]⟩:BA) (0:Int) (0:Int) false false (0:Int) (0:Int) false false ([[(.i .i64 v.2.1)],[(.i .i64 r116.1)]]:RW) r116.2.1 r116.2.2.1 r116.2.2.2.1 r116.2.2.2.2.1 r116.2.2.2.2.2) fun r117=>(.done (.inl (v.1,r117.1,r117.2.1,r117.2.2.1,r117.2.2.2.1,r117.2.2.2.2.1,r117.2.2.2.2.2)))) .fail)))) (.done (.inr (.inr ((v.2.1,v.2.2.1,v.2.2.2.1,v.2.2.2.2.1,v.2.2.2.2.2.1,v.2.2.2.2.2.2))))))
def qJK (rec:G_spec_l3Rd_row) (n:Nat) (x0:Int) (x1:BA) (x2:Int) (x3:Bool) (x4:Nat) (x5:RW):Tr (Int×BA×Int×Bool×Nat×RW):=(.ask (x3) (.done ((0:Int),x1,x2,x3,x4,x5)) (.ask ((x0==(5:Int))) (.opt (rec.spec_l3Rd_one x1 x2 x3 x4 x5) fun r113=>(.done (r113.1,r113.2.1,r113.2.2.1,r113.2.2.2.1,r113.2.2.2.2.1,r113.2.2.2.2.2))) (.opt (rec.spec_l3Rd_row (IntKind.i64.wrap (x0+(1:Int))) x1 x2 x3 x4 x5) fun r114=>(.opt (zD (qES rec n) n (x0,r114.1,r114.2.1,r114.2.2.1,r114.2.2.2.1,r114.2.2.2.2.1,r114.2.2.2.2.2)) fun r118=>(.alt r118 (fun r119=>(.done (r119.1,r119.2.1,r119.2.2.1,r119.2.2.2.1,r119.2.2.2.2.1,r119.2.2.2.2.2))) (fun r120=>(.done (r120.1,r120.2.1,r120.2.2.1,r120.2.2.2.1,r120.2.2.2.2.1,r120.2.2.2.2.2))))))))
def qCl (n:Nat) (v:Int×BA×Int×Bool×Nat×RW):Tr ((Int×BA×Int×Bool×Nat×RW)⊕((Int×BA×Int×Bool×Nat×RW)⊕(BA×Int×Bool×Nat×RW))):=(.ask ((decide (v.1≤(5:Int)))) (.opt (qBW n v.1) fun r62=>(.ask (decide (0≤(1:Int)∧(1:Int)≤(r62.size:Int)∧(r62.size:Int)≤r62.size)) (.ask ((decide ((IntKind.i64.wrap (v.2.2.1+((r62.extract ((1:Int)).toNat ((r62.size:Int)).toNat).size:Int)))≤(v.2.1.size:Int)))) (.ask (decide (0≤v.2.2.1∧v.2.2.1≤(IntKind.i64.wrap (v.2.2.1+((r62.extract ((1:Int)).toNat ((r62.size:Int)).toNat).size:Int)))∧(IntKind.i64.wrap (v.2.2.1+((r62.extract ((1:Int)).toNat ((r62.size:Int)).toNat).size:Int)))≤v.2.1.size)) (.ask (((v.2.1.extract (v.2.2.1).toNat ((IntKind.i64.wrap (v.2.2.1+((r62.extract ((1:Int)).toNat ((r62.size:Int)).toNat).size:Int)))).toNat).toList==(r62.extract ((1:Int)).toNat ((r62.size:Int)).toNat).toList)) (.opt (qC9 n v.1) fun r63=>(.opt (qr n (1:Int) (0:Int) r63.1 r63.2.1 r63.2.2 (0:Int) (0:Int) false false (0:Int) (0:Int) false false ([]:RW) v.2.1 (IntKind.i64.wrap (v.2.2.1+((r62.extract ((1:Int)).toNat ((r62.size:Int)).toNat).size:Int))) v.2.2.2.1 v.2.2.2.2.1 v.2.2.2.2.2) fun r64=>(.done (.inr (.inl ((r64.1,r64.2.1,r64.2.2.1,r64.2.2.2.1,r64.2.2.2.2.1,r64.2.2.2.2.2))))))) (.done (.inl ((IntKind.i64.wrap (v.1+(1:Int))),v.2.1,v.2.2.1,v.2.2.2.1,v.2.2.2.2.1,v.2.2.2.2.2)))) .fail) (.done (.inl ((IntKind.i64.wrap (v.1+(1:Int))),v.2.1,v.2.2.1,v.2.2.2.1,v.2.2.2.2.1,v.2.2.2.2.2)))) .fail)) (.done (.inr (.inr ((v.2.1,v.2.2.1,v.2.2.2.1,v.2.2.2.2.1,v.2.2.2.2.2))))))
def qDK (rec:G_spec_l3Rd_row) (n:Nat) (v:BA×Int×BA×Int×Bool×Nat×RW):Tr ((BA×Int×BA×Int×Bool×Nat×RW)⊕((Int×BA×Int×Bool×Nat×RW)⊕(BA×BA×Int×Bool×Nat×RW))):=(.ask ((decide (v.2.1≤(10:Int)))) (.opt (qCj n v.2.1) fun r80=>(.ask ((r80.toList==v.1.toList)) (.opt (qAI n (⟨#[40]⟩:BA) v.2.2.1 v.2.2.2.1 v.2.2.2.2.1 v.2.2.2.2.2.1 v.2.2.2.2.2.2) fun r81=>(.ask (r81.1) (.opt (rec.spec_l3Rd_call v.2.1 r81.2.1 r81.2.2.1 r81.2.2.2.1 r81.2.2.2.2.1 r81.2.2.2.2.2) fun r82=>(.done (.inr (.inl ((r82.1,r82.2.1,r82.2.2.1,r82.2.2.2.1,r82.2.2.2.2.1,r82.2.2.2.2.2)))))) (.done (.inl (v.1,(IntKind.i64.wrap (v.2.1+(1:Int))),r81.2.1,r81.2.2.1,r81.2.2.2.1,r81.2.2.2.2.1,r81.2.2.2.2.2))))) (.done (.inl (v.1,(IntKind.i64.wrap (v.2.1+(1:Int))),v.2.2.1,v.2.2.2.1,v.2.2.2.2.1,v.2.2.2.2.2.1,v.2.2.2.2.2.2))))) (.done (.inr (.inr ((v.1,v.2.2.1,v.2.2.2.1,v.2.2.2.2.1,v.2.2.2.2.2.1,v.2.2.2.2.2.2))))))
def qJL (rec:G_spec_l3Rd_row) (n:Nat) (x0:BA) (x1:Int) (x2:Bool) (x3:Nat) (x4:RW):Tr (Int×BA×Int×Bool×Nat×RW):=(.opt (qAI n (⟨#[45]⟩:BA) x0 x1 x2 x3 x4) fun r32=>(.ask (r32.1) (.opt (rec.spec_l3Rd_row (5:Int) r32.2.1 r32.2.2.1 r32.2.2.2.1 r32.2.2.2.2.1 r32.2.2.2.2.2) fun r33=>(.ask (decide (1=([[(.i .i64 r33.1)]]:RW).length)) (.opt (qr n (4:Int) (0:Int) (0:Int) (0:Int) (⟨#[]⟩:BA) (0:Int) (0:Int) false false (0:Int) (0:Int) false false ([[(.i .i64 r33.1)]]:RW) r33.2.1 r33.2.2.1 r33.2.2.2.1 r33.2.2.2.2.1 r33.2.2.2.2.2) fun r48=>(.done (r48.1,r48.2.1,r48.2.2.1,r48.2.2.2.1,r48.2.2.2.2.1,r48.2.2.2.2.2))) .fail)) (.opt (qAI n (⟨#[40]⟩:BA) r32.2.1 r32.2.2.1 r32.2.2.2.1 r32.2.2.2.2.1 r32.2.2.2.2.2) fun r49=>(.ask (r49.1) (.opt (rec.spec_l3Rd_row (1:Int) r49.2.1 r49.2.2.1 r49.2.2.2.1 r49.2.2.2.2.1 r49.2.2.2.2.2) fun r50=>(.opt (qAI n (⟨#[41]⟩:BA) r50.2.1 r50.2.2.1 r50.2.2.2.1 r50.2.2.2.2.1 r50.2.2.2.2.2) fun r51=>(.ask ((!r51.1)) (.done (r50.1,r51.2.1,r51.2.2.1,true,r51.2.2.2.2.1,r51.2.2.2.2.2)) (.done (r50.1,r51.2.1,r51.2.2.1,r51.2.2.2.1,r51.2.2.2.2.1,r51.2.2.2.2.2))))) (.opt (qAI n (⟨#[34]⟩:BA) r49.2.1 r49.2.2.1 r49.2.2.2.1 r49.2.2.2.2.1 r49.2.2.2.2.2) fun r52=>(.ask (r52.1) (.opt (qFK n r52.2.1 r52.2.2.1 r52.2.2.2.1 r52.2.2.2.2.1 r52.2.2.2.2.2) fun r60=>(.done (r60.1,r60.2.1,r60.2.2.1,r60.2.2.2.1,r60.2.2.2.2.1,r60.2.2.2.2.2))) (.opt (qAI n (⟨#[35]⟩:BA) r52.2.1 r52.2.2.1 r52.2.2.2.1 r52.2.2.2.2.1 r52.2.2.2.2.2) fun r61=>(.ask (r61.1) (.opt (zD (qCl n) n ((1:Int),r61.2.1,r61.2.2.1,r61.2.2.2.1,r61.2.2.2.2.1,r61.2.2.2.2.2)) fun r65=>(.alt r65 (fun r66=>(.done (r66.1,r66.2.1,r66.2.2.1,r66.2.2.2.1,r66.2.2.2.2.1,r66.2.2.2.2.2))) (fun r67=>(.done ((0:Int),r67.1,r67.2.1,true,r67.2.2.2.1,r67.2.2.2.2))))) (.opt (qDA n r61.2.1 r61.2.2.1 r61.2.2.2.1 r61.2.2.2.2.1 r61.2.2.2.2.2) fun r79=>(.opt (zD (qDK rec n) n (r79.1,(1:Int),r79.2.1,r79.2.2.1,r79.2.2.2.1,r79.2.2.2.2.1,r79.2.2.2.2.2)) fun r83=>(.alt r83 (fun r84=>(.done (r84.1,r84.2.1,r84.2.2.1,r84.2.2.2.1,r84.2.2.2.2.1,r84.2.2.2.2.2))) (fun r85=>(.opt (qAL n r85.1) fun r107=>(.ask (r107.2.2.2) (.ask ((!(r85.1.toList==(⟨#[]⟩:BA).toList))) (.opt (qr n (1:Int) (0:Int) r107.1 r107.2.1 r107.2.2.1 (0:Int) (0:Int) false false (0:Int) (0:Int) false false ([]:RW) r85.2.1 r85.2.2.1 r85.2.2.2.1 r85.2.2.2.2.1 r85.2.2.2.2.2) fun r108=>(.done (r108.1,r108.2.1,r108.2.2.1,r108.2.2.2.1,r108.2.2.2.2.1,r108.2.2.2.2.2))) (.opt (qAr n r85.1) fun r109=>(.ask ((!r109.2.2.2.2)) (.done ((0:Int),r85.2.1,r85.2.2.1,true,r85.2.2.2.2.1,r85.2.2.2.2.2)) (.opt (qr n (2:Int) (0:Int) (0:Int) (0:Int) (⟨#[]⟩:BA) r109.1 r109.2.1 r109.2.2.1 r109.2.2.2.1 (0:Int) (0:Int) false false ([]:RW) r85.2.1 r85.2.2.1 r85.2.2.2.1 r85.2.2.2.2.1 r85.2.2.2.2.2) fun r110=>(.done (r110.1,r110.2.1,r110.2.2.1,r110.2.2.2.1,r110.2.2.2.2.1,r110.2.2.2.2.2)))))) (.opt (qAr n r85.1) fun r111=>(.ask ((!r111.2.2.2.2)) (.done ((0:Int),r85.2.1,r85.2.2.1,true,r85.2.2.2.2.1,r85.2.2.2.2.2)) (.opt (qr n (2:Int) (0:Int) (0:Int) (0:Int) (⟨#[]⟩:BA) r111.1 r111.2.1 r111.2.2.1 r111.2.2.2.1 (0:Int) (0:Int) false false ([]:RW) r85.2.1 r85.2.2.1 r85.2.2.2.1 r85.2.2.2.2.1 r85.2.2.2.2.2) fun r112=>(.done (r112.1,r112.2.1,r112.2.2.1,r112.2.2.2.1,r112.2.2.2.2.1,r112.2.2.2.2.2)))))))))))))))))))
def qD8 (rec:G_spec_l3Rd_row) (n:Nat) (v:Int×Nat×RW×BA×Int×Bool×Nat×RW):Tr ((Int×Nat×RW×BA×Int×Bool×Nat×RW)⊕((Int×BA×Int×Bool×Nat×RW)⊕(BA×Int×Bool×Nat×RW))):=(.ask ((!v.2.2.2.2.2.1)) (.opt (rec.spec_l3Rd_arg v.2.2.2.1 v.2.2.2.2.1 v.2.2.2.2.2.1 v.2.2.2.2.2.2.1 v.2.2.2.2.2.2.2) fun r84=>(.ask (decide (1=([[(.i .i64 r84.1)]]:RW).length)) (.ask (decide (v.2.1=v.2.2.1.length∧0<1∧0<8∧(v.2.1+([[(.i .i64 r84.1)]]:RW).length)*8≤140737488355328∧([[(.i .i64 r84.1)]]:RW).all (fun e=>e.length==1)=true)) (.opt (qAI n (⟨#[41]⟩:BA) r84.2.1 r84.2.2.1 r84.2.2.2.1 r84.2.2.2.2.1 r84.2.2.2.2.2) fun r85=>(.ask (r85.1) (.ask (decide ((v.2.1+1)=(v.2.2.1++([[(.i .i64 r84.1)]]:RW)).length)) (.opt (qr n (6:Int) v.1 (0:Int) (0:Int) (⟨#[]⟩:BA) (0:Int) (0:Int) false false (0:Int) (0:Int) false false (v.2.2.1++([[(.i .i64 r84.1)]]:RW)) r85.2.1 r85.2.2.1 r85.2.2.2.1 r85.2.2.2.2.1 r85.2.2.2.2.2) fun r86=>(.done (.inr (.inl ((r86.1,r86.2.1,r86.2.2.1,r86.2.2.2.1,r86.2.2.2.2.1,r86.2.2.2.2.2)))))) .fail) (.opt (qAI n (⟨#[44]⟩:BA) r85.2.1 r85.2.2.1 r85.2.2.2.1 r85.2.2.2.2.1 r85.2.2.2.2.2) fun r87=>(.ask ((!r87.1)) (.done (.inl (v.1,(v.2.1+1),(v.2.2.1++([[(.i .i64 r84.1)]]:RW)),r87.2.1,r87.2.2.1,true,r87.2.2.2.2.1,r87.2.2.2.2.2))) (.done (.inl (v.1,(v.2.1+1),(v.2.2.1++([[(.i .i64 r84.1)]]:RW)),r87.2.1,r87.2.2.1,r87.2.2.2.1,r87.2.2.2.2.1,r87.2.2.2.2.2))))))) .fail) .fail)) (.done (.inr (.inr ((v.2.2.2.1,v.2.2.2.2.1,v.2.2.2.2.2.1,v.2.2.2.2.2.2.1,v.2.2.2.2.2.2.2))))))
def qIR (rec:G_spec_l3Rd_row) (n:Nat) (x0:Int) (x1:BA) (x2:Int) (x3:Bool) (x4:Nat) (x5:RW):Tr (Int×BA×Int×Bool×Nat×RW):=(.opt (zD (qD8 rec n) n (x0,(0:Nat),([]:RW),x1,x2,x3,x4,x5)) fun r88=>(.alt r88 (fun r89=>(.done (r89.1,r89.2.1,r89.2.2.1,r89.2.2.2.1,r89.2.2.2.2.1,r89.2.2.2.2.2))) (fun r90=>(.done ((0:Int),r90.1,r90.2.1,r90.2.2.1,r90.2.2.2.1,r90.2.2.2.2)))))
def qJM (rec:G_spec_l3Rd_row) (n:Nat) (x0:BA) (x1:Int) (x2:Bool) (x3:Nat) (x4:RW):Tr (Int×BA×Int×Bool×Nat×RW):=(.opt (qBl n x0 x1 x2 x3 x4) fun r84=>(.opt (qDA n r84.1 r84.2.1 r84.2.2.1 r84.2.2.2.1 r84.2.2.2.2) fun r85=>(.opt (qAr n r85.1) fun r130=>(.ask (r130.2.2.2.2) (.opt (qAI n (⟨#[58]⟩:BA) r85.2.1 r85.2.2.1 r85.2.2.2.1 r85.2.2.2.2.1 r85.2.2.2.2.2) fun r131=>(.ask (r131.1) (.opt (qBl n r131.2.1 r131.2.2.1 r131.2.2.2.1 r131.2.2.2.2.1 r131.2.2.2.2.2) fun r132=>(.opt (qDA n r132.1 r132.2.1 r132.2.2.1 r132.2.2.2.1 r132.2.2.2.2) fun r133=>(.opt (qAr n r133.1) fun r134=>(.ask ((!r134.2.2.2.2)) (.done ((0:Int),r133.2.1,r133.2.2.1,true,r133.2.2.2.2.1,r133.2.2.2.2.2)) (.opt (qr n (3:Int) (0:Int) (0:Int) (0:Int) (⟨#[]⟩:BA) r130.1 r130.2.1 r130.2.2.1 r130.2.2.2.1 r134.1 r134.2.1 r134.2.2.1 r134.2.2.2.1 ([]:RW) r133.2.1 r133.2.2.1 r133.2.2.2.1 r133.2.2.2.2.1 r133.2.2.2.2.2) fun r135=>(.done (r135.1,r135.2.1,r135.2.2.1,r135.2.2.2.1,r135.2.2.2.2.1,r135.2.2.2.2.2))))))) (.opt (rec.spec_l3Rd_row (1:Int) r131.2.1 r84.2.1 r131.2.2.2.1 r131.2.2.2.2.1 r131.2.2.2.2.2) fun r136=>(.done (r136.1,r136.2.1,r136.2.2.1,r136.2.2.2.1,r136.2.2.2.2.1,r136.2.2.2.2.2))))) (.opt (rec.spec_l3Rd_row (1:Int) r85.2.1 r84.2.1 r85.2.2.2.1 r85.2.2.2.2.1 r85.2.2.2.2.2) fun r137=>(.done (r137.1,r137.2.1,r137.2.2.1,r137.2.2.2.1,r137.2.2.2.2.1,r137.2.2.2.2.2)))))))
def qd:Nat→G_spec_l3Rd_row
 |0=>⟨fun _ _ _ _ _ _=>none,fun _ _ _ _ _=>none,fun _ _ _ _ _ _=>none,fun _ _ _ _ _=>none⟩
 |n+1=>⟨fun x0 x1 x2 x3 x4 x5=>(qJK (qd n) n x0 x1 x2 x3 x4 x5).run,fun x0 x1 x2 x3 x4=>(qJL (qd n) n x0 x1 x2 x3 x4).run,fun x0 x1 x2 x3 x4 x5=>(qIR (qd n) n x0 x1 x2 x3 x4 x5).run,fun x0 x1 x2 x3 x4=>(qJM (qd n) n x0 x1 x2 x3 x4).run⟩
def qEN (n:Nat) (x0:Int) (x1:BA) (x2:Int) (x3:Bool) (x4:Nat) (x5:RW):Option (Int×BA×Int×Bool×Nat×RW):=(qd n).spec_l3Rd_row x0 x1 x2 x3 x4 x5
def qJN (n:Nat) (x0:BA) (x1:Int) (x2:Bool) (x3:Nat) (x4:RW):Option (Int×BA×Int×Bool×Nat×RW):=(qd n).spec_l3Rd_one x0 x1 x2 x3 x4
def qIS (n:Nat) (x0:Int) (x1:BA) (x2:Int) (x3:Bool) (x4:Nat) (x5:RW):Option (Int×BA×Int×Bool×Nat×RW):=(qd n).spec_l3Rd_call x0 x1 x2 x3 x4 x5
def qJO (n:Nat) (x0:BA) (x1:Int) (x2:Bool) (x3:Nat) (x4:RW):Option (Int×BA×Int×Bool×Nat×RW):=(qd n).spec_l3Rd_arg x0 x1 x2 x3 x4
def qA9 (n:Nat):Prop:=
 Ok (Rn n) qJJ (qEN n)∧
 Ok (Rn n) qON (qJN n)∧
 Ok (Rn n) qM7 (qIS n)∧
 Ok (Rn n) qOO (qJO n)
abbrev qJP (n:Nat) (ih:qA9 n):List (Ent (Rn n)):= [en ih.2.1,en ih.1,en (qOM n),en (qC8 n)]
def qLe (n:Nat) (ih:qA9 n):LEnt (KB 134) (Rn n) n:=lok (zL 134) 62 ⟨⟨[(0,(.c (.ptr 0 0 0 0 0))),(1,aI),(5,aI)],[],[[(0,⟨0,4,175,(.box [qS,qI,qB,(.own 0 1 1 0)])⟩),(1,⟨1,14,162,(.row [])⟩)]]⟩,[(.ret,⟨[(4,aI)],[],[[(0,⟨0,4,175,(.box [qS,qI,qB,(.own 0 1 1 0)])⟩),(1,⟨1,14,162,(.row [])⟩)]]⟩),(.exit 0,⟨[(5,aI)],[],[[(0,⟨0,4,175,(.box [qS,qI,qB,(.own 0 1 1 0)])⟩),(1,⟨1,14,162,(.row [])⟩)]]⟩)]⟩ (qES (qd n) n) (qJP n ih) [] fun _=>(by kernel_rfl)
abbrev qFv (n:Nat) (ih:qA9 n):List (Ent (Rn n)):= [en (qEL n),en ih.1,en (qC8 n),en (qMH n),en (qGe n),en (qOJ n),en (qHV n),en (qMI n),en ih.2.2.1,en (qHX n),en (qHW n)]
def qJy (n:Nat) (ih:qA9 n):LEnt (KB 173) (Rn n) n:=lok (zL 173) 7161 ⟨⟨[(0,(.c (.ptr 0 0 0 0 0))),(5,aI)],[],[[(0,⟨0,4,175,(.box [qS,qI,qB,(.own 0 1 1 0)])⟩),(1,⟨1,14,162,(.row [])⟩)]]⟩,[(.ret,⟨[(2,aI)],[],[[(0,⟨0,4,175,(.box [qS,qI,qB,(.own 0 1 1 0)])⟩),(1,⟨1,14,162,(.row [])⟩)]]⟩),(.exit 1,⟨[(0,(.c (.ptr 0 0 0 0 0)))],[],[[(0,⟨0,4,175,(.box [qS,qI,qB,(.own 0 1 1 0)])⟩),(1,⟨1,14,162,(.row [])⟩)]]⟩)]⟩ (qCl n) (qFv n ih) [] fun _=>(by kernel_rfl)
def qLf (n:Nat) (ih:qA9 n):LEnt (KB 173) (Rn n) n:=lok (zL 173) 61 ⟨⟨[(0,(.c (.ptr 0 0 0 0 0))),(7,aS),(8,aI)],[],[[(0,⟨0,4,175,(.box [qS,qI,qB,(.own 0 1 1 0)])⟩),(1,⟨1,14,162,(.row [])⟩)]]⟩,[(.ret,⟨[(2,aI)],[],[[(0,⟨0,4,175,(.box [qS,qI,qB,(.own 0 1 1 0)])⟩),(1,⟨1,14,162,(.row [])⟩)]]⟩),(.exit 3,⟨[(0,(.c (.ptr 0 0 0 0 0))),(7,aS)],[],[[(0,⟨0,4,175,(.box [qS,qI,qB,(.own 0 1 1 0)])⟩),(1,⟨1,14,162,(.row [])⟩)]]⟩)]⟩ (qDK (qd n) n) (qFv n ih) [] fun _=>(by kernel_rfl)
abbrev qIT (n:Nat) (ih:qA9 n):List (Ent (Rn n)):= [en ih.2.2.2,en (qEL n),en (qC8 n)]
def qK2 (n:Nat) (ih:qA9 n):LEnt (KB 212) (Rn n) n:=lok (zL 212) 14 ⟨⟨[(0,(.c (.ptr 0 0 0 0 0))),(1,aI),(5,(.c (.own 1 384 0 0)))],[(384,⟨0,1,2,(.row [])⟩)],[[(0,⟨0,4,175,(.box [qS,qI,qB,(.own 0 1 1 0)])⟩),(1,⟨1,14,162,(.row [])⟩)]]⟩,[(.ret,⟨[(4,aI)],[],[[(0,⟨0,4,175,(.box [qS,qI,qB,(.own 0 1 1 0)])⟩),(1,⟨1,14,162,(.row [])⟩)]]⟩),(.exit 0,⟨[],[],[[(0,⟨0,4,175,(.box [qS,qI,qB,(.own 0 1 1 0)])⟩),(1,⟨1,14,162,(.row [])⟩)]]⟩)]⟩ (qD8 (qd n) n) (qIT n ih) [] fun _=>(by kernel_rfl)
abbrev qOP (n:Nat) (ih:qA9 n):List (Ent (Rn n)):= [en (qD6 n),en (qHV n),en (qHW n),en (qEL n),en (qC8 n),en ih.1]
theorem qBA:∀n,qA9 n
 |0=>⟨ok0 fun _=>rfl,ok0 fun _=>rfl,ok0 fun _=>rfl,ok0 fun _=>rfl⟩
 |n+1=>⟨stO (T:=qJK (qd n) n) (by kernel_rfl) (qJP n (qBA n)) [qLe n (qBA n)] (fun _=>(by kernel_rfl)) fun _=>(by kernel_rfl),stO (T:=qJL (qd n) n) (by kernel_rfl) (qFv n (qBA n)) [qJy n (qBA n),qLf n (qBA n)] (fun _=>(by kernel_rfl)) fun _=>(by kernel_rfl),stO (T:=qIR (qd n) n) (by kernel_rfl) (qIT n (qBA n)) [qK2 n (qBA n)] (fun _=>(by kernel_rfl)) fun _=>(by kernel_rfl),stO (T:=qJM (qd n) n) (by kernel_rfl) (qOP n (qBA n)) [] (fun _=>(by kernel_rfl)) fun _=>(by kernel_rfl)⟩
theorem qM8 (n:Nat):Ok (Rn n) qJJ (qEN n):=(qBA n).1
def qHw:Sg:=⟨177,[aL,aI],[],⟨aI,[],[]⟩⟩
def qBB (rec:RW→Int→Option (Int)) (n:Nat) (v:RW×Int×Int×Int):Tr ((RW×Int×Int×Int)⊕((Int)⊕(Int))):=(.ask ((decide (v.2.2.2≥(0:Int)))) (.ask ((decide (v.2.2.1<(0:Int)))) (.done (.inr (.inl ((-1:Int))))) (.ask (decide (0≤v.2.1∧v.2.1<v.1.length)) (.opt (v.1[(v.2.1).toNat]?) fun e158=>(.ask (decide (e158.length=14)) (.opt (zAb e158 13) fun y159=>(.ask (decide (0≤v.2.2.2∧v.2.2.2<y159.length)) (.opt (y159[(v.2.2.2).toNat]?) fun e160=>(.ask (decide (e160.length=1)) (.opt (zC .i64 e160 0) fun y161=>(.ask ((y161 !=v.2.2.1)) (.done (.inr (.inl ((-1:Int))))) (.opt (rec v.1 v.2.2.1) fun r162=>(.ask ((decide (r162<(0:Int)))) (.done (.inr (.inl ((-1:Int))))) (.done (.inl (v.1,v.2.1,(IntKind.i64.wrap (r162-(1:Int))),(IntKind.i64.wrap (v.2.2.2-(1:Int)))))))))) .fail)) .fail)) .fail)) .fail)) (.done (.inr (.inr (v.2.2.1)))))
def qHx (rec:RW→Int→Option (Int)) (n:Nat) (x0:RW) (x1:Int):Tr (Int):=(.ask (decide (0≤x1∧x1<x0.length)) (.opt (x0[(x1).toNat]?) fun e156=>(.ask (decide (e156.length=14)) (.opt (zAb e156 13) fun y157=>(.opt (zD (qBB rec n) n (x0,x1,(IntKind.i64.wrap (x1-(1:Int))),(IntKind.i64.wrap ((y157.length:Int)-(1:Int))))) fun r163=>(.alt r163 (fun r164=>(.done r164)) (fun r165=>(.done (IntKind.i64.wrap (r165+(1:Int)))))))) .fail)) .fail)
def qAs:Nat→RW→Int→Option (Int)
 |0,_,_=>none
 |n+1,x0,x1=>(qHx (qAs n) n x0 x1).run
abbrev qLP (n:Nat) (ih:Ok (Rn n) qHw (qAs n)):List (Ent (Rn n)):= [en ih]
def qM9 (n:Nat) (ih:Ok (Rn n) qHw (qAs n)):LEnt (KB 177) (Rn n) n:=lok (zL 177) 29 ⟨⟨[(0,aL),(1,aI),(5,aI),(6,aI)],[],[]⟩,[(.ret,⟨[(4,aI)],[],[]⟩),(.exit 0,⟨[(5,aI)],[],[]⟩)]⟩ (qBB (qAs n) n) (qLP n ih) [] fun _=>(by kernel_rfl)
theorem qGi:∀n,Ok (Rn n) qHw (qAs n)
 |0=>ok0 fun _=>rfl
 |n+1=>stO (T:=qHx (qAs n) n) (by kernel_rfl) (qLP n (qGi n)) [qM9 n (qGi n)] (fun _=>(by kernel_rfl)) fun _=>(by kernel_rfl)
def qHy:Sg:=⟨178,[aL,aI],[],⟨aI,[],[]⟩⟩
def qDC (rec:RW→Int→Option (Int)) (n:Nat) (v:RW×Int×Int×Int):Tr ((RW×Int×Int×Int)⊕((Int))):=(.ask (decide (0≤v.2.1∧v.2.1<v.1.length)) (.opt (v.1[(v.2.1).toNat]?) fun e169=>(.ask (decide (e169.length=14)) (.opt (zAb e169 13) fun y170=>(.ask ((decide (v.2.2.2<(y170.length:Int)))) (.ask (decide (0≤v.2.1∧v.2.1<v.1.length)) (.opt (v.1[(v.2.1).toNat]?) fun e171=>(.ask (decide (e171.length=14)) (.opt (zAb e171 13) fun y172=>(.ask (decide (0≤v.2.2.2∧v.2.2.2<y172.length)) (.opt (y172[(v.2.2.2).toNat]?) fun e173=>(.ask (decide (e173.length=1)) (.opt (zC .i64 e173 0) fun y174=>(.opt (rec v.1 y174) fun r175=>(.done (.inl (v.1,v.2.1,(if r175>v.2.2.1 then r175 else v.2.2.1),(IntKind.i64.wrap (v.2.2.2+(1:Int)))))))) .fail)) .fail)) .fail)) .fail) (.done (.inr (v.2.2.1))))) .fail)) .fail)
def qHz (rec:RW→Int→Option (Int)) (n:Nat) (x0:RW) (x1:Int):Tr (Int):=(.opt (zD (qDC rec n) n (x0,x1,(0:Int),(0:Int))) fun r176=>(.done (IntKind.i64.wrap (r176+(1:Int)))))
def qAt:Nat→RW→Int→Option (Int)
 |0,_,_=>none
 |n+1,x0,x1=>(qHz (qAt n) n x0 x1).run
abbrev qLQ (n:Nat) (ih:Ok (Rn n) qHy (qAt n)):List (Ent (Rn n)):= [en ih]
def qNA (n:Nat) (ih:Ok (Rn n) qHy (qAt n)):LEnt (KB 178) (Rn n) n:=lok (zL 178) 29 ⟨⟨[(0,aL),(1,aI),(5,aI),(6,aI)],[],[]⟩,[(.exit 0,⟨[(5,aI)],[],[]⟩)]⟩ (qDC (qAt n) n) (qLQ n ih) [] fun _=>(by kernel_rfl)
theorem qGj:∀n,Ok (Rn n) qHy (qAt n)
 |0=>ok0 fun _=>rfl
 |n+1=>stO (T:=qHz (qAt n) n) (by kernel_rfl) (qLQ n (qGj n)) [qNA n (qGj n)] (fun _=>(by kernel_rfl)) fun _=>(by kernel_rfl)
def qNB:Sg:=⟨136,[aL],[],⟨aB,[],[]⟩⟩
def qAm (n:Nat) (v:RW×Int×Int):Tr ((RW×Int×Int)⊕((Bool)⊕(RW×Int))):=(.ask (decide (0≤v.2.1∧v.2.1<v.1.length)) (.opt (v.1[(v.2.1).toNat]?) fun e139=>(.ask (decide (e139.length=14)) (.opt (zAb e139 13) fun y140=>(.ask ((decide (v.2.2<(y140.length:Int)))) (.ask (decide (0≤v.2.1∧v.2.1<v.1.length)) (.opt (v.1[(v.2.1).toNat]?) fun e141=>(.ask (decide (e141.length=14)) (.opt (zAb e141 13) fun y142=>(.ask (decide (0≤v.2.2∧v.2.2<y142.length)) (.opt (y142[(v.2.2).toNat]?) fun e143=>(.ask (decide (e143.length=1)) (.opt (zC .i64 e143 0) fun y144=>(.opt (qA0 n y144 (0:Int) (IntKind.i64.wrap (v.2.1-(1:Int)))) fun r145=>(.ask ((!r145)) (.done (.inr (.inl (false)))) (.ask (decide (0≤y144∧y144<v.1.length)) (.opt (v.1[(y144).toNat]?) fun e146=>(.ask (decide (e146.length=14)) (.opt (zC .i64 e146 0) fun y147=>(.ask ((y147==(3:Int))) (.ask (decide (0≤v.2.1∧v.2.1<v.1.length)) (.opt (v.1[(v.2.1).toNat]?) fun e148=>(.ask (decide (e148.length=14)) (.opt (zC .i64 e148 0) fun y149=>(.ask ((y149 !=(6:Int))) (.done (.inr (.inl (false)))) (.done (.inl (v.1,v.2.1,(IntKind.i64.wrap (v.2.2+(1:Int)))))))) .fail)) .fail) (.done (.inl (v.1,v.2.1,(IntKind.i64.wrap (v.2.2+(1:Int)))))))) .fail)) .fail)))) .fail)) .fail)) .fail)) .fail) (.done (.inr (.inr ((v.1,v.2.1))))))) .fail)) .fail)
def qBE (n:Nat) (v:RW×Int):Tr ((RW×Int)⊕((Bool)⊕(RW))):=(.ask ((decide (v.2<(v.1.length:Int)))) (.ask (decide (0≤v.2∧v.2<v.1.length)) (.opt (v.1[(v.2).toNat]?) fun e123=>(.ask (decide (e123.length=14)) (.opt (zC .i64 e123 0) fun y124=>(.opt (zC .i64 e123 1) fun y125=>(.opt (zC .i64 e123 2) fun y126=>(.opt (zC .i64 e123 3) fun y127=>(.opt (zX e123 4) fun y128=>(.opt (zC .i64 e123 5) fun y129=>(.opt (zC .i64 e123 6) fun y130=>(.opt (zu e123 7) fun y131=>(.opt (zu e123 8) fun y132=>(.opt (zC .i64 e123 9) fun y133=>(.opt (zC .i64 e123 10) fun y134=>(.opt (zu e123 11) fun y135=>(.opt (zu e123 12) fun y136=>(.opt (zAb e123 13) fun y137=>(.opt (qCC n y124 y125 y126 y127 y128 y129 y130 y131 y132 y133 y134 y135 y136 y137) fun r138=>(.ask ((!r138)) (.done (.inr (.inl (false)))) (.opt (zD (qAm n) n (v.1,v.2,(0:Int))) fun r150=>(.alt r150 (fun r151=>(.done (.inr (.inl (r151))))) (fun r152=>(.done (.inl (r152.1,(IntKind.i64.wrap (r152.2+(1:Int))))))))))))))))))))))))) .fail)) .fail) (.done (.inr (.inr (v.1)))))
def qDD (n:Nat) (x0:RW):Tr (Bool):=(.ask ((decide ((x0.length:Int)<(1:Int)))) (.done false) (.ask ((decide ((x0.length:Int)>(60:Int)))) (.done false) (.opt (zD (qBE n) n (x0,(0:Int))) fun r153=>(.alt r153 (fun r154=>(.done r154)) (fun r155=>(.opt (qAs n r155 (IntKind.i64.wrap ((r155.length:Int)-(1:Int)))) fun r166=>(.ask ((r166==(0:Int))) (.ask (decide (0≤(IntKind.i64.wrap ((r155.length:Int)-(1:Int)))∧(IntKind.i64.wrap ((r155.length:Int)-(1:Int)))<r155.length)) (.opt (r155[((IntKind.i64.wrap ((r155.length:Int)-(1:Int)))).toNat]?) fun e167=>(.ask (decide (e167.length=14)) (.opt (zC .i64 e167 0) fun y168=>(.ask ((y168 !=(3:Int))) (.opt (qAt n r155 (IntKind.i64.wrap ((r155.length:Int)-(1:Int)))) fun r177=>(.done (decide (r177≤(12:Int))))) (.done false))) .fail)) .fail) (.done false))))))))
def qBR:Nat→RW→Option (Bool)
 |0,_=>none
 |n+1,x0=>(qDD n x0).run
abbrev qFL (n:Nat):List (Ent (Rn n)):= [en (qIL n),en (qDx n),en (qGi n),en (qGj n)]
def qJz (n:Nat):LEnt (lb 29 (KB 136)) (Rn n) n:=lok (Uniq.pick (zL 136) 29) 475 ⟨⟨[(0,aL),(3,aI),(4,aI)],[],[]⟩,[(.ret,⟨[(2,aB)],[],[]⟩),(.exit 2,⟨[(0,aL),(3,aI)],[],[]⟩)]⟩ (qAm n) (qFL n) [] fun _=>(by kernel_rfl)
def qK3 (n:Nat):LEnt (KB 136) (Rn n) n:=lok (zL 136) 29 ⟨⟨[(0,aL),(3,aI)],[],[]⟩,[(.ret,⟨[(2,aB)],[],[]⟩),(.exit 0,⟨[(0,aL)],[],[]⟩)]⟩ (qBE n) (qFL n) [qJz n] fun _=>(by kernel_rfl)
theorem qEq:∀n,Ok (Rn n) qNB (qBR n)
 |0=>ok0 fun _=>rfl
 |n+1=>stO (T:=qDD n) (by kernel_rfl) (qFL n) [qK3 n] (fun _=>(by kernel_rfl)) fun _=>(by kernel_rfl)
def qLg:Sg:=⟨93,[aS],[],⟨(.tup [(false,[qL]),(false,[qB])]),[],[]⟩⟩
def qGk (n:Nat) (x0:BA):Tr (RW×Bool):=(.opt (qCR n x0) fun r28=>(.ask ((!r28)) (.ask (decide (0=([]:RW).length)) (.done (([]:RW),false)) .fail) (.opt (qEN n (1:Int) x0 (0:Int) false (0:Nat) ([]:RW)) fun r121=>(.opt (qBl n r121.2.1 r121.2.2.1 r121.2.2.2.1 r121.2.2.2.2.1 r121.2.2.2.2.2) fun r122=>(.ask (r122.2.2.1) (.ask (decide (0=([]:RW).length)) (.done (([]:RW),false)) .fail) (.ask ((decide (r122.2.1<(x0.size:Int)))) (.ask (decide (0=([]:RW).length)) (.done (([]:RW),false)) .fail) (.ask (decide (r122.2.2.2.1=r122.2.2.2.2.length)) (.opt (qBR n r122.2.2.2.2) fun r178=>(.ask (zAS (⟨(.c (.p (.b r178))),[],[]⟩:Res)) (.ask ((!r178)) (.ask (decide (0=([]:RW).length)) (.done (([]:RW),false)) .fail) (.ask (decide (r122.2.2.2.1=r122.2.2.2.2.length)) (.done (r122.2.2.2.2,true)) .fail)) .fail)) .fail)))))))
def qDL:Nat→BA→Option (RW×Bool)
 |0,_=>none
 |n+1,x0=>(qGk n x0).run
abbrev qLh (n:Nat):List (Ent (Rn n)):= [en (qFt n),en (qM8 n),en (qD6 n),en (qEq n)]
theorem qGE:∀n,Ok (Rn n) qLg (qDL n)
 |0=>ok0 fun _=>rfl
 |n+1=>stO (T:=qGk n) (by kernel_rfl) (qLh n) [] (fun _=>(by kernel_rfl)) fun _=>(by kernel_rfl)
def qPV:Sg:=⟨179,[aS],[],⟨aS,[],[]⟩⟩
def qBb (n:Nat) (v:BA×BA×Int):Tr ((BA×BA×Int)⊕((BA))):=(.ask ((decide (v.2.2<(v.1.size:Int)))) (.ask (decide (0≤v.2.2)) (.opt (v.1.toList[(v.2.2).toNat]?) fun c196=>(.ask (((c196.toNat:Int)==(34:Int))) (.ask (decide (v.2.1.size+(⟨#[34]⟩:BA).size≤9223372036854775807)) (.ask (decide (0≤v.2.2∧v.2.2≤(IntKind.i64.wrap (v.2.2+(1:Int)))∧(IntKind.i64.wrap (v.2.2+(1:Int)))≤v.1.size)) (.ask (decide ((v.2.1++(⟨#[34]⟩:BA)).size+(v.1.extract (v.2.2).toNat ((IntKind.i64.wrap (v.2.2+(1:Int)))).toNat).size≤9223372036854775807)) (.done (.inl (v.1,((v.2.1++(⟨#[34]⟩:BA))++(v.1.extract (v.2.2).toNat ((IntKind.i64.wrap (v.2.2+(1:Int)))).toNat)),(IntKind.i64.wrap (v.2.2+(1:Int)))))) .fail) .fail) .fail) (.ask (decide (0≤v.2.2∧v.2.2≤(IntKind.i64.wrap (v.2.2+(1:Int)))∧(IntKind.i64.wrap (v.2.2+(1:Int)))≤v.1.size)) (.ask (decide (v.2.1.size+(v.1.extract (v.2.2).toNat ((IntKind.i64.wrap (v.2.2+(1:Int)))).toNat).size≤9223372036854775807)) (.done (.inl (v.1,(v.2.1++(v.1.extract (v.2.2).toNat ((IntKind.i64.wrap (v.2.2+(1:Int)))).toNat)),(IntKind.i64.wrap (v.2.2+(1:Int)))))) .fail) .fail))) .fail) (.done (.inr (v.2.1))))
def qGl (n:Nat) (x0:BA):Tr (BA):=(.opt (zD (qBb n) n (x0,(⟨#[34]⟩:BA),(0:Int))) fun r197=>(.ask (decide (r197.size+(⟨#[34]⟩:BA).size≤9223372036854775807)) (.done (r197++(⟨#[34]⟩:BA))) .fail))
def qEr:Nat→BA→Option (BA)
 |0,_=>none
 |n+1,x0=>(qGl n x0).run
def qMM (n:Nat):LEnt (KB 179) (Rn n) n:=lok (zL 179) 29 ⟨⟨[(0,aS),(3,aS),(4,aI)],[],[]⟩,[(.exit 0,⟨[(3,aS)],[],[]⟩)]⟩ (qBb n) [] [] fun _=>(by kernel_rfl)
theorem qOQ:∀n,Ok (Rn n) qPV (qEr n)
 |0=>ok0 fun _=>rfl
 |n+1=>stO (T:=qGl n) (by kernel_rfl) [] [qMM n] (fun _=>(by kernel_rfl)) fun _=>(by kernel_rfl)
def qIn:Sg:=⟨59,[aI],[],⟨aS,[],[]⟩⟩
def qDY (n:Nat) (v:Int×BA):Tr ((Int×BA)⊕((Int×BA))):=(.ask ((decide (v.1≥(10:Int)))) (.ask (decide (1=([[(.i .u8 (IntKind.u8.wrap (IntKind.i64.wrap ((48:Int)+(Int.tmod v.1 (10:Int))))))]]:RW).length)) (.opt (bytesOf ([[(.i .u8 (IntKind.u8.wrap (IntKind.i64.wrap ((48:Int)+(Int.tmod v.1 (10:Int))))))]]:RW)) fun l201=>(.ask (decide ((⟨l201.toArray⟩:BA).size+v.2.size≤9223372036854775807)) (.done (.inl ((IntKind.i64.wrap (Int.tdiv v.1 (10:Int))),((⟨l201.toArray⟩:BA)++v.2)))) .fail)) .fail) (.done (.inr ((v.1,v.2)))))
def qGS (rec:Int→Option (BA)) (n:Nat) (x0:Int):Tr (BA):=(.ask ((decide (x0<(0:Int)))) (.opt (rec (IntKind.i64.wrap (0-x0))) fun r200=>(.ask (decide ((⟨#[45]⟩:BA).size+r200.size≤9223372036854775807)) (.done ((⟨#[45]⟩:BA)++r200)) .fail)) (.opt (zD (qDY n) n (x0,(⟨#[]⟩:BA))) fun r202=>(.ask (decide (1=([[(.i .u8 (IntKind.u8.wrap (IntKind.i64.wrap ((48:Int)+r202.1))))]]:RW).length)) (.opt (bytesOf ([[(.i .u8 (IntKind.u8.wrap (IntKind.i64.wrap ((48:Int)+r202.1))))]]:RW)) fun l203=>(.ask (decide ((⟨l203.toArray⟩:BA).size+r202.2.size≤9223372036854775807)) (.done ((⟨l203.toArray⟩:BA)++r202.2)) .fail)) .fail)))
def qAx:Nat→Int→Option (BA)
 |0,_=>none
 |n+1,x0=>(qGS (qAx n) n x0).run
abbrev qMN (n:Nat) (ih:Ok (Rn n) qIn (qAx n)):List (Ent (Rn n)):= [en ih]
def qOR (n:Nat) (ih:Ok (Rn n) qIn (qAx n)):LEnt (KB 59) (Rn n) n:=lok (zL 59) 30 ⟨⟨[(0,aI),(3,aS)],[],[]⟩,[(.exit 0,⟨[(0,aI),(3,aS)],[],[]⟩)]⟩ (qDY n) (qMN n ih) [] fun _=>(by kernel_rfl)
theorem qFa:∀n,Ok (Rn n) qIn (qAx n)
 |0=>ok0 fun _=>rfl
 |n+1=>stO (T:=qGS (qAx n) n) (by kernel_rfl) (qMN n (qFa n)) [qOR n (qFa n)] (fun _=>(by kernel_rfl)) fun _=>(by kernel_rfl)
def qQc:Sg:=⟨140,[aI],[],⟨aS,[],[]⟩⟩
def qH0 (n:Nat) (x0:Int):Tr (BA):=(.ask ((x0==(1:Int))) (.done (⟨#[84,82,85,69]⟩:BA)) (.done (⟨#[70,65,76,83,69]⟩:BA)))
def qFb:Nat→Int→Option (BA)
 |0,_=>none
 |n+1,x0=>(qH0 n x0).run
theorem qPW:∀n,Ok (Rn n) qQc (qFb n)
 |0=>ok0 fun _=>rfl
 |n+1=>stO (T:=qH0 n) (by kernel_rfl) [] [] (fun _=>(by kernel_rfl)) fun _=>(by kernel_rfl)
def qNC:Sg:=⟨96,[(.agg [qI,qI,qS])],[],⟨aS,[],[]⟩⟩
def qBS (n:Nat) (x0 x1:Int) (x2:BA):Tr (BA):=(.opt (qa n x0 x1 x2) fun r199=>(.ask ((!r199)) (.done (⟨#[]⟩:BA)) (.ask ((x0==(1:Int))) (.opt (qAx n x1) fun r204=>(.done r204)) (.ask ((x0==(2:Int))) (.ask (decide ((⟨#[39]⟩:BA).size+x2.size≤9223372036854775807)) (.done ((⟨#[39]⟩:BA)++x2)) .fail) (.ask ((x0==(3:Int))) (.opt (qFb n x1) fun r205=>(.done r205)) (.ask ((x0==(4:Int))) (.opt (qBW n x1) fun r206=>(.done r206)) (.done (⟨#[]⟩:BA))))))))
def qAU:Nat→Int→Int→BA→Option (BA)
 |0,_,_,_=>none
 |n+1,x0,x1,x2=>(qBS n x0 x1 x2).run
abbrev qND (n:Nat):List (Ent (Rn n)):= [en (qEM n),en (qFa n),en (qPW n),en (qGe n)]
theorem qHY:∀n,Ok (Rn n) qNC (qAU n)
 |0=>ok0 fun _=>rfl
 |n+1=>stO (T:=qBS n) (by kernel_rfl) (qND n) [] (fun _=>(by kernel_rfl)) fun _=>(by kernel_rfl)
def qNE:Sg:=⟨58,[(.agg [qI,qI,qB,qB])],[],⟨aS,[],[]⟩⟩
def qDy (n:Nat) (x0 x1:Int) (x2 x3:Bool):Tr (BA):=(.opt (qAM n x0 x1) fun r208=>(.ask ((!r208)) (.done (⟨#[]⟩:BA)) (.opt (qDB n x0) fun r209=>(.ask (x2) (.ask (decide ((⟨#[36]⟩:BA).size+r209.size≤9223372036854775807)) (.ask (x3) (.ask (decide (((⟨#[36]⟩:BA)++r209).size+(⟨#[36]⟩:BA).size≤9223372036854775807)) (.opt (qAx n x1) fun r210=>(.ask (decide ((((⟨#[36]⟩:BA)++r209)++(⟨#[36]⟩:BA)).size+r210.size≤9223372036854775807)) (.done ((((⟨#[36]⟩:BA)++r209)++(⟨#[36]⟩:BA))++r210)) .fail)) .fail) (.opt (qAx n x1) fun r211=>(.ask (decide (((⟨#[36]⟩:BA)++r209).size+r211.size≤9223372036854775807)) (.done (((⟨#[36]⟩:BA)++r209)++r211)) .fail))) .fail) (.ask (x3) (.ask (decide (r209.size+(⟨#[36]⟩:BA).size≤9223372036854775807)) (.opt (qAx n x1) fun r212=>(.ask (decide ((r209++(⟨#[36]⟩:BA)).size+r212.size≤9223372036854775807)) (.done ((r209++(⟨#[36]⟩:BA))++r212)) .fail)) .fail) (.opt (qAx n x1) fun r213=>(.ask (decide (r209.size+r213.size≤9223372036854775807)) (.done (r209++r213)) .fail)))))))
def qBm:Nat→Int→Int→Bool→Bool→Option (BA)
 |0,_,_,_,_=>none
 |n+1,x0,x1,x2,x3=>(qDy n x0 x1 x2 x3).run
abbrev qNF (n:Nat):List (Ent (Rn n)):= [en (qEH n),en (qJH n),en (qFa n)]
theorem qMO:∀n,Ok (Rn n) qNE (qBm n)
 |0=>ok0 fun _=>rfl
 |n+1=>stO (T:=qDy n) (by kernel_rfl) (qNF n) [] (fun _=>(by kernel_rfl)) fun _=>(by kernel_rfl)
def qH1:Sg:=⟨137,[aL,aI,aI],[],⟨aS,[],[]⟩⟩
def qBc (rec:RW→Int→Int→Option (BA)) (n:Nat) (v:RW×BA×Int×Int×Int×Int×Int×BA×Int×Int×Bool×Bool×Int×Int×Bool×Bool×RW):Tr ((RW×BA×Int×Int×Int×Int×Int×BA×Int×Int×Bool×Bool×Int×Int×Bool×Bool×RW)⊕((BA))):=(.ask ((decide (v.2.2.1<(v.2.2.2.2.2.2.2.2.2.2.2.2.2.2.2.2.length:Int)))) (.ask ((decide (v.2.2.1>(0:Int)))) (.ask (decide (v.2.1.size+(⟨#[44]⟩:BA).size≤9223372036854775807)) (.ask (decide (0≤v.2.2.1∧v.2.2.1<v.2.2.2.2.2.2.2.2.2.2.2.2.2.2.2.2.length)) (.opt (v.2.2.2.2.2.2.2.2.2.2.2.2.2.2.2.2[(v.2.2.1).toNat]?) fun e229=>(.ask (decide (e229.length=1)) (.opt (zC .i64 e229 0) fun y230=>(.opt (rec v.1 y230 (0:Int)) fun r231=>(.ask (decide ((v.2.1++(⟨#[44]⟩:BA)).size+r231.size≤9223372036854775807)) (.done (.inl (v.1,((v.2.1++(⟨#[44]⟩:BA))++r231),(IntKind.i64.wrap (v.2.2.1+(1:Int))),v.2.2.2.1,v.2.2.2.2.1,v.2.2.2.2.2.1,v.2.2.2.2.2.2.1,v.2.2.2.2.2.2.2.1,v.2.2.2.2.2.2.2.2.1,v.2.2.2.2.2.2.2.2.2.1,v.2.2.2.2.2.2.2.2.2.2.1,v.2.2.2.2.2.2.2.2.2.2.2.1,v.2.2.2.2.2.2.2.2.2.2.2.2.1,v.2.2.2.2.2.2.2.2.2.2.2.2.2.1,v.2.2.2.2.2.2.2.2.2.2.2.2.2.2.1,v.2.2.2.2.2.2.2.2.2.2.2.2.2.2.2.1,v.2.2.2.2.2.2.2.2.2.2.2.2.2.2.2.2))) .fail))) .fail)) .fail) .fail) (.ask (decide (0≤v.2.2.1∧v.2.2.1<v.2.2.2.2.2.2.2.2.2.2.2.2.2.2.2.2.length)) (.opt (v.2.2.2.2.2.2.2.2.2.2.2.2.2.2.2.2[(v.2.2.1).toNat]?) fun e232=>(.ask (decide (e232.length=1)) (.opt (zC .i64 e232 0) fun y233=>(.opt (rec v.1 y233 (0:Int)) fun r234=>(.ask (decide (v.2.1.size+r234.size≤9223372036854775807)) (.done (.inl (v.1,(v.2.1++r234),(IntKind.i64.wrap (v.2.2.1+(1:Int))),v.2.2.2.1,v.2.2.2.2.1,v.2.2.2.2.2.1,v.2.2.2.2.2.2.1,v.2.2.2.2.2.2.2.1,v.2.2.2.2.2.2.2.2.1,v.2.2.2.2.2.2.2.2.2.1,v.2.2.2.2.2.2.2.2.2.2.1,v.2.2.2.2.2.2.2.2.2.2.2.1,v.2.2.2.2.2.2.2.2.2.2.2.2.1,v.2.2.2.2.2.2.2.2.2.2.2.2.2.1,v.2.2.2.2.2.2.2.2.2.2.2.2.2.2.1,v.2.2.2.2.2.2.2.2.2.2.2.2.2.2.2.1,v.2.2.2.2.2.2.2.2.2.2.2.2.2.2.2.2))) .fail))) .fail)) .fail)) (.done (.inr (v.2.1))))
def qBx (rec:RW→Int→Int→Option (BA)) (n:Nat) (x0:RW) (x1 x2:Int):Tr (BA):=(.ask (decide (0≤x1∧x1<x0.length)) (.opt (x0[(x1).toNat]?) fun e181=>(.ask (decide (e181.length=14)) (.opt (zC .i64 e181 0) fun y182=>(.opt (zC .i64 e181 1) fun y183=>(.opt (zC .i64 e181 2) fun y184=>(.opt (zC .i64 e181 3) fun y185=>(.opt (zX e181 4) fun y186=>(.opt (zC .i64 e181 5) fun y187=>(.opt (zC .i64 e181 6) fun y188=>(.opt (zu e181 7) fun y189=>(.opt (zu e181 8) fun y190=>(.opt (zC .i64 e181 9) fun y191=>(.opt (zC .i64 e181 10) fun y192=>(.opt (zu e181 11) fun y193=>(.opt (zu e181 12) fun y194=>(.opt (zAb e181 13) fun y195=>(.ask ((y182==(1:Int))) (.ask ((y184==(2:Int))) (.opt (qEr n y186) fun r198=>(.done r198)) (.opt (qAU n y184 y185 y186) fun r207=>(.done r207))) (.ask ((y182==(2:Int))) (.opt (qBm n y187 y188 y189 y190) fun r214=>(.done r214)) (.ask ((y182==(3:Int))) (.opt (qBm n y187 y188 y189 y190) fun r215=>(.ask (decide (r215.size+(⟨#[58]⟩:BA).size≤9223372036854775807)) (.opt (qBm n y191 y192 y193 y194) fun r216=>(.ask (decide ((r215++(⟨#[58]⟩:BA)).size+r216.size≤9223372036854775807)) (.done ((r215++(⟨#[58]⟩:BA))++r216)) .fail)) .fail)) (.ask ((y182==(4:Int))) (.ask (decide (0≤(0:Int)∧(0:Int)<y195.length)) (.opt (y195[((0:Int)).toNat]?) fun e217=>(.ask (decide (e217.length=1)) (.opt (zC .i64 e217 0) fun y218=>(.opt (rec x0 y218 (5:Int)) fun r219=>(.ask (decide ((⟨#[45]⟩:BA).size+r219.size≤9223372036854775807)) (.done ((⟨#[45]⟩:BA)++r219)) .fail))) .fail)) .fail) (.ask ((y182==(5:Int))) (.opt (qCT n y183) fun r220=>(.ask (decide (0≤(0:Int)∧(0:Int)<y195.length)) (.opt (y195[((0:Int)).toNat]?) fun e221=>(.ask (decide (e221.length=1)) (.opt (zC .i64 e221 0) fun y222=>(.ask (decide (0≤(1:Int)∧(1:Int)<y195.length)) (.opt (y195[((1:Int)).toNat]?) fun e223=>(.ask (decide (e223.length=1)) (.opt (zC .i64 e223 0) fun y224=>(.opt (rec x0 y222 r220) fun r225=>(.opt (qCv n y183) fun r226=>(.ask (decide (r225.size+r226.size≤9223372036854775807)) (.opt (rec x0 y224 (IntKind.i64.wrap (r220+(1:Int)))) fun r227=>(.ask (decide ((r225++r226).size+r227.size≤9223372036854775807)) (.ask ((decide (r220<x2))) (.ask (decide ((⟨#[40]⟩:BA).size+((r225++r226)++r227).size≤9223372036854775807)) (.ask (decide (((⟨#[40]⟩:BA)++((r225++r226)++r227)).size+(⟨#[41]⟩:BA).size≤9223372036854775807)) (.done (((⟨#[40]⟩:BA)++((r225++r226)++r227))++(⟨#[41]⟩:BA))) .fail) .fail) (.done ((r225++r226)++r227))) .fail)) .fail)))) .fail)) .fail)) .fail)) .fail)) (.opt (qCj n y183) fun r228=>(.ask (decide (r228.size+(⟨#[40]⟩:BA).size≤9223372036854775807)) (.opt (zD (qBc rec n) n (x0,(r228++(⟨#[40]⟩:BA)),(0:Int),y182,y183,y184,y185,y186,y187,y188,y189,y190,y191,y192,y193,y194,y195)) fun r235=>(.ask (decide (r235.size+(⟨#[41]⟩:BA).size≤9223372036854775807)) (.done (r235++(⟨#[41]⟩:BA))) .fail)) .fail))))))))))))))))))))) .fail)) .fail)
def qn:Nat→RW→Int→Int→Option (BA)
 |0,_,_,_=>none
 |n+1,x0,x1,x2=>(qBx (qn n) n x0 x1 x2).run
abbrev qLR (n:Nat) (ih:Ok (Rn n) qH1 (qn n)):List (Ent (Rn n)):= [en (qOQ n),en (qHY n),en (qMO n),en ih,en (qJI n),en (qJv n),en (qMI n)]
def qMP (n:Nat) (ih:Ok (Rn n) qH1 (qn n)):LEnt (KB 137) (Rn n) n:=lok (zL 137) 125 ⟨⟨[(0,aL),(7,(.c (.ptr 0 448 0 0 0))),(10,aS),(11,aI)],[(448,⟨0,14,162,(.box [qI,qI,qI,qI,qS,qI,qI,qB,qB,qI,qI,qB,qB,qL])⟩)],[]⟩,[(.exit 1,⟨[(10,aS)],[],[]⟩)]⟩ (qBc (qn n) n) (qLR n ih) [] fun _=>(by kernel_rfl)
theorem qGm:∀n,Ok (Rn n) qH1 (qn n)
 |0=>ok0 fun _=>rfl
 |n+1=>stO (T:=qBx (qn n) n) (by kernel_rfl) (qLR n (qGm n)) [qMP n (qGm n)] (fun _=>(by kernel_rfl)) fun _=>(by kernel_rfl)
def qLi:Sg:=⟨94,[aL],[],⟨aS,[],[]⟩⟩
def qDM (n:Nat) (x0:RW):Tr (BA):=(.opt (qBR n x0) fun r180=>(.ask ((!r180)) (.done (⟨#[]⟩:BA)) (.opt (qn n x0 (IntKind.i64.wrap ((x0.length:Int)-(1:Int))) (0:Int)) fun r236=>(.ask ((decide ((r236.size:Int)>(200:Int)))) (.done (⟨#[]⟩:BA)) (.done r236)))))
def qBn:Nat→RW→Option (BA)
 |0,_=>none
 |n+1,x0=>(qDM n x0).run
abbrev qLj (n:Nat):List (Ent (Rn n)):= [en (qEq n),en (qGm n)]
theorem qK4:∀n,Ok (Rn n) qLi (qBn n)
 |0=>ok0 fun _=>rfl
 |n+1=>stO (T:=qDM n) (by kernel_rfl) (qLj n) [] (fun _=>(by kernel_rfl)) fun _=>(by kernel_rfl)
def qOS:Sg:=⟨95,[aS],[],⟨(.tup [(true,[qI,qI,qS]),(false,[qB])]),[],[]⟩⟩
def qBo (n:Nat) (v:BA×Bool×Int×Int×BA):Tr ((BA×Bool×Int×Int×BA)⊕((BA×Bool×Int×Int×BA))):=(.ask ((decide ((v.1.size:Int)>(1:Int)))) (.ask (decide (0≤(0:Int))) (.opt (v.1.toList[((0:Int)).toNat]?) fun c239=>(.ask (((c239.toNat:Int)==(48:Int))) (.ask (decide (0≤(1:Int)∧(1:Int)≤(v.1.size:Int)∧(v.1.size:Int)≤v.1.size)) (.done (.inl ((v.1.extract ((1:Int)).toNat ((v.1.size:Int)).toNat),v.2.1,v.2.2.1,v.2.2.2.1,v.2.2.2.2))) .fail) (.done (.inr ((v.1,v.2.1,v.2.2.1,v.2.2.2.1,v.2.2.2.2)))))) .fail) (.done (.inr ((v.1,v.2.1,v.2.2.1,v.2.2.2.1,v.2.2.2.2)))))
def qJQ (n:Nat) (x0:BA):Tr (Int×Int×BA×Bool):=(.ask ((decide ((x0.size:Int)>(0:Int)))) (.ask (decide (0≤(0:Int))) (.opt (x0.toList[((0:Int)).toNat]?) fun c238=>(.ask (((c238.toNat:Int)==(45:Int))) (.ask (decide (0≤(1:Int)∧(1:Int)≤(x0.size:Int)∧(x0.size:Int)≤x0.size)) (.ask (((x0.extract ((1:Int)).toNat ((x0.size:Int)).toNat).toList==(⟨#[]⟩:BA).toList)) (.done ((0:Int),(0:Int),(⟨#[]⟩:BA),false)) (.opt (zD (qBo n) n ((x0.extract ((1:Int)).toNat ((x0.size:Int)).toNat),((c238.toNat:Int)==(45:Int)),(0:Int),(0:Int),(⟨#[]⟩:BA))) fun r240=>(.opt (qv n r240.1 (16:Int)) fun r241=>(.ask (r240.2.1) (.ask (r241.2) (.opt (qa n (1:Int) (IntKind.i64.wrap (0-r241.1)) (⟨#[]⟩:BA)) fun r242=>(.done ((1:Int),(IntKind.i64.wrap (0-r241.1)),(⟨#[]⟩:BA),r242))) (.done ((1:Int),(IntKind.i64.wrap (0-r241.1)),(⟨#[]⟩:BA),false))) (.ask (r241.2) (.opt (qa n (1:Int) r241.1 (⟨#[]⟩:BA)) fun r243=>(.done ((1:Int),r241.1,(⟨#[]⟩:BA),r243))) (.done ((1:Int),r241.1,(⟨#[]⟩:BA),false))))))) .fail) (.ask ((x0.toList==(⟨#[]⟩:BA).toList)) (.done ((0:Int),(0:Int),(⟨#[]⟩:BA),false)) (.opt (zD (qBo n) n (x0,((c238.toNat:Int)==(45:Int)),(0:Int),(0:Int),(⟨#[]⟩:BA))) fun r244=>(.opt (qv n r244.1 (16:Int)) fun r245=>(.ask (r244.2.1) (.ask (r245.2) (.opt (qa n (1:Int) (IntKind.i64.wrap (0-r245.1)) (⟨#[]⟩:BA)) fun r246=>(.done ((1:Int),(IntKind.i64.wrap (0-r245.1)),(⟨#[]⟩:BA),r246))) (.done ((1:Int),(IntKind.i64.wrap (0-r245.1)),(⟨#[]⟩:BA),false))) (.ask (r245.2) (.opt (qa n (1:Int) r245.1 (⟨#[]⟩:BA)) fun r247=>(.done ((1:Int),r245.1,(⟨#[]⟩:BA),r247))) (.done ((1:Int),r245.1,(⟨#[]⟩:BA),false))))))))) .fail) (.ask ((x0.toList==(⟨#[]⟩:BA).toList)) (.done ((0:Int),(0:Int),(⟨#[]⟩:BA),false)) (.opt (zD (qBo n) n (x0,false,(0:Int),(0:Int),(⟨#[]⟩:BA))) fun r248=>(.opt (qv n r248.1 (16:Int)) fun r249=>(.ask (r248.2.1) (.ask (r249.2) (.opt (qa n (1:Int) (IntKind.i64.wrap (0-r249.1)) (⟨#[]⟩:BA)) fun r250=>(.done ((1:Int),(IntKind.i64.wrap (0-r249.1)),(⟨#[]⟩:BA),r250))) (.done ((1:Int),(IntKind.i64.wrap (0-r249.1)),(⟨#[]⟩:BA),false))) (.ask (r249.2) (.opt (qa n (1:Int) r249.1 (⟨#[]⟩:BA)) fun r251=>(.done ((1:Int),r249.1,(⟨#[]⟩:BA),r251))) (.done ((1:Int),r249.1,(⟨#[]⟩:BA),false))))))))
def qFw:Nat→BA→Option (Int×Int×BA×Bool)
 |0,_=>none
 |n+1,x0=>(qJQ n x0).run
abbrev qJR (n:Nat):List (Ent (Rn n)):= [en (qHu n),en (qEM n)]
def qLk (n:Nat):LEnt (KB 95) (Rn n) n:=lok (zL 95) 62 ⟨⟨[(0,aS),(2,(.c (.ptr 0 128 0 0 0))),(4,aB)],[(128,⟨0,3,128,(.box [qI,qI,qS])⟩)],[]⟩,[(.exit 0,⟨[(0,aS),(2,(.c (.ptr 0 128 0 0 0))),(4,aB)],[(128,⟨0,3,128,(.box [qI,qI,qS])⟩)],[]⟩)]⟩ (qBo n) (qJR n) [] fun _=>(by kernel_rfl)
theorem qNG:∀n,Ok (Rn n) qOS (qFw n)
 |0=>ok0 fun _=>rfl
 |n+1=>stO (T:=qJQ n) (by kernel_rfl) (qJR n) [qLk n] (fun _=>(by kernel_rfl)) fun _=>(by kernel_rfl)
def qPX:Sg:=⟨53,[aS],[],⟨(.tup [(false,[qS]),(false,[qB])]),[],[]⟩⟩
def qJ0 (n:Nat) (x0:BA):Tr (BA×Bool):=(.opt (qCR n x0) fun r26=>(.ask ((!r26)) (.done ((⟨#[]⟩:BA),false)) (.ask ((x0.toList==(⟨#[]⟩:BA).toList)) (.done ((⟨#[]⟩:BA),true)) (.ask (decide (0≤(0:Int))) (.opt (x0.toList[((0:Int)).toNat]?) fun c27=>(.ask (((c27.toNat:Int)==(61:Int))) (.ask (decide (0≤(1:Int)∧(1:Int)≤(x0.size:Int)∧(x0.size:Int)≤x0.size)) (.opt (qDL n (x0.extract ((1:Int)).toNat ((x0.size:Int)).toNat)) fun r179=>(.opt (qBn n r179.1) fun r237=>(.ask ((!r179.2)) (.done ((⟨#[]⟩:BA),false)) (.ask ((r237.toList==(⟨#[]⟩:BA).toList)) (.done ((⟨#[]⟩:BA),false)) (.ask ((decide ((IntKind.i64.wrap ((r237.size:Int)+(1:Int)))>(200:Int)))) (.done ((⟨#[]⟩:BA),false)) (.ask (decide ((⟨#[61]⟩:BA).size+r237.size≤9223372036854775807)) (.done (((⟨#[61]⟩:BA)++r237),true)) .fail)))))) .fail) (.opt (qFw n x0) fun r252=>(.ask (r252.2.2.2) (.opt (qAU n r252.1 r252.2.1 r252.2.2.1) fun r253=>(.done (r253,true))) (.opt (qAL n x0) fun r254=>(.ask ((!r254.2.2.2)) (.opt (qAU n (2:Int) (0:Int) x0) fun r255=>(.ask ((decide ((r255.size:Int)>(200:Int)))) (.done ((⟨#[]⟩:BA),false)) (.done (r255,true)))) (.opt (qAU n r254.1 r254.2.1 r254.2.2.1) fun r256=>(.ask ((decide ((r256.size:Int)>(200:Int)))) (.done ((⟨#[]⟩:BA),false)) (.done (r256,true)))))))))) .fail))))
def qEs:Nat→BA→Option (BA×Bool)
 |0,_=>none
 |n+1,x0=>(qJ0 n x0).run
abbrev qPY (n:Nat):List (Ent (Rn n)):= [en (qFt n),en (qGE n),en (qK4 n),en (qNG n),en (qHY n),en (qHX n)]
theorem qOT:∀n,Ok (Rn n) qPX (qEs n)
 |0=>ok0 fun _=>rfl
 |n+1=>stO (T:=qJ0 n) (by kernel_rfl) (qPY n) [] (fun _=>(by kernel_rfl)) fun _=>(by kernel_rfl)
def qPZ:Sg:=⟨88,[(.agg [qI,qI]),(.agg [qI,qI])],[],⟨aB,[],[]⟩⟩
def qGn (n:Nat) (x0 x1 x2 x3:Int):Tr (Bool):=(.ask ((decide (x1<x3))) (.done true) (.ask ((x1==x3)) (.done (decide (x0<x2))) (.done false)))
def qDm:Nat→Int→Int→Int→Int→Option (Bool)
 |0,_,_,_,_=>none
 |n+1,x0,x1,x2,x3=>(qGn n x0 x1 x2 x3).run
theorem qOU:∀n,Ok (Rn n) qPZ (qDm n)
 |0=>ok0 fun _=>rfl
 |n+1=>stO (T:=qGn n) (by kernel_rfl) [] [] (fun _=>(by kernel_rfl)) fun _=>(by kernel_rfl)
def qPa:Sg:=⟨44,[aL],[],⟨aB,[],[]⟩⟩
def qEt (n:Nat) (v:RW×Int):Tr ((RW×Int)⊕((Bool)⊕(Unit))):=(.ask ((decide (v.2<(v.1.length:Int)))) (.ask (decide (0≤v.2∧v.2<v.1.length)) (.opt (v.1[(v.2).toNat]?) fun e19=>(.ask (decide (e19.length=3)) (.opt (zX e19 2) fun y20=>(.opt (qEs n y20) fun r21=>(.ask (decide (0≤v.2∧v.2<v.1.length)) (.opt (v.1[(v.2).toNat]?) fun e22=>(.ask (decide (e22.length=3)) (.opt (zC .i64 e22 0) fun y23=>(.opt (zC .i64 e22 1) fun y24=>(.opt (qAM n y23 y24) fun r25=>(.ask ((!r25)) (.done (.inr (.inl (false)))) (.ask ((!r21.2)) (.done (.inr (.inl (false)))) (.ask (decide (0≤v.2∧v.2<v.1.length)) (.opt (v.1[(v.2).toNat]?) fun e26=>(.ask (decide (e26.length=3)) (.opt (zX e26 2) fun y27=>(.ask ((y27.toList==(⟨#[]⟩:BA).toList)) (.done (.inr (.inl (false)))) (.ask (decide (0≤v.2∧v.2<v.1.length)) (.opt (v.1[(v.2).toNat]?) fun e28=>(.ask (decide (e28.length=3)) (.opt (zX e28 2) fun y29=>(.ask ((!(r21.1.toList==y29.toList))) (.done (.inr (.inl (false)))) (.ask ((decide (v.2>(0:Int)))) (.ask (decide (0≤(IntKind.i64.wrap (v.2-(1:Int)))∧(IntKind.i64.wrap (v.2-(1:Int)))<v.1.length)) (.opt (v.1[((IntKind.i64.wrap (v.2-(1:Int)))).toNat]?) fun e30=>(.ask (decide (e30.length=3)) (.opt (zC .i64 e30 0) fun y31=>(.opt (zC .i64 e30 1) fun y32=>(.ask (decide (0≤v.2∧v.2<v.1.length)) (.opt (v.1[(v.2).toNat]?) fun e33=>(.ask (decide (e33.length=3)) (.opt (zC .i64 e33 0) fun y34=>(.opt (zC .i64 e33 1) fun y35=>(.opt (qDm n y31 y32 y34 y35) fun r36=>(.ask ((!r36)) (.done (.inr (.inl (false)))) (.done (.inl (v.1,(IntKind.i64.wrap (v.2+(1:Int)))))))))) .fail)) .fail))) .fail)) .fail) (.done (.inl (v.1,(IntKind.i64.wrap (v.2+(1:Int))))))))) .fail)) .fail))) .fail)) .fail)))))) .fail)) .fail))) .fail)) .fail) (.done (.inr (.inr (())))))
def qJ1 (n:Nat) (x0:RW):Tr (Bool):=(.ask ((decide ((x0.length:Int)>(120:Int)))) (.done false) (.opt (zD (qEt n) n (x0,(0:Int))) fun r37=>(.alt r37 (fun r38=>(.done r38)) (fun r39=>(.done true)))))
def qGo:Nat→RW→Option (Bool)
 |0,_=>none
 |n+1,x0=>(qJ1 n x0).run
abbrev qJ2 (n:Nat):List (Ent (Rn n)):= [en (qOT n),en (qEH n),en (qOU n)]
def qMQ (n:Nat):LEnt (KB 44) (Rn n) n:=lok (zL 44) 29 ⟨⟨[(0,aL),(3,aI)],[],[]⟩,[(.ret,⟨[(2,aB)],[],[]⟩),(.exit 0,⟨[],[],[]⟩)]⟩ (qEt n) (qJ2 n) [] fun _=>(by kernel_rfl)
theorem qOV:∀n,Ok (Rn n) qPa (qGo n)
 |0=>ok0 fun _=>rfl
 |n+1=>stO (T:=qJ1 n) (by kernel_rfl) (qJ2 n) [qMQ n] (fun _=>(by kernel_rfl)) fun _=>(by kernel_rfl)
def qR5:Sg:=⟨45,[aL,(.agg [qI,qI])],[],⟨aS,[],[]⟩⟩
def qGp (n:Nat) (v:RW×Int×Int×Int):Tr ((RW×Int×Int×Int)⊕((BA)⊕(Unit))):=(.ask ((decide (v.2.1<(v.1.length:Int)))) (.ask (decide (0≤v.2.1∧v.2.1<v.1.length)) (.opt (v.1[(v.2.1).toNat]?) fun e41=>(.ask (decide (e41.length=3)) (.opt (zC .i64 e41 0) fun y42=>(.opt (zC .i64 e41 1) fun y43=>(.ask (((y42==v.2.2.1)&&((y43==v.2.2.2)&&true))) (.ask (decide (0≤v.2.1∧v.2.1<v.1.length)) (.opt (v.1[(v.2.1).toNat]?) fun e44=>(.ask (decide (e44.length=3)) (.opt (zX e44 2) fun y45=>(.done (.inr (.inl (y45))))) .fail)) .fail) (.done (.inl (v.1,(IntKind.i64.wrap (v.2.1+(1:Int))),v.2.2.1,v.2.2.2)))))) .fail)) .fail) (.done (.inr (.inr (())))))
def qN2 (n:Nat) (x0:RW) (x1 x2:Int):Tr (BA):=(.opt (zD (qGp n) n (x0,(0:Int),x1,x2)) fun r46=>(.alt r46 (fun r47=>(.done r47)) (fun r48=>(.done (⟨#[]⟩:BA)))))
def qJ3:Nat→RW→Int→Int→Option (BA)
 |0,_,_,_=>none
 |n+1,x0,x1,x2=>(qN2 n x0 x1 x2).run
def qPb (n:Nat):LEnt (KB 45) (Rn n) n:=lok (zL 45) 13 ⟨⟨[(0,aL),(3,(.c (.ptr 0 192 0 0 0))),(5,aI)],[(192,⟨0,2,29,(.box [qI,qI])⟩)],[]⟩,[(.ret,⟨[(4,aS)],[],[]⟩),(.exit 0,⟨[],[],[]⟩)]⟩ (qGp n) [] [] fun _=>(by kernel_rfl)
theorem qRT:∀n,Ok (Rn n) qR5 (qJ3 n)
 |0=>ok0 fun _=>rfl
 |n+1=>stO (T:=qN2 n) (by kernel_rfl) [] [qPb n] (fun _=>(by kernel_rfl)) fun _=>(by kernel_rfl)
def qNH:Sg:=⟨155,[aS],[],⟨(.tup [(false,[qL]),(false,[qB])]),[],[]⟩⟩
def qFM (n:Nat) (x0:BA):Tr (RW×Bool):=(.ask ((x0.toList==(⟨#[]⟩:BA).toList)) (.ask (decide (0=([]:RW).length)) (.done (([]:RW),false)) .fail) (.ask (decide (0≤(0:Int))) (.opt (x0.toList[((0:Int)).toNat]?) fun c50=>(.ask (((c50.toNat:Int) !=(61:Int))) (.ask (decide (0=([]:RW).length)) (.done (([]:RW),false)) .fail) (.ask (decide (0≤(1:Int)∧(1:Int)≤(x0.size:Int)∧(x0.size:Int)≤x0.size)) (.opt (qDL n (x0.extract ((1:Int)).toNat ((x0.size:Int)).toNat)) fun r51=>(.done (r51.1,r51.2))) .fail))) .fail))
def qFN:Nat→BA→Option (RW×Bool)
 |0,_=>none
 |n+1,x0=>(qFM n x0).run
abbrev qNI (n:Nat):List (Ent (Rn n)):= [en (qGE n)]
theorem qMR:∀n,Ok (Rn n) qNH (qFN n)
 |0=>ok0 fun _=>rfl
 |n+1=>stO (T:=qFM n) (by kernel_rfl) (qNI n) [] (fun _=>(by kernel_rfl)) fun _=>(by kernel_rfl)
def qPc:Sg:=⟨156,[aL],[],⟨aL,[],[]⟩⟩
def qEu (n:Nat) (v:RW×Nat×Int×RW):Tr ((RW×Nat×Int×RW)⊕((Nat×RW))):=(.ask ((decide (v.2.2.1<(v.1.length:Int)))) (.ask (decide (0≤v.2.2.1∧v.2.2.1<v.1.length)) (.opt (v.1[(v.2.2.1).toNat]?) fun e54=>(.ask (decide (e54.length=14)) (.opt (zC .i64 e54 0) fun y55=>(.ask ((y55==(2:Int))) (.ask (decide (0≤v.2.2.1∧v.2.2.1<v.1.length)) (.opt (v.1[(v.2.2.1).toNat]?) fun e56=>(.ask (decide (e56.length=14)) (.opt (zC .i64 e56 5) fun y57=>(.opt (zC .i64 e56 6) fun y58=>(.ask (decide (0≤v.2.2.1∧v.2.2.1<v.1.length)) (.opt (v.1[(v.2.2.1).toNat]?) fun e59=>(.ask (decide (e59.length=14)) (.opt (zC .i64 e59 5) fun y60=>(.opt (zC .i64 e59 6) fun y61=>(.ask (decide (1=([[(.i .i64 y57),(.i .i64 y58),(.i .i64 y60),(.i .i64 y61)]]:RW).length)) (.ask (decide (v.2.1=v.2.2.2.length∧0<4∧0<32∧(v.2.1+([[(.i .i64 y57),(.i .i64 y58),(.i .i64 y60),(.i .i64 y61)]]:RW).length)*32≤140737488355328∧([[(.i .i64 y57),(.i .i64 y58),(.i .i64 y60),(.i .i64 y61)]]:RW).all (fun e=>e.length==4)=true)) (.done (.inl (v.1,(v.2.1+1),(IntKind.i64.wrap (v.2.2.1+(1:Int))),(v.2.2.2++([[(.i .i64 y57),(.i .i64 y58),(.i .i64 y60),(.i .i64 y61)]]:RW))))) .fail) .fail))) .fail)) .fail))) .fail)) .fail) (.ask ((y55==(3:Int))) (.ask (decide (0≤v.2.2.1∧v.2.2.1<v.1.length)) (.opt (v.1[(v.2.2.1).toNat]?) fun e62=>(.ask (decide (e62.length=14)) (.opt (zC .i64 e62 5) fun y63=>(.opt (zC .i64 e62 6) fun y64=>(.ask (decide (0≤v.2.2.1∧v.2.2.1<v.1.length)) (.opt (v.1[(v.2.2.1).toNat]?) fun e65=>(.ask (decide (e65.length=14)) (.opt (zC .i64 e65 9) fun y66=>(.opt (zC .i64 e65 10) fun y67=>(.ask (decide (1=([[(.i .i64 y63),(.i .i64 y64),(.i .i64 y66),(.i .i64 y67)]]:RW).length)) (.ask (decide (v.2.1=v.2.2.2.length∧0<4∧0<32∧(v.2.1+([[(.i .i64 y63),(.i .i64 y64),(.i .i64 y66),(.i .i64 y67)]]:RW).length)*32≤140737488355328∧([[(.i .i64 y63),(.i .i64 y64),(.i .i64 y66),(.i .i64 y67)]]:RW).all (fun e=>e.length==4)=true)) (.done (.inl (v.1,(v.2.1+1),(IntKind.i64.wrap (v.2.2.1+(1:Int))),(v.2.2.2++([[(.i .i64 y63),(.i .i64 y64),(.i .i64 y66),(.i .i64 y67)]]:RW))))) .fail) .fail))) .fail)) .fail))) .fail)) .fail) (.done (.inl (v.1,v.2.1,(IntKind.i64.wrap (v.2.2.1+(1:Int))),v.2.2.2)))))) .fail)) .fail) (.done (.inr ((v.2.1,v.2.2.2)))))
def qJ4 (n:Nat) (x0:RW):Tr (RW):=(.opt (qBR n x0) fun r53=>(.ask ((!r53)) (.ask (decide (0=([]:RW).length)) (.done ([]:RW)) .fail) (.opt (zD (qEu n) n (x0,(0:Nat),(0:Int),([]:RW))) fun r68=>(.ask (decide (r68.1=r68.2.length)) (.done r68.2) .fail))))
def qGq:Nat→RW→Option (RW)
 |0,_=>none
 |n+1,x0=>(qJ4 n x0).run
abbrev qJ5 (n:Nat):List (Ent (Rn n)):= [en (qEq n)]
def qMS (n:Nat):LEnt (KB 156) (Rn n) n:=lok (zL 156) 61 ⟨⟨[(0,aL),(3,(.c (.own 0 320 0 0))),(4,aI)],[(320,⟨0,4,159,(.row [])⟩)],[]⟩,[(.exit 0,⟨[(3,(.c (.own 0 320 0 0)))],[(320,⟨0,4,159,(.row [])⟩)],[]⟩)]⟩ (qEu n) (qJ5 n) [] fun _=>(by kernel_rfl)
theorem qOW:∀n,Ok (Rn n) qPc (qGq n)
 |0=>ok0 fun _=>rfl
 |n+1=>stO (T:=qJ4 n) (by kernel_rfl) (qJ5 n) [qMS n] (fun _=>(by kernel_rfl)) fun _=>(by kernel_rfl)
def qPd:Sg:=⟨116,[aS],[],⟨aL,[],[]⟩⟩
def qGr (n:Nat) (x0:BA):Tr (RW):=(.opt (qFN n x0) fun r52=>(.ask ((!r52.2)) (.ask (decide (0=([]:RW).length)) (.done ([]:RW)) .fail) (.opt (qGq n r52.1) fun r69=>(.done r69))))
def qGs:Nat→BA→Option (RW)
 |0,_=>none
 |n+1,x0=>(qGr n x0).run
abbrev qPe (n:Nat):List (Ent (Rn n)):= [en (qMR n),en (qOW n)]
theorem qOX:∀n,Ok (Rn n) qPd (qGs n)
 |0=>ok0 fun _=>rfl
 |n+1=>stO (T:=qGr n) (by kernel_rfl) (qPe n) [] (fun _=>(by kernel_rfl)) fun _=>(by kernel_rfl)
def qOY:Sg:=⟨117,[(.agg [qI,qI]),(.agg [qI,qI,qI,qI])],[],⟨aB,[],[]⟩⟩
def qFx (n:Nat) (x0 x1 x2 x3 x4 x5:Int):Tr (Bool):=(.opt (qA0 n x0 x2 x4) fun r79=>(.ask (r79) (.opt (qA0 n x1 x3 x5) fun r80=>(.done r80)) (.done false)))
def qEO:Nat→Int→Int→Int→Int→Int→Int→Option (Bool)
 |0,_,_,_,_,_,_=>none
 |n+1,x0,x1,x2,x3,x4,x5=>(qFx n x0 x1 x2 x3 x4 x5).run
abbrev qOZ (n:Nat):List (Ent (Rn n)):= [en (qDx n)]
theorem qNJ:∀n,Ok (Rn n) qOY (qEO n)
 |0=>ok0 fun _=>rfl
 |n+1=>stO (T:=qFx n) (by kernel_rfl) (qOZ n) [] (fun _=>(by kernel_rfl)) fun _=>(by kernel_rfl)
def qPf:Sg:=⟨75,[aL,(.agg [qI,qI])],[],⟨(.c (.own 0 0 0 0)),[],[⟨0,2,29,(.row [])⟩]⟩⟩
def qC2 (n:Nat) (v:RW×Nat×RW×Int×Bool×Int×RW):Tr ((RW×Nat×RW×Int×Bool×Int×RW)⊕((RW×Nat×RW×Int×Bool×RW))):=(.ask ((decide (v.2.2.2.2.2.1<(v.2.2.1.length:Int)))) (.ask (v.2.2.2.2.1) (.done (.inl (v.1,v.2.1,v.2.2.1,v.2.2.2.1,true,(IntKind.i64.wrap (v.2.2.2.2.2.1+(1:Int))),v.2.2.2.2.2.2))) (.ask (decide (0≤v.2.2.2.1∧v.2.2.2.1<v.1.length)) (.opt (v.1[(v.2.2.2.1).toNat]?) fun e71=>(.ask (decide (e71.length=3)) (.opt (zC .i64 e71 0) fun y72=>(.opt (zC .i64 e71 1) fun y73=>(.ask (decide (0≤v.2.2.2.2.2.1∧v.2.2.2.2.2.1<v.2.2.1.length)) (.opt (v.2.2.1[(v.2.2.2.2.2.1).toNat]?) fun e74=>(.ask (decide (e74.length=4)) (.opt (zC .i64 e74 0) fun y75=>(.opt (zC .i64 e74 1) fun y76=>(.opt (zC .i64 e74 2) fun y77=>(.opt (zC .i64 e74 3) fun y78=>(.opt (qEO n y72 y73 y75 y76 y77 y78) fun r79=>(.done (.inl (v.1,v.2.1,v.2.2.1,v.2.2.2.1,r79,(IntKind.i64.wrap (v.2.2.2.2.2.1+(1:Int))),v.2.2.2.2.2.2)))))))) .fail)) .fail))) .fail)) .fail)) (.done (.inr ((v.1,v.2.1,v.2.2.1,v.2.2.2.1,v.2.2.2.2.1,v.2.2.2.2.2.2)))))
def qDg (n:Nat) (v:RW×Nat×RW×Int×RW):Tr ((RW×Nat×RW×Int×RW)⊕((Nat×RW))):=(.ask ((decide (v.2.2.2.1<(v.1.length:Int)))) (.opt (zD (qC2 n) n (v.1,v.2.1,v.2.2.1,v.2.2.2.1,false,(0:Int),v.2.2.2.2)) fun r80=>(.ask (r80.2.2.2.2.1) (.ask (decide (0≤r80.2.2.2.1∧r80.2.2.2.1<r80.1.length)) (.opt (r80.1[(r80.2.2.2.1).toNat]?) fun e81=>(.ask (decide (e81.length=3)) (.opt (zC .i64 e81 0) fun y82=>(.opt (zC .i64 e81 1) fun y83=>(.ask (decide (1=([[(.i .i64 y82),(.i .i64 y83)]]:RW).length)) (.ask (decide (r80.2.1=r80.2.2.2.2.2.length∧0<2∧0<16∧(r80.2.1+([[(.i .i64 y82),(.i .i64 y83)]]:RW).length)*16≤140737488355328∧([[(.i .i64 y82),(.i .i64 y83)]]:RW).all (fun e=>e.length==2)=true)) (.done (.inl (r80.1,(r80.2.1+1),r80.2.2.1,(IntKind.i64.wrap (r80.2.2.2.1+(1:Int))),(r80.2.2.2.2.2++([[(.i .i64 y82),(.i .i64 y83)]]:RW))))) .fail) .fail))) .fail)) .fail) (.done (.inl (r80.1,r80.2.1,r80.2.2.1,(IntKind.i64.wrap (r80.2.2.2.1+(1:Int))),r80.2.2.2.2.2))))) (.done (.inr ((v.2.1,v.2.2.2.2)))))
def qGt (n:Nat) (x0:RW) (x1 x2:Int):Tr (Nat×RW):=(.opt (qJ3 n x0 x1 x2) fun r49=>(.opt (qGs n r49) fun r70=>(.opt (zD (qDg n) n (x0,(0:Nat),r70,(0:Int),([]:RW))) fun r84=>(.done (r84.1,r84.2)))))
def qCU:Nat→RW→Int→Int→Option (Nat×RW)
 |0,_,_,_=>none
 |n+1,x0,x1,x2=>(qGt n x0 x1 x2).run
abbrev qGu (n:Nat):List (Ent (Rn n)):= [en (qRT n),en (qOX n),en (qNJ n)]
def qK5 (n:Nat):LEnt (lb 61 (KB 75)) (Rn n) n:=lok (Uniq.pick (zL 75) 61) 1973 ⟨⟨[(0,aL),(5,(.c (.own 0 640 0 0))),(6,aL),(7,aI),(8,aB),(9,aI)],[(640,⟨0,2,29,(.row [])⟩)],[]⟩,[(.exit 2,⟨[(0,aL),(5,(.c (.own 0 640 0 0))),(6,aL),(7,aI),(8,aB)],[(640,⟨0,2,29,(.row [])⟩)],[]⟩)]⟩ (qC2 n) (qGu n) [] fun _=>(by kernel_rfl)
def qMT (n:Nat):LEnt (KB 75) (Rn n) n:=lok (zL 75) 61 ⟨⟨[(0,aL),(5,(.c (.own 0 640 0 0))),(6,aL),(7,aI)],[(640,⟨0,2,29,(.row [])⟩)],[]⟩,[(.exit 0,⟨[(5,(.c (.own 0 640 0 0)))],[(640,⟨0,2,29,(.row [])⟩)],[]⟩)]⟩ (qDg n) (qGu n) [qK5 n] fun _=>(by kernel_rfl)
theorem qOa:∀n,Ok (Rn n) qPf (qCU n)
 |0=>ok0 fun _=>rfl
 |n+1=>stO (T:=qGt n) (by kernel_rfl) (qGu n) [qMT n] (fun _=>(by kernel_rfl)) fun _=>(by kernel_rfl)
def qRU:Sg:=⟨124,[aL,(.agg [qI,qI])],[],⟨aB,[],[]⟩⟩
def qFy (n:Nat) (v:RW×Int×Int×Int):Tr ((RW×Int×Int×Int)⊕((Bool)⊕(Unit))):=(.ask ((decide (v.2.1<(v.1.length:Int)))) (.ask (decide (0≤v.2.1∧v.2.1<v.1.length)) (.opt (v.1[(v.2.1).toNat]?) fun e96=>(.ask (decide (e96.length=2)) (.opt (zC .i64 e96 0) fun y97=>(.opt (zC .i64 e96 1) fun y98=>(.ask (((y97==v.2.2.1)&&((y98==v.2.2.2)&&true))) (.done (.inr (.inl (true)))) (.done (.inl (v.1,(IntKind.i64.wrap (v.2.1+(1:Int))),v.2.2.1,v.2.2.2)))))) .fail)) .fail) (.done (.inr (.inr (())))))
def qMU (n:Nat) (x0:RW) (x1 x2:Int):Tr (Bool):=(.opt (zD (qFy n) n (x0,(0:Int),x1,x2)) fun r99=>(.alt r99 (fun r100=>(.done r100)) (fun r101=>(.done false))))
def qIo:Nat→RW→Int→Int→Option (Bool)
 |0,_,_,_=>none
 |n+1,x0,x1,x2=>(qMU n x0 x1 x2).run
def qOb (n:Nat):LEnt (KB 124) (Rn n) n:=lok (zL 124) 13 ⟨⟨[(0,aL),(3,(.c (.ptr 0 192 0 0 0))),(5,aI)],[(192,⟨0,2,29,(.box [qI,qI])⟩)],[]⟩,[(.ret,⟨[(4,aB)],[],[]⟩),(.exit 0,⟨[],[],[]⟩)]⟩ (qFy n) [] [] fun _=>(by kernel_rfl)
theorem qQd:∀n,Ok (Rn n) qRU (qIo n)
 |0=>ok0 fun _=>rfl
 |n+1=>stO (T:=qMU n) (by kernel_rfl) [] [qOb n] (fun _=>(by kernel_rfl)) fun _=>(by kernel_rfl)
def qOc:Sg:=⟨81,[aL,(.agg [qI,qI])],[],⟨aB,[],[]⟩⟩
def qC3 (n:Nat) (v:RW×Nat×Int×Nat×Int×Int×Int×RW×RW):Tr ((RW×Nat×Int×Nat×Int×Int×Int×RW×RW)⊕((RW×Nat×Int×Int×Int×RW))):=(.ask ((decide (v.2.2.2.2.1<((v.2.2.2.1:Nat):Int)))) (.ask (decide (v.2.2.2.1=v.2.2.2.2.2.2.2.2.length∧0≤v.2.2.2.2.1∧v.2.2.2.2.1<((v.2.2.2.1:Nat):Int))) (.opt (v.2.2.2.2.2.2.2.2[(v.2.2.2.2.1).toNat]?) fun e93=>(.opt (zC .i64 e93 0) fun y94=>(.opt (zC .i64 e93 1) fun y95=>(.ask (decide (v.2.1=v.2.2.2.2.2.2.2.1.length)) (.opt (qIo n v.2.2.2.2.2.2.2.1 y94 y95) fun r96=>(.ask (zAS (⟨(.c (.p (.b r96))),[],[]⟩:Res)) (.ask ((!r96)) (.ask (decide (v.2.2.2.1=v.2.2.2.2.2.2.2.2.length∧0≤v.2.2.2.2.1∧v.2.2.2.2.1<((v.2.2.2.1:Nat):Int))) (.opt (v.2.2.2.2.2.2.2.2[(v.2.2.2.2.1).toNat]?) fun e97=>(.opt (zC .i64 e97 0) fun y98=>(.opt (zC .i64 e97 1) fun y99=>(.ask (decide (1=([[(.i .i64 y98),(.i .i64 y99)]]:RW).length)) (.ask (decide (v.2.1=v.2.2.2.2.2.2.2.1.length∧0<2∧0<16∧(v.2.1+([[(.i .i64 y98),(.i .i64 y99)]]:RW).length)*16≤140737488355328∧([[(.i .i64 y98),(.i .i64 y99)]]:RW).all (fun e=>e.length==2)=true)) (.done (.inl (v.1,(v.2.1+1),v.2.2.1,v.2.2.2.1,(IntKind.i64.wrap (v.2.2.2.2.1+(1:Int))),v.2.2.2.2.2.1,v.2.2.2.2.2.2.1,(v.2.2.2.2.2.2.2.1++([[(.i .i64 y98),(.i .i64 y99)]]:RW)),v.2.2.2.2.2.2.2.2))) .fail) .fail)))) .fail) (.done (.inl (v.1,v.2.1,v.2.2.1,v.2.2.2.1,(IntKind.i64.wrap (v.2.2.2.2.1+(1:Int))),v.2.2.2.2.2.1,v.2.2.2.2.2.2.1,v.2.2.2.2.2.2.2.1,v.2.2.2.2.2.2.2.2)))) .fail)) .fail)))) .fail) (.done (.inr ((v.1,v.2.1,v.2.2.1,v.2.2.2.2.2.1,v.2.2.2.2.2.2.1,v.2.2.2.2.2.2.2.1)))))
def qET (n:Nat) (v:RW×Nat×Int×Int×Int×RW):Tr ((RW×Nat×Int×Int×Int×RW)⊕((Bool)⊕(Unit))):=(.ask ((decide (v.2.2.1<((v.2.1:Nat):Int)))) (.ask (decide (v.2.1=v.2.2.2.2.2.length∧0≤v.2.2.1∧v.2.2.1<((v.2.1:Nat):Int))) (.opt (v.2.2.2.2.2[(v.2.2.1).toNat]?) fun e86=>(.opt (zC .i64 e86 0) fun y87=>(.opt (zC .i64 e86 1) fun y88=>(.ask (((y87==v.2.2.2.1)&&((y88==v.2.2.2.2.1)&&true))) (.done (.inr (.inl (true)))) (.ask (decide (v.2.1=v.2.2.2.2.2.length∧0≤v.2.2.1∧v.2.2.1<((v.2.1:Nat):Int))) (.opt (v.2.2.2.2.2[(v.2.2.1).toNat]?) fun e89=>(.opt (zC .i64 e89 0) fun y90=>(.opt (zC .i64 e89 1) fun y91=>(.opt (qCU n v.1 y90 y91) fun r92=>(.opt (zD (qC3 n) n (v.1,v.2.1,v.2.2.1,r92.1,(0:Int),v.2.2.2.1,v.2.2.2.2.1,v.2.2.2.2.2,r92.2)) fun r100=>(.done (.inl (r100.1,r100.2.1,(IntKind.i64.wrap (r100.2.2.1+(1:Int))),r100.2.2.2.1,r100.2.2.2.2.1,r100.2.2.2.2.2)))))))) .fail))))) .fail) (.done (.inr (.inr (())))))
def qEP (n:Nat) (x0:RW) (x1 x2:Int):Tr (Bool):=(.opt (qCU n x0 x1 x2) fun r85=>(.opt (zD (qET n) n (x0,r85.1,(0:Int),x1,x2,r85.2)) fun r101=>(.alt r101 (fun r102=>(.done r102)) (fun r103=>(.done false)))))
def qFz:Nat→RW→Int→Int→Option (Bool)
 |0,_,_,_=>none
 |n+1,x0,x1,x2=>(qEP n x0 x1 x2).run
abbrev qF0 (n:Nat):List (Ent (Rn n)):= [en (qOa n),en (qQd n)]
def qK6 (n:Nat):LEnt (lb 29 (KB 81)) (Rn n) n:=lok (Uniq.pick (zL 81) 29) 951 ⟨⟨[(0,aL),(3,(.c (.ptr 0 192 0 0 0))),(5,(.c (.own 0 744 0 0))),(6,aI),(7,(.c (.own 0 1896 0 0))),(8,aI)],[(192,⟨0,2,29,(.box [qI,qI])⟩),(744,⟨0,2,29,(.row [])⟩),(1896,⟨0,2,29,(.row [])⟩)],[]⟩,[(.exit 2,⟨[(0,aL),(3,(.c (.ptr 0 192 0 0 0))),(5,(.c (.own 0 744 0 0))),(6,aI)],[(192,⟨0,2,29,(.box [qI,qI])⟩),(744,⟨0,2,29,(.row [])⟩)],[]⟩)]⟩ (qC3 n) (qF0 n) [] fun _=>(by kernel_rfl)
def qLl (n:Nat):LEnt (KB 81) (Rn n) n:=lok (zL 81) 29 ⟨⟨[(0,aL),(3,(.c (.ptr 0 192 0 0 0))),(5,(.c (.own 0 744 0 0))),(6,aI)],[(192,⟨0,2,29,(.box [qI,qI])⟩),(744,⟨0,2,29,(.row [])⟩)],[]⟩,[(.ret,⟨[(4,aB)],[],[]⟩),(.exit 0,⟨[],[],[]⟩)]⟩ (qET n) (qF0 n) [qK6 n] fun _=>(by kernel_rfl)
theorem qNK:∀n,Ok (Rn n) qOc (qFz n)
 |0=>ok0 fun _=>rfl
 |n+1=>stO (T:=qEP n) (by kernel_rfl) (qF0 n) [qLl n] (fun _=>(by kernel_rfl)) fun _=>(by kernel_rfl)
def qOd:Sg:=⟨37,[aL,(.agg [qI,qI])],[],⟨aB,[],[]⟩⟩
def qEQ (n:Nat) (x0:RW) (x1 x2:Int):Tr (Bool):=(.opt (qGo n x0) fun r40=>(.ask (r40) (.opt (qFz n x0 x1 x2) fun r104=>(.done r104)) (.done false)))
def qF1:Nat→RW→Int→Int→Option (Bool)
 |0,_,_,_=>none
 |n+1,x0,x1,x2=>(qEQ n x0 x1 x2).run
abbrev qOe (n:Nat):List (Ent (Rn n)):= [en (qOV n),en (qNK n)]
theorem qNL:∀n,Ok (Rn n) qOd (qF1 n)
 |0=>ok0 fun _=>rfl
 |n+1=>stO (T:=qEQ n) (by kernel_rfl) (qOe n) [] (fun _=>(by kernel_rfl)) fun _=>(by kernel_rfl)
def qQe:Sg:=⟨67,[aI,aI,aI],[],⟨aB,[],[]⟩⟩
def qH2 (n:Nat) (x0 x1 x2:Int):Tr (Bool):=(.ask ((decide (x0≥x1))) (.done (decide (x0≤x2))) (.done false))
def qAP:Nat→Int→Int→Int→Option (Bool)
 |0,_,_,_=>none
 |n+1,x0,x1,x2=>(qH2 n x0 x1 x2).run
theorem qDE:∀n,Ok (Rn n) qQe (qAP n)
 |0=>ok0 fun _=>rfl
 |n+1=>stO (T:=qH2 n) (by kernel_rfl) [] [] (fun _=>(by kernel_rfl)) fun _=>(by kernel_rfl)
def qRV:Sg:=⟨89,[(.agg [qI,qI])],[],⟨aB,[],[]⟩⟩
def qIp (n:Nat) (x0 x1:Int):Tr (Bool):=(.opt (qAP n x0 (1:Int) (52:Int)) fun r112=>(.ask (r112) (.opt (qAP n x1 (1:Int) (99:Int)) fun r113=>(.done r113)) (.done false)))
def qBy:Nat→Int→Int→Option (Bool)
 |0,_,_=>none
 |n+1,x0,x1=>(qIp n x0 x1).run
abbrev qRW (n:Nat):List (Ent (Rn n)):= [en (qDE n)]
theorem qFc:∀n,Ok (Rn n) qRV (qBy n)
 |0=>ok0 fun _=>rfl
 |n+1=>stO (T:=qIp n) (by kernel_rfl) (qRW n) [] (fun _=>(by kernel_rfl)) fun _=>(by kernel_rfl)
def qMV:Sg:=⟨166,[aI],[],⟨aB,[],[]⟩⟩
def qEv (n:Nat) (x0:Int):Tr (Bool):=(.done (x0 !=x0))
def qCm:Nat→Int→Option (Bool)
 |0,_=>none
 |n+1,x0=>(qEv n x0).run
theorem qLm:∀n,Ok (Rn n) qMV (qCm n)
 |0=>ok0 fun _=>rfl
 |n+1=>stO (T:=qEv n) (by kernel_rfl) [] [] (fun _=>(by kernel_rfl)) fun _=>(by kernel_rfl)
def qK7:Sg:=⟨132,[aI,aI],[],⟨aI,[],[]⟩⟩
def qD9 (n:Nat) (x0 x1:Int):Tr (Int):=(.opt (qCm n x0) fun r118=>(.opt (qCm n x1) fun r119=>(.ask (r118) (.ask (r119) (.done (0:Int)) (.done (-1:Int))) (.ask (r119) (.done (1:Int)) (.ask ((decide (x0<x1))) (.done (-1:Int)) (.ask ((decide (x0>x1))) (.done (1:Int)) (.done (0:Int))))))))
def qCF:Nat→Int→Int→Option (Int)
 |0,_,_=>none
 |n+1,x0,x1=>(qD9 n x0 x1).run
abbrev qK8 (n:Nat):List (Ent (Rn n)):= [en (qLm n)]
theorem qJ6:∀n,Ok (Rn n) qK7 (qCF n)
 |0=>ok0 fun _=>rfl
 |n+1=>stO (T:=qD9 n) (by kernel_rfl) (qK8 n) [] (fun _=>(by kernel_rfl)) fun _=>(by kernel_rfl)
def qRX:Sg:=⟨131,[aL],[],⟨aI,[],[]⟩⟩
def qCh (n:Nat) (v:Int×RW×Int×Int):Tr ((Int×RW×Int×Int)⊕((Int)⊕(Int))):=(.ask ((decide (v.2.2.2<v.2.2.1))) (.ask (decide (0≤v.2.2.2∧v.2.2.2<v.2.1.length)) (.opt (v.2.1[(v.2.2.2).toNat]?) fun e122=>(.ask (decide (e122.length=1)) (.opt (zC .i64 e122 0) fun y123=>(.ask ((y123 !=v.1)) (.done (.inr (.inl (y123)))) (.done (.inl (v.1,v.2.1,v.2.2.1,(IntKind.i64.wrap (v.2.2.2+(1:Int)))))))) .fail)) .fail) (.done (.inr (.inr (v.1)))))
def qIq (n:Nat) (x0:RW):Tr (Int):=(.opt (zD (qCh n) n ((0:Int),x0,(x0.length:Int),(0:Int))) fun r124=>(.alt r124 (fun r125=>(.done r125)) (fun r126=>(.done r126))))
def qGT:Nat→RW→Option (Int)
 |0,_=>none
 |n+1,x0=>(qIq n x0).run
def qOf (n:Nat):LEnt (KB 131) (Rn n) n:=lok (zL 131) 29 ⟨⟨[(3,aI),(6,aL),(7,aI),(8,aI)],[],[]⟩,[(.ret,⟨[(2,aI)],[],[]⟩),(.exit 0,⟨[(3,aI)],[],[]⟩)]⟩ (qCh n) [] [] fun _=>(by kernel_rfl)
theorem qQf:∀n,Ok (Rn n) qRX (qGT n)
 |0=>ok0 fun _=>rfl
 |n+1=>stO (T:=qIq n) (by kernel_rfl) [] [qOf n] (fun _=>(by kernel_rfl)) fun _=>(by kernel_rfl)
def qLn:Sg:=⟨90,[(.agg [qI,qI]),(.agg [qI,qI])],[],⟨aI,[],[]⟩⟩
def qEU (n:Nat) (x0 x1 x2 x3:Int):Tr (Int):=(.opt (qCF n x1 x3) fun r120=>(.opt (qCF n x0 x2) fun r121=>(.ask (decide (2=([[(.i .i64 r120)],[(.i .i64 r121)]]:RW).length)) (.opt (qGT n ([[(.i .i64 r120)],[(.i .i64 r121)]]:RW)) fun r127=>(.ask (zAS (⟨(.c (.p (.i .i64 r127))),[],[]⟩:Res)) (.done r127) .fail)) .fail)))
def qBp:Nat→Int→Int→Int→Int→Option (Int)
 |0,_,_,_,_=>none
 |n+1,x0,x1,x2,x3=>(qEU n x0 x1 x2 x3).run
abbrev qLo (n:Nat):List (Ent (Rn n)):= [en (qJ6 n),en (qQf n)]
theorem qK9:∀n,Ok (Rn n) qLn (qBp n)
 |0=>ok0 fun _=>rfl
 |n+1=>stO (T:=qEU n) (by kernel_rfl) (qLo n) [] (fun _=>(by kernel_rfl)) fun _=>(by kernel_rfl)
def qQg:Sg:=⟨158,[aS,aI],[],⟨aB,[],[]⟩⟩
def qBq (n:Nat) (v:BA×Int×Int×Int):Tr ((BA×Int×Int×Int)⊕((Bool)⊕(BA×Int))):=(.ask ((decide (v.2.2.2<v.2.2.1))) (.ask (decide (0≤v.2.2.2)) (.opt (v.1.toList[(v.2.2.2).toNat]?) fun c129=>(.ask ((decide ((c129.toNat:Int)<(32:Int)))) (.done (.inr (.inl (false)))) (.ask (decide (0≤v.2.2.2)) (.opt (v.1.toList[(v.2.2.2).toNat]?) fun c130=>(.ask ((decide ((c130.toNat:Int)>(126:Int)))) (.done (.inr (.inl (false)))) (.done (.inl (v.1,v.2.1,v.2.2.1,(IntKind.i64.wrap (v.2.2.2+(1:Int)))))))) .fail))) .fail) (.done (.inr (.inr ((v.1,v.2.1))))))
def qH3 (n:Nat) (x0:BA) (x1:Int):Tr (Bool):=(.opt (zD (qBq n) n (x0,x1,(x0.size:Int),(0:Int))) fun r131=>(.alt r131 (fun r132=>(.done r132)) (fun r133=>(.done (decide ((r133.1.size:Int)≤r133.2))))))
def qCw:Nat→BA→Int→Option (Bool)
 |0,_,_=>none
 |n+1,x0,x1=>(qH3 n x0 x1).run
def qNM (n:Nat):LEnt (KB 158) (Rn n) n:=lok (zL 158) 13 ⟨⟨[(0,aS),(1,aI),(7,aI),(8,aI)],[],[]⟩,[(.ret,⟨[(4,aB)],[],[]⟩),(.exit 0,⟨[(0,aS),(1,aI)],[],[]⟩)]⟩ (qBq n) [] [] fun _=>(by kernel_rfl)
theorem qGv:∀n,Ok (Rn n) qQg (qCw n)
 |0=>ok0 fun _=>rfl
 |n+1=>stO (T:=qH3 n) (by kernel_rfl) [] [qNM n] (fun _=>(by kernel_rfl)) fun _=>(by kernel_rfl)
def qGF:Sg:=⟨118,[aS,aS],[],⟨(.tup [(false,[qS]),(false,[qB])]),[],[]⟩⟩
def qw:Nat→BA→BA→Option ((BA×Bool))
 |0,_,_=>none
 |n+1,x0,x1=>zY x0 x1
theorem qB4:∀n,Ok (Rn n) qGF (qw n)
 |0=>ok0 fun _=>rfl
 |n+1=>stL (by kernel_rfl) (fun a r e=>congrArg (Option.map fun r=>(qGF.Of r).v) e) rfl rfl rfl
def qGw:Sg:=⟨197,[aS,aS],[],⟨aS,[],[]⟩⟩
def qBP:Nat→BA→BA→Option ((BA))
 |0,_,_=>none
 |n+1,x0,x1=>zN x0 x1
theorem qEA:∀n,Ok (Rn n) qGw (qBP n)
 |0=>ok0 fun _=>rfl
 |n+1=>stL (by kernel_rfl) (fun a r e=>congrArg (Option.map fun r=>(qGw.Of r).v) e) rfl rfl rfl
def qJ7:Sg:=⟨160,[(.c (.ptr 0 0 0 0 0))],[[(0,⟨0,3,198,(.box [qS,(.own 0 1 1 0),qB])⟩),(1,⟨1,14,162,(.row [])⟩)]],⟨(.tup []),[[(0,⟨0,3,198,(.box [qS,(.own 0 1 1 0),qB])⟩),(1,⟨1,14,162,(.row [])⟩)]],[]⟩⟩
def qDn (n:Nat) (x0:BA) (x1:Nat) (x2:Bool) (x3:RW):Tr (BA×Nat×Bool×RW):=(.opt (qBP n x0 (⟨#[32]⟩:BA)) fun r137=>(.done (r137,x1,x2,x3)))
def qA1:Nat→BA→Nat→Bool→RW→Option (BA×Nat×Bool×RW)
 |0,_,_,_,_=>none
 |n+1,x0,x1,x2,x3=>(qDn n x0 x1 x2 x3).run
abbrev qJ8 (n:Nat):List (Ent (Rn n)):= [en (qEA n)]
theorem qCZ:∀n,Ok (Rn n) qJ7 (qA1 n)
 |0=>ok0 fun _=>rfl
 |n+1=>stO (T:=qDn n) (by kernel_rfl) (qJ8 n) [] (fun _=>(by kernel_rfl)) fun _=>(by kernel_rfl)
def qEw:Sg:=⟨190,[aS,aS],[],⟨aB,[],[]⟩⟩
def qAy (n:Nat) (x0 x1:BA):Tr (Bool):=(.ask ((decide ((x0.size:Int)≥(x1.size:Int)))) (.ask (decide (0≤(0:Int)∧(0:Int)≤(x1.size:Int)∧(x1.size:Int)≤x0.size)) (.done ((x0.extract ((0:Int)).toNat ((x1.size:Int)).toNat).toList==x1.toList)) .fail) (.done false))
def qAD:Nat→BA→BA→Option (Bool)
 |0,_,_=>none
 |n+1,x0,x1=>(qAy n x0 x1).run
theorem qCc:∀n,Ok (Rn n) qEw (qAD n)
 |0=>ok0 fun _=>rfl
 |n+1=>stO (T:=qAy n) (by kernel_rfl) [] [] (fun _=>(by kernel_rfl)) fun _=>(by kernel_rfl)
def qLA:Sg:=⟨204,[aS,aS],[],⟨aB,[],[]⟩⟩
def qCG (n:Nat) (x0 x1:BA):Tr (Bool):=(.opt (qAD n x0 x1) fun r141=>(.done r141))
def ql:Nat→BA→BA→Option (Bool)
 |0,_,_=>none
 |n+1,x0,x1=>(qCG n x0 x1).run
abbrev qLB (n:Nat):List (Ent (Rn n)):= [en (qCc n)]
theorem qCn:∀n,Ok (Rn n) qLA (ql n)
 |0=>ok0 fun _=>rfl
 |n+1=>stO (T:=qCG n) (by kernel_rfl) (qLB n) [] (fun _=>(by kernel_rfl)) fun _=>(by kernel_rfl)
def qLp:Sg:=⟨192,[(.c (.ptr 0 0 0 0 0))],[[(0,⟨0,3,198,(.box [qS,(.own 0 1 1 0),qB])⟩),(1,⟨1,14,162,(.row [])⟩)]],⟨aS,[[(0,⟨0,3,198,(.box [qS,(.own 0 1 1 0),qB])⟩),(1,⟨1,14,162,(.row [])⟩)]],[]⟩⟩
def qCa (n:Nat) (v:Nat×Int×Int×RW×BA×Nat×Bool×RW):Tr ((Nat×Int×Int×RW×BA×Nat×Bool×RW)⊕((BA×BA×Nat×Bool×RW)⊕(BA×Nat×Bool×RW))):=(.ask ((decide (v.2.2.1<v.2.1))) (.ask (decide (v.1=v.2.2.2.1.length∧0≤v.2.2.1∧v.2.2.1<((v.1:Nat):Int))) (.opt (v.2.2.2.1[(v.2.2.1).toNat]?) fun e139=>(.opt (zX e139 0) fun y140=>(.opt (ql n v.2.2.2.2.1 y140) fun r141=>(.ask (r141) (.done (.inr (.inl ((y140,v.2.2.2.2.1,v.2.2.2.2.2.1,v.2.2.2.2.2.2.1,v.2.2.2.2.2.2.2))))) (.done (.inl (v.1,v.2.1,(IntKind.i64.wrap (v.2.2.1+(1:Int))),v.2.2.2.1,v.2.2.2.2.1,v.2.2.2.2.2.1,v.2.2.2.2.2.2.1,v.2.2.2.2.2.2.2))))))) .fail) (.done (.inr (.inr ((v.2.2.2.2.1,v.2.2.2.2.2.1,v.2.2.2.2.2.2.1,v.2.2.2.2.2.2.2))))))
def qGx (n:Nat) (x0:BA) (x1:Nat) (x2:Bool) (x3:RW):Tr (BA×BA×Nat×Bool×RW):=(.opt (qA1 n x0 x1 x2 x3) fun r138=>(.opt (zD (qCa n) n ((15:Nat),(15:Int),(0:Int),([[(.s (⟨#[60,62]⟩:BA))],[(.s (⟨#[60,61]⟩:BA))],[(.s (⟨#[62,61]⟩:BA))],[(.s (⟨#[60]⟩:BA))],[(.s (⟨#[62]⟩:BA))],[(.s (⟨#[61]⟩:BA))],[(.s (⟨#[38]⟩:BA))],[(.s (⟨#[43]⟩:BA))],[(.s (⟨#[45]⟩:BA))],[(.s (⟨#[42]⟩:BA))],[(.s (⟨#[47]⟩:BA))],[(.s (⟨#[40]⟩:BA))],[(.s (⟨#[41]⟩:BA))],[(.s (⟨#[44]⟩:BA))],[(.s (⟨#[58]⟩:BA))]]:RW),r138.1,r138.2.1,r138.2.2.1,r138.2.2.2)) fun r142=>(.alt r142 (fun r143=>(.done (r143.1,r143.2.1,r143.2.2.1,r143.2.2.2.1,r143.2.2.2.2))) (fun r144=>(.done ((⟨#[]⟩:BA),r144.1,r144.2.1,r144.2.2.1,r144.2.2.2))))))
def qBr:Nat→BA→Nat→Bool→RW→Option (BA×BA×Nat×Bool×RW)
 |0,_,_,_,_=>none
 |n+1,x0,x1,x2,x3=>(qGx n x0 x1 x2 x3).run
abbrev qGy (n:Nat):List (Ent (Rn n)):= [en (qCZ n),en (qCn n)]
def qJe (n:Nat):LEnt (KB 192) (Rn n) n:=lok (zL 192) 29 ⟨⟨[(0,(.c (.ptr 0 0 0 0 0))),(7,(.c (.own 1 448 0 0))),(8,aI),(9,aI)],[(448,⟨0,1,9,(.row [])⟩)],[[(0,⟨0,3,198,(.box [qS,(.own 0 1 1 0),qB])⟩),(1,⟨1,14,162,(.row [])⟩)]]⟩,[(.ret,⟨[(2,aS)],[],[[(0,⟨0,3,198,(.box [qS,(.own 0 1 1 0),qB])⟩),(1,⟨1,14,162,(.row [])⟩)]]⟩),(.exit 0,⟨[],[],[[(0,⟨0,3,198,(.box [qS,(.own 0 1 1 0),qB])⟩),(1,⟨1,14,162,(.row [])⟩)]]⟩)]⟩ (qCa n) (qGy n) [] fun _=>(by kernel_rfl)
theorem qGG:∀n,Ok (Rn n) qLp (qBr n)
 |0=>ok0 fun _=>rfl
 |n+1=>stO (T:=qGx n) (by kernel_rfl) (qGy n) [qJe n] (fun _=>(by kernel_rfl)) fun _=>(by kernel_rfl)
def qLq:Sg:=⟨195,[(.c (.ptr 0 0 0 0 0)),aS],[[(0,⟨0,3,198,(.box [qS,(.own 0 1 1 0),qB])⟩),(1,⟨1,14,162,(.row [])⟩)]],⟨aB,[[(0,⟨0,3,198,(.box [qS,(.own 0 1 1 0),qB])⟩),(1,⟨1,14,162,(.row [])⟩)]],[]⟩⟩
def qGz (n:Nat) (x0 x1:BA) (x2:Nat) (x3:Bool) (x4:RW):Tr (Bool×BA×Nat×Bool×RW):=(.opt (qBr n x1 x2 x3 x4) fun r145=>(.ask ((!(r145.1.toList==x0.toList))) (.done (false,r145.2.1,r145.2.2.1,r145.2.2.2.1,r145.2.2.2.2)) (.ask (decide (0≤(x0.size:Int)∧(x0.size:Int)≤(r145.2.1.size:Int)∧(r145.2.1.size:Int)≤r145.2.1.size)) (.done (true,(r145.2.1.extract ((x0.size:Int)).toNat ((r145.2.1.size:Int)).toNat),r145.2.2.1,r145.2.2.2.1,r145.2.2.2.2)) .fail)))
def qo:Nat→BA→BA→Nat→Bool→RW→Option (Bool×BA×Nat×Bool×RW)
 |0,_,_,_,_,_=>none
 |n+1,x0,x1,x2,x3,x4=>(qGz n x0 x1 x2 x3 x4).run
abbrev qLr (n:Nat):List (Ent (Rn n)):= [en (qGG n)]
theorem qCH:∀n,Ok (Rn n) qLq (qo n)
 |0=>ok0 fun _=>rfl
 |n+1=>stO (T:=qGz n) (by kernel_rfl) (qLr n) [] (fun _=>(by kernel_rfl)) fun _=>(by kernel_rfl)
def qMW:Sg:=⟨196,[(.c (.ptr 0 0 0 0 0)),(.agg [qI,qI,qI,qI,qS,qI,qI,qB,qB,qI,qI,qB,qB,qL])],[[(0,⟨0,3,198,(.box [qS,(.own 0 1 1 0),qB])⟩),(1,⟨1,14,162,(.row [])⟩)]],⟨aI,[[(0,⟨0,3,198,(.box [qS,(.own 0 1 1 0),qB])⟩),(1,⟨1,14,162,(.row [])⟩)]],[]⟩⟩
def qHZ (n:Nat) (x0 x1 x2 x3:Int) (x4:BA) (x5 x6:Int) (x7 x8:Bool) (x9 x10:Int) (x11 x12:Bool) (x13:RW) (x14:BA) (x15:Nat) (x16:Bool) (x17:RW):Tr (Int×BA×Nat×Bool×RW):=(.ask (x16) (.ask (false) (.ask (decide (1=([[(.i .i64 x0),(.i .i64 x1),(.i .i64 x2),(.i .i64 x3),(.s x4),(.i .i64 x5),(.i .i64 x6),(.b x7),(.b x8),(.i .i64 x9),(.i .i64 x10),(.b x11),(.b x12),(.ls x13)]]:RW).length)) (.ask (decide (x15=x17.length∧0<14∧0<120∧(x15+([[(.i .i64 x0),(.i .i64 x1),(.i .i64 x2),(.i .i64 x3),(.s x4),(.i .i64 x5),(.i .i64 x6),(.b x7),(.b x8),(.i .i64 x9),(.i .i64 x10),(.b x11),(.b x12),(.ls x13)]]:RW).length)*120≤140737488355328∧([[(.i .i64 x0),(.i .i64 x1),(.i .i64 x2),(.i .i64 x3),(.s x4),(.i .i64 x5),(.i .i64 x6),(.b x7),(.b x8),(.i .i64 x9),(.i .i64 x10),(.b x11),(.b x12),(.ls x13)]]:RW).all (fun e=>e.length==14)=true)) (.done ((IntKind.i64.wrap ((((x15+1):Nat):Int)-(1:Int))),x14,(x15+1),true,(x17++([[(.i .i64 x0),(.i .i64 x1),(.i .i64 x2),(.i .i64 x3),(.s x4),(.i .i64 x5),(.i .i64 x6),(.b x7),(.b x8),(.i .i64 x9),(.i .i64 x10),(.b x11),(.b x12),(.ls x13)]]:RW)))) .fail) .fail) (.done ((IntKind.i64.wrap (((x15:Nat):Int)-(1:Int))),x14,x15,true,x17))) (.ask ((!(decide (((x15:Nat):Int)≥(60:Int))))) (.ask (decide (1=([[(.i .i64 x0),(.i .i64 x1),(.i .i64 x2),(.i .i64 x3),(.s x4),(.i .i64 x5),(.i .i64 x6),(.b x7),(.b x8),(.i .i64 x9),(.i .i64 x10),(.b x11),(.b x12),(.ls x13)]]:RW).length)) (.ask (decide (x15=x17.length∧0<14∧0<120∧(x15+([[(.i .i64 x0),(.i .i64 x1),(.i .i64 x2),(.i .i64 x3),(.s x4),(.i .i64 x5),(.i .i64 x6),(.b x7),(.b x8),(.i .i64 x9),(.i .i64 x10),(.b x11),(.b x12),(.ls x13)]]:RW).length)*120≤140737488355328∧([[(.i .i64 x0),(.i .i64 x1),(.i .i64 x2),(.i .i64 x3),(.s x4),(.i .i64 x5),(.i .i64 x6),(.b x7),(.b x8),(.i .i64 x9),(.i .i64 x10),(.b x11),(.b x12),(.ls x13)]]:RW).all (fun e=>e.length==14)=true)) (.done ((IntKind.i64.wrap ((((x15+1):Nat):Int)-(1:Int))),x14,(x15+1),(decide (((x15:Nat):Int)≥(60:Int))),(x17++([[(.i .i64 x0),(.i .i64 x1),(.i .i64 x2),(.i .i64 x3),(.s x4),(.i .i64 x5),(.i .i64 x6),(.b x7),(.b x8),(.i .i64 x9),(.i .i64 x10),(.b x11),(.b x12),(.ls x13)]]:RW)))) .fail) .fail) (.done ((IntKind.i64.wrap (((x15:Nat):Int)-(1:Int))),x14,x15,(decide (((x15:Nat):Int)≥(60:Int))),x17))))
def qp:Nat→Int→Int→Int→Int→BA→Int→Int→Bool→Bool→Int→Int→Bool→Bool→RW→BA→Nat→Bool→RW→Option (Int×BA×Nat×Bool×RW)
 |0,_,_,_,_,_,_,_,_,_,_,_,_,_,_,_,_,_,_=>none
 |n+1,x0,x1,x2,x3,x4,x5,x6,x7,x8,x9,x10,x11,x12,x13,x14,x15,x16,x17=>(qHZ n x0 x1 x2 x3 x4 x5 x6 x7 x8 x9 x10 x11 x12 x13 x14 x15 x16 x17).run
theorem qCV:∀n,Ok (Rn n) qMW (qp n)
 |0=>ok0 fun _=>rfl
 |n+1=>stO (T:=qHZ n) (by kernel_rfl) [] [] (fun _=>(by kernel_rfl)) fun _=>(by kernel_rfl)
def qLS:Sg:=⟨261,[aS,aS],[],⟨(.tup [(false,[qS]),(false,[qS]),(false,[qB])]),[],[]⟩⟩
def qH4:Nat→BA→BA→Option ((BA×BA×Bool))
 |0,_,_=>none
 |n+1,x0,x1=>zAQ x0 x1
theorem qPg:∀n,Ok (Rn n) qLS (qH4 n)
 |0=>ok0 fun _=>rfl
 |n+1=>stL (by kernel_rfl) (fun a r e=>congrArg (Option.map fun r=>(qLS.Of r).v) e) rfl rfl rfl
def qIr:Sg:=⟨244,[(.c (.ptr 0 0 0 0 0)),(.agg [qI,qI,qS])],[[(0,⟨0,3,198,(.box [qS,(.own 0 1 1 0),qB])⟩),(1,⟨1,14,162,(.row [])⟩)]],⟨aI,[[(0,⟨0,3,198,(.box [qS,(.own 0 1 1 0),qB])⟩),(1,⟨1,14,162,(.row [])⟩)]],[]⟩⟩
def qEx (n:Nat) (x0 x1:Int) (x2 x3:BA) (x4:Nat) (x5:Bool) (x6:RW):Tr (Int×BA×Nat×Bool×RW):=(.opt (qp n (1:Int) (0:Int) x0 x1 x2 (0:Int) (0:Int) false false (0:Int) (0:Int) false false ([]:RW) x3 x4 x5 x6) fun r156=>(.done (r156.1,r156.2.1,r156.2.2.1,r156.2.2.2.1,r156.2.2.2.2)))
def qj:Nat→Int→Int→BA→BA→Nat→Bool→RW→Option (Int×BA×Nat×Bool×RW)
 |0,_,_,_,_,_,_,_=>none
 |n+1,x0,x1,x2,x3,x4,x5,x6=>(qEx n x0 x1 x2 x3 x4 x5 x6).run
abbrev qIs (n:Nat):List (Ent (Rn n)):= [en (qCV n)]
theorem qEd:∀n,Ok (Rn n) qIr (qj n)
 |0=>ok0 fun _=>rfl
 |n+1=>stO (T:=qEx n) (by kernel_rfl) (qIs n) [] (fun _=>(by kernel_rfl)) fun _=>(by kernel_rfl)
def qJ9:Sg:=⟨243,[(.c (.ptr 0 0 0 0 0))],[[(0,⟨0,3,198,(.box [qS,(.own 0 1 1 0),qB])⟩),(1,⟨1,14,162,(.row [])⟩)]],⟨aI,[[(0,⟨0,3,198,(.box [qS,(.own 0 1 1 0),qB])⟩),(1,⟨1,14,162,(.row [])⟩)]],[]⟩⟩
def qDF (n:Nat) (v:BA×BA×BA×Nat×Bool×RW):Tr ((BA×BA×BA×Nat×Bool×RW)⊕((Int×BA×Nat×Bool×RW)⊕(BA×BA×BA×Nat×Bool×RW))):=(.opt (qH4 n v.2.1 (⟨#[34]⟩:BA)) fun r151=>(.ask ((!r151.2.2)) (.done (.inr (.inl (((-1:Int),v.2.2.1,v.2.2.2.1,true,v.2.2.2.2.2))))) (.ask (decide (v.1.size+r151.1.size≤9223372036854775807)) (.opt (ql n r151.2.1 (⟨#[34]⟩:BA)) fun r152=>(.ask ((!r152)) (.done (.inr (.inr (((v.1++r151.1),r151.2.1,v.2.2.1,v.2.2.2.1,v.2.2.2.2.1,v.2.2.2.2.2))))) (.ask (decide ((v.1++r151.1).size+(⟨#[34]⟩:BA).size≤9223372036854775807)) (.ask (decide (0≤(1:Int)∧(1:Int)≤(r151.2.1.size:Int)∧(r151.2.1.size:Int)≤r151.2.1.size)) (.done (.inl (((v.1++r151.1)++(⟨#[34]⟩:BA)),(r151.2.1.extract ((1:Int)).toNat ((r151.2.1.size:Int)).toNat),v.2.2.1,v.2.2.2.1,v.2.2.2.2.1,v.2.2.2.2.2))) .fail) .fail))) .fail)))
def qFg (n:Nat) (x0:BA) (x1:Nat) (x2:Bool) (x3:RW):Tr (Int×BA×Nat×Bool×RW):=(.ask (decide (0≤(1:Int)∧(1:Int)≤(x0.size:Int)∧(x0.size:Int)≤x0.size)) (.opt (zD (qDF n) n ((⟨#[]⟩:BA),(x0.extract ((1:Int)).toNat ((x0.size:Int)).toNat),x0,x1,x2,x3)) fun r153=>(.alt r153 (fun r154=>(.done (r154.1,r154.2.1,r154.2.2.1,r154.2.2.2.1,r154.2.2.2.2))) (fun r155=>(.opt (qj n (2:Int) (0:Int) r155.1 r155.2.1 r155.2.2.2.1 r155.2.2.2.2.1 r155.2.2.2.2.2) fun r157=>(.done (r157.1,r157.2.1,r157.2.2.1,r157.2.2.2.1,r157.2.2.2.2)))))) .fail)
def qDo:Nat→BA→Nat→Bool→RW→Option (Int×BA×Nat×Bool×RW)
 |0,_,_,_,_=>none
 |n+1,x0,x1,x2,x3=>(qFg n x0 x1 x2 x3).run
abbrev qFh (n:Nat):List (Ent (Rn n)):= [en (qPg n),en (qCn n),en (qEd n)]
def qIU (n:Nat):LEnt (KB 243) (Rn n) n:=lok (zL 243) 14 ⟨⟨[(0,(.c (.ptr 0 0 0 0 0))),(3,aS),(4,aS)],[],[[(0,⟨0,3,198,(.box [qS,(.own 0 1 1 0),qB])⟩),(1,⟨1,14,162,(.row [])⟩)]]⟩,[(.ret,⟨[(2,aI)],[],[[(0,⟨0,3,198,(.box [qS,(.own 0 1 1 0),qB])⟩),(1,⟨1,14,162,(.row [])⟩)]]⟩),(.exit 0,⟨[(0,(.c (.ptr 0 0 0 0 0))),(3,aS),(4,aS)],[],[[(0,⟨0,3,198,(.box [qS,(.own 0 1 1 0),qB])⟩),(1,⟨1,14,162,(.row [])⟩)]]⟩)]⟩ (qDF n) (qFh n) [] fun _=>(by kernel_rfl)
theorem qJf:∀n,Ok (Rn n) qJ9 (qDo n)
 |0=>ok0 fun _=>rfl
 |n+1=>stO (T:=qFg n) (by kernel_rfl) (qFh n) [qIU n] (fun _=>(by kernel_rfl)) fun _=>(by kernel_rfl)
def qNN:Sg:=⟨205,[aI],[],⟨aS,[],[]⟩⟩
def qFO (n:Nat) (x0:Int):Tr (BA):=(.ask (decide (6=([[(.s (⟨#[]⟩:BA))],[(.s (⟨#[35,68,73,86,33]⟩:BA))],[(.s (⟨#[35,84,89,80,69,33]⟩:BA))],[(.s (⟨#[35,82,69,70,33]⟩:BA))],[(.s (⟨#[35,79,86,69,82,33]⟩:BA))],[(.s (⟨#[35,67,89,67,76,69,33]⟩:BA))]]:RW).length∧0≤x0∧x0<((6:Nat):Int))) (.opt (([[(.s (⟨#[]⟩:BA))],[(.s (⟨#[35,68,73,86,33]⟩:BA))],[(.s (⟨#[35,84,89,80,69,33]⟩:BA))],[(.s (⟨#[35,82,69,70,33]⟩:BA))],[(.s (⟨#[35,79,86,69,82,33]⟩:BA))],[(.s (⟨#[35,67,89,67,76,69,33]⟩:BA))]]:RW)[(x0).toNat]?) fun e160=>(.opt (zX e160 0) fun y161=>(.done y161))) .fail)
def qAj:Nat→Int→Option (BA)
 |0,_=>none
 |n+1,x0=>(qFO n x0).run
theorem qEy:∀n,Ok (Rn n) qNN (qAj n)
 |0=>ok0 fun _=>rfl
 |n+1=>stO (T:=qFO n) (by kernel_rfl) [] [] (fun _=>(by kernel_rfl)) fun _=>(by kernel_rfl)
def qRY:Sg:=⟨206,[aI],[],⟨(.agg [qI,qI,qS]),[],[]⟩⟩
def qIt (n:Nat) (x0:Int):Tr (Int×Int×BA):=(.done ((4:Int),x0,(⟨#[]⟩:BA)))
def qBz:Nat→Int→Option (Int×Int×BA)
 |0,_=>none
 |n+1,x0=>(qIt n x0).run
theorem qLT:∀n,Ok (Rn n) qRY (qBz n)
 |0=>ok0 fun _=>rfl
 |n+1=>stO (T:=qIt n) (by kernel_rfl) [] [] (fun _=>(by kernel_rfl)) fun _=>(by kernel_rfl)
def qLs:Sg:=⟨245,[(.c (.ptr 0 0 0 0 0))],[[(0,⟨0,3,198,(.box [qS,(.own 0 1 1 0),qB])⟩),(1,⟨1,14,162,(.row [])⟩)]],⟨aS,[[(0,⟨0,3,198,(.box [qS,(.own 0 1 1 0),qB])⟩),(1,⟨1,14,162,(.row [])⟩)]],[]⟩⟩
def qG0 (n:Nat) (x0:BA) (x1:Nat) (x2:Bool) (x3:RW):Tr (BA×BA×Nat×Bool×RW):=(.opt (qA1 n x0 x1 x2 x3) fun r167=>(.opt (qBP n r167.1 (⟨#[65,66,67,68,69,70,71,72,73,74,75,76,77,78,79,80,81,82,83,84,85,86,87,88,89,90,48,49,50,51,52,53,54,55,56,57,36]⟩:BA)) fun r168=>(.ask (decide (0≤(0:Int)∧(0:Int)≤(IntKind.i64.wrap ((r167.1.size:Int)-(r168.size:Int)))∧(IntKind.i64.wrap ((r167.1.size:Int)-(r168.size:Int)))≤r167.1.size)) (.ask (decide (0≤(IntKind.i64.wrap ((r167.1.size:Int)-(r168.size:Int)))∧(IntKind.i64.wrap ((r167.1.size:Int)-(r168.size:Int)))≤(r167.1.size:Int)∧(r167.1.size:Int)≤r167.1.size)) (.done ((r167.1.extract ((0:Int)).toNat ((IntKind.i64.wrap ((r167.1.size:Int)-(r168.size:Int)))).toNat),(r167.1.extract ((IntKind.i64.wrap ((r167.1.size:Int)-(r168.size:Int)))).toNat ((r167.1.size:Int)).toNat),r167.2.1,r167.2.2.1,r167.2.2.2)) .fail) .fail)))
def qBQ:Nat→BA→Nat→Bool→RW→Option (BA×BA×Nat×Bool×RW)
 |0,_,_,_,_=>none
 |n+1,x0,x1,x2,x3=>(qG0 n x0 x1 x2 x3).run
abbrev qLt (n:Nat):List (Ent (Rn n)):= [en (qCZ n),en (qEA n)]
theorem qGH:∀n,Ok (Rn n) qLs (qBQ n)
 |0=>ok0 fun _=>rfl
 |n+1=>stO (T:=qG0 n) (by kernel_rfl) (qLt n) [] (fun _=>(by kernel_rfl)) fun _=>(by kernel_rfl)
def qPh:Sg:=⟨170,[(.agg [qI,qI,qS])],[],⟨aB,[],[]⟩⟩
def qG1 (n:Nat) (x0 x1:Int) (x2:BA):Tr (Bool):=(.ask ((x0==(2:Int))) (.ask ((x1==(0:Int))) (.opt (qCw n x2 (200:Int)) fun r171=>(.done r171)) (.done false)) (.ask ((!(x2.toList==(⟨#[]⟩:BA).toList))) (.done false) (.ask ((x0==(0:Int))) (.done (x1==(0:Int))) (.ask ((x0==(1:Int))) (.opt (qAP n x1 (-1000000000000000:Int) (1000000000000000:Int)) fun r172=>(.done r172)) (.ask ((x0==(3:Int))) (.opt (qAP n x1 (0:Int) (1:Int)) fun r173=>(.done r173)) (.ask ((x0==(4:Int))) (.opt (qAP n x1 (1:Int) (5:Int)) fun r174=>(.done r174)) (.done false)))))))
def qAV:Nat→Int→Int→BA→Option (Bool)
 |0,_,_,_=>none
 |n+1,x0,x1,x2=>(qG1 n x0 x1 x2).run
abbrev qPi (n:Nat):List (Ent (Rn n)):= [en (qGv n),en (qDE n)]
theorem qF2:∀n,Ok (Rn n) qPh (qAV n)
 |0=>ok0 fun _=>rfl
 |n+1=>stO (T:=qG1 n) (by kernel_rfl) (qPi n) [] (fun _=>(by kernel_rfl)) fun _=>(by kernel_rfl)
def qGI:Sg:=⟨144,[aI,aI],[],⟨aS,[],[]⟩⟩
def qEB:Nat→Int→Int→Option ((BA))
 |0,_,_=>none
 |n+1,x0,x1=>ze x0 x1
theorem qKA:∀n,Ok (Rn n) qGI (qEB n)
 |0=>ok0 fun _=>rfl
 |n+1=>stL (by kernel_rfl) (fun a r e=>congrArg (Option.map fun r=>(qGI.Of r).v) e) rfl rfl rfl
def qPj:Sg:=⟨103,[aI],[],⟨aS,[],[]⟩⟩
def qG2 (n:Nat) (x0:Int):Tr (BA):=(.opt (qEB n x0 (10:Int)) fun r176=>(.done r176))
def qBH:Nat→Int→Option (BA)
 |0,_=>none
 |n+1,x0=>(qG2 n x0).run
abbrev qPk (n:Nat):List (Ent (Rn n)):= [en (qKA n)]
theorem qF3:∀n,Ok (Rn n) qPj (qBH n)
 |0=>ok0 fun _=>rfl
 |n+1=>stO (T:=qG2 n) (by kernel_rfl) (qPk n) [] (fun _=>(by kernel_rfl)) fun _=>(by kernel_rfl)
def qNO:Sg:=⟨207,[(.agg [qI,qI,qS])],[],⟨aS,[],[]⟩⟩
def qBs (n:Nat) (x0 x1:Int) (x2:BA):Tr (BA):=(.ask ((x0==(1:Int))) (.opt (qBH n x1) fun r177=>(.done r177)) (.ask ((x0==(2:Int))) (.ask (decide ((⟨#[39]⟩:BA).size+x2.size≤9223372036854775807)) (.done ((⟨#[39]⟩:BA)++x2)) .fail) (.ask ((x0==(3:Int))) (.ask (decide (2=([[(.s (⟨#[70,65,76,83,69]⟩:BA))],[(.s (⟨#[84,82,85,69]⟩:BA))]]:RW).length∧0≤x1∧x1<((2:Nat):Int))) (.opt (([[(.s (⟨#[70,65,76,83,69]⟩:BA))],[(.s (⟨#[84,82,85,69]⟩:BA))]]:RW)[(x1).toNat]?) fun e178=>(.opt (zX e178 0) fun y179=>(.done y179))) .fail) (.ask ((x0==(4:Int))) (.opt (qAj n x1) fun r180=>(.done r180)) (.done (⟨#[]⟩:BA))))))
def qq:Nat→Int→Int→BA→Option (BA)
 |0,_,_,_=>none
 |n+1,x0,x1,x2=>(qBs n x0 x1 x2).run
abbrev qNP (n:Nat):List (Ent (Rn n)):= [en (qF3 n),en (qEy n)]
theorem qHa:∀n,Ok (Rn n) qNO (qq n)
 |0=>ok0 fun _=>rfl
 |n+1=>stO (T:=qBs n) (by kernel_rfl) (qNP n) [] (fun _=>(by kernel_rfl)) fun _=>(by kernel_rfl)
def qRZ:Sg:=⟨203,[aB],[],⟨(.agg [qI,qI,qS]),[],[]⟩⟩
def qIu (n:Nat) (x0:Bool):Tr (Int×Int×BA):=(.ask (x0) (.done ((3:Int),(1:Int),(⟨#[]⟩:BA))) (.done ((3:Int),(0:Int),(⟨#[]⟩:BA))))
def qEz:Nat→Bool→Option (Int×Int×BA)
 |0,_=>none
 |n+1,x0=>(qIu n x0).run
theorem qQh:∀n,Ok (Rn n) qRZ (qEz n)
 |0=>ok0 fun _=>rfl
 |n+1=>stO (T:=qIu n) (by kernel_rfl) [] [] (fun _=>(by kernel_rfl)) fun _=>(by kernel_rfl)
def qLu:Sg2:=⟨168,[aS,aI,aI],(.tup [(false,[qI]),(false,[(.p .nif)])]),(.tup [(false,[qI]),(false,[(.p .ifc)])])⟩
def qA2:Nat→BA→Int→Int→Option ((Int)⊕(Int))
 |0,_,_,_=>none
 |n+1,x0,x1,x2=>zK x0 x1 x2
theorem qEC:∀n,Ok2 (Rn n) qLu (qA2 n)
 |0=>fun a r e=>by cases e
 |n+1=>zKr (by kernel_rfl) fun a r e=>by
  rcases r with r|r
  ·exact congrArg (Option.map zAB) e
  ·exact congrArg (Option.map zAB) e
def qQi:Sg:=⟨171,[aI],[],⟨(.agg [qI,qI,qS]),[],[]⟩⟩
def qH5 (n:Nat) (x0:Int):Tr (Int×Int×BA):=(.done ((1:Int),x0,(⟨#[]⟩:BA)))
def qCx:Nat→Int→Option (Int×Int×BA)
 |0,_=>none
 |n+1,x0=>(qH5 n x0).run
theorem qKB:∀n,Ok (Rn n) qQi (qCx n)
 |0=>ok0 fun _=>rfl
 |n+1=>stO (T:=qH5 n) (by kernel_rfl) [] [] (fun _=>(by kernel_rfl)) fun _=>(by kernel_rfl)
def qNQ:Sg:=⟨172,[aS],[],⟨(.tup [(true,[qI,qI,qS]),(false,[qB])]),[],[]⟩⟩
def qBG (n:Nat) (v:BA×Int×Int×Int×BA×Int×Int×BA):Tr ((BA×Int×Int×Int×BA×Int×Int×BA)⊕((BA×Int×Int×BA×Int×Int×BA))):=(.ask ((decide (v.2.1≤(5:Int)))) (.opt (qAj n v.2.1) fun r189=>(.ask ((r189.toList==v.1.toList)) (.opt (qBz n v.2.1) fun r190=>(.done (.inl (v.1,(IntKind.i64.wrap (v.2.1+(1:Int))),v.2.2.1,v.2.2.2.1,v.2.2.2.2.1,r190.1,r190.2.1,r190.2.2)))) (.done (.inl (v.1,(IntKind.i64.wrap (v.2.1+(1:Int))),v.2.2.1,v.2.2.2.1,v.2.2.2.2.1,v.2.2.2.2.2.1,v.2.2.2.2.2.2.1,v.2.2.2.2.2.2.2))))) (.done (.inr ((v.1,v.2.2.1,v.2.2.2.1,v.2.2.2.2.1,v.2.2.2.2.2.1,v.2.2.2.2.2.2.1,v.2.2.2.2.2.2.2)))))
def qBT (n:Nat) (x0:BA):Tr (Int×Int×BA×Bool):=(.opt (qw n x0 (⟨#[39]⟩:BA)) fun r170=>(.ask (r170.2) (.opt (qAV n (2:Int) (0:Int) r170.1) fun r175=>(.ask ((!r175)) (.done ((0:Int),(0:Int),(⟨#[]⟩:BA),false)) (.opt (qq n (2:Int) (0:Int) r170.1) fun r181=>(.ask ((!(r181.toList==x0.toList))) (.done ((0:Int),(0:Int),(⟨#[]⟩:BA),false)) (.done ((2:Int),(0:Int),r170.1,true)))))) (.ask ((x0.toList==(⟨#[70,65,76,83,69]⟩:BA).toList)) (.opt (qEz n (x0.toList==(⟨#[84,82,85,69]⟩:BA).toList)) fun r182=>(.opt (qAV n r182.1 r182.2.1 r182.2.2) fun r183=>(.ask ((!r183)) (.done ((0:Int),(0:Int),(⟨#[]⟩:BA),false)) (.opt (qq n r182.1 r182.2.1 r182.2.2) fun r184=>(.ask ((!(r184.toList==x0.toList))) (.done ((0:Int),(0:Int),(⟨#[]⟩:BA),false)) (.done (r182.1,r182.2.1,r182.2.2,true))))))) (.ask ((x0.toList==(⟨#[84,82,85,69]⟩:BA).toList)) (.opt (qEz n (x0.toList==(⟨#[84,82,85,69]⟩:BA).toList)) fun r185=>(.opt (qAV n r185.1 r185.2.1 r185.2.2) fun r186=>(.ask ((!r186)) (.done ((0:Int),(0:Int),(⟨#[]⟩:BA),false)) (.opt (qq n r185.1 r185.2.1 r185.2.2) fun r187=>(.ask ((!(r187.toList==x0.toList))) (.done ((0:Int),(0:Int),(⟨#[]⟩:BA),false)) (.done (r185.1,r185.2.1,r185.2.2,true))))))) (.opt (ql n x0 (⟨#[35]⟩:BA)) fun r188=>(.ask (r188) (.opt (zD (qBG n) n (x0,(1:Int),(0:Int),(0:Int),(⟨#[]⟩:BA),(0:Int),(0:Int),(⟨#[]⟩:BA))) fun r191=>(.opt (qAV n r191.2.2.2.2.1 r191.2.2.2.2.2.1 r191.2.2.2.2.2.2) fun r192=>(.ask ((!r192)) (.done ((0:Int),(0:Int),(⟨#[]⟩:BA),false)) (.opt (qq n r191.2.2.2.2.1 r191.2.2.2.2.2.1 r191.2.2.2.2.2.2) fun r193=>(.ask ((!(r193.toList==r191.1.toList))) (.done ((0:Int),(0:Int),(⟨#[]⟩:BA),false)) (.done (r191.2.2.2.2.1,r191.2.2.2.2.2.1,r191.2.2.2.2.2.2,true))))))) (.ask ((!(x0.toList==(⟨#[]⟩:BA).toList))) (.opt (qA2 n x0 (10:Int) (64:Int)) fun r194=>(.alt r194 (fun r195=>(.opt (qCx n r195) fun r197=>(.opt (qAV n r197.1 r197.2.1 r197.2.2) fun r198=>(.ask ((!r198)) (.done ((0:Int),(0:Int),(⟨#[]⟩:BA),false)) (.opt (qq n r197.1 r197.2.1 r197.2.2) fun r199=>(.ask ((!(r199.toList==x0.toList))) (.done ((0:Int),(0:Int),(⟨#[]⟩:BA),false)) (.done (r197.1,r197.2.1,r197.2.2,true)))))))) (fun r196=>(.opt (qCx n r196) fun r200=>(.opt (qAV n r200.1 r200.2.1 r200.2.2) fun r201=>(.ask ((!r201)) (.done ((0:Int),(0:Int),(⟨#[]⟩:BA),false)) (.opt (qq n r200.1 r200.2.1 r200.2.2) fun r202=>(.ask ((!(r202.toList==x0.toList))) (.done ((0:Int),(0:Int),(⟨#[]⟩:BA),false)) (.done (r200.1,r200.2.1,r200.2.2,true)))))))))) (.opt (qAV n (0:Int) (0:Int) (⟨#[]⟩:BA)) fun r203=>(.ask ((!r203)) (.done ((0:Int),(0:Int),(⟨#[]⟩:BA),false)) (.opt (qq n (0:Int) (0:Int) (⟨#[]⟩:BA)) fun r204=>(.ask ((!(r204.toList==x0.toList))) (.done ((0:Int),(0:Int),(⟨#[]⟩:BA),false)) (.done ((0:Int),(0:Int),(⟨#[]⟩:BA),true)))))))))))))
def qe:Nat→BA→Option (Int×Int×BA×Bool)
 |0,_=>none
 |n+1,x0=>(qBT n x0).run
abbrev qIV (n:Nat):List (Ent (Rn n)):= [en (qB4 n),en (qF2 n),en (qHa n),en (qQh n),en (qCn n),en (qEy n),en (qLT n),en2 (qEC n),en (qKB n)]
def qJg (n:Nat):LEnt (KB 172) (Rn n) n:=lok (zL 172) 3837 ⟨⟨[(0,aS),(2,(.c (.ptr 0 128 0 0 0))),(4,(.c (.ptr 0 256 0 0 0))),(7,aI)],[(128,⟨0,3,128,(.box [qI,qI,qS])⟩),(256,⟨0,3,128,(.box [qI,qI,qS])⟩)],[]⟩,[(.exit 1,⟨[(0,aS),(2,(.c (.ptr 0 128 0 0 0))),(4,(.c (.ptr 0 256 0 0 0)))],[(128,⟨0,3,128,(.box [qI,qI,qS])⟩),(256,⟨0,3,128,(.box [qI,qI,qS])⟩)],[]⟩)]⟩ (qBG n) (qIV n) [] fun _=>(by kernel_rfl)
theorem qHb:∀n,Ok (Rn n) qNQ (qe n)
 |0=>ok0 fun _=>rfl
 |n+1=>stO (T:=qBT n) (by kernel_rfl) (qIV n) [qJg n] (fun _=>(by kernel_rfl)) fun _=>(by kernel_rfl)
def qPl:Sg:=⟨184,[aI],[],⟨aS,[],[]⟩⟩
def qDp (n:Nat) (x0:Int):Tr (BA):=(.opt (qAP n x0 (1:Int) (52:Int)) fun r210=>(.ask ((!r210)) (.done (⟨#[]⟩:BA)) (.ask ((decide (x0≤(26:Int)))) (.ask (decide (1=([[(.i .u8 (IntKind.u8.wrap (IntKind.i64.wrap ((IntKind.i64.wrap ((65:Int)+x0))-(1:Int)))))]]:RW).length)) (.opt (bytesOf ([[(.i .u8 (IntKind.u8.wrap (IntKind.i64.wrap ((IntKind.i64.wrap ((65:Int)+x0))-(1:Int)))))]]:RW)) fun l211=>(.done (⟨l211.toArray⟩:BA))) .fail) (.ask (decide (2=([[(.i .u8 (IntKind.u8.wrap (IntKind.i64.wrap ((IntKind.i64.wrap ((65:Int)+(IntKind.i64.wrap (Int.tdiv (IntKind.i64.wrap (x0-(1:Int))) (26:Int)))))-(1:Int)))))],[(.i .u8 (IntKind.u8.wrap (IntKind.i64.wrap ((65:Int)+(Int.tmod (IntKind.i64.wrap (x0-(1:Int))) (26:Int))))))]]:RW).length)) (.opt (bytesOf ([[(.i .u8 (IntKind.u8.wrap (IntKind.i64.wrap ((IntKind.i64.wrap ((65:Int)+(IntKind.i64.wrap (Int.tdiv (IntKind.i64.wrap (x0-(1:Int))) (26:Int)))))-(1:Int)))))],[(.i .u8 (IntKind.u8.wrap (IntKind.i64.wrap ((65:Int)+(Int.tmod (IntKind.i64.wrap (x0-(1:Int))) (26:Int))))))]]:RW)) fun l212=>(.done (⟨l212.toArray⟩:BA))) .fail))))
def qB5:Nat→Int→Option (BA)
 |0,_=>none
 |n+1,x0=>(qDp n x0).run
abbrev qPm (n:Nat):List (Ent (Rn n)):= [en (qDE n)]
theorem qJS:∀n,Ok (Rn n) qPl (qB5 n)
 |0=>ok0 fun _=>rfl
 |n+1=>stO (T:=qDp n) (by kernel_rfl) (qPm n) [] (fun _=>(by kernel_rfl)) fun _=>(by kernel_rfl)
def qPn:Sg:=⟨262,[aS],[],⟨aI,[],[]⟩⟩
def qCo (n:Nat) (v:BA×Int):Tr ((BA×Int)⊕((Int)⊕(Unit))):=(.ask ((decide (v.2≤(52:Int)))) (.opt (qB5 n v.2) fun r210=>(.ask ((r210.toList==v.1.toList)) (.done (.inr (.inl (v.2)))) (.done (.inl (v.1,(IntKind.i64.wrap (v.2+(1:Int)))))))) (.done (.inr (.inr (())))))
def qG3 (n:Nat) (x0:BA):Tr (Int):=(.opt (zD (qCo n) n (x0,(1:Int))) fun r211=>(.alt r211 (fun r212=>(.done r212)) (fun r213=>(.done (0:Int)))))
def qE0:Nat→BA→Option (Int)
 |0,_=>none
 |n+1,x0=>(qG3 n x0).run
abbrev qKC (n:Nat):List (Ent (Rn n)):= [en (qJS n)]
def qMX (n:Nat):LEnt (KB 262) (Rn n) n:=lok (zL 262) 13 ⟨⟨[(0,aS),(3,aI)],[],[]⟩,[(.ret,⟨[(2,aI)],[],[]⟩),(.exit 0,⟨[],[],[]⟩)]⟩ (qCo n) (qKC n) [] fun _=>(by kernel_rfl)
theorem qOg:∀n,Ok (Rn n) qPn (qE0 n)
 |0=>ok0 fun _=>rfl
 |n+1=>stO (T:=qG3 n) (by kernel_rfl) (qKC n) [qMX n] (fun _=>(by kernel_rfl)) fun _=>(by kernel_rfl)
def qNR:Sg:=⟨143,[(.agg [qI,qI,qB,qB])],[],⟨aS,[],[]⟩⟩
def qDz (n:Nat) (x0 x1:Int) (x2 x3:Bool):Tr (BA):=(.opt (qBy n x0 x1) fun r220=>(.ask ((!r220)) (.done (⟨#[]⟩:BA)) (.ask (x2) (.opt (qB5 n x0) fun r221=>(.ask (decide ((⟨#[36]⟩:BA).size+r221.size≤9223372036854775807)) (.ask (x3) (.ask (decide (((⟨#[36]⟩:BA)++r221).size+(⟨#[36]⟩:BA).size≤9223372036854775807)) (.opt (qBH n x1) fun r222=>(.ask (decide ((((⟨#[36]⟩:BA)++r221)++(⟨#[36]⟩:BA)).size+r222.size≤9223372036854775807)) (.done ((((⟨#[36]⟩:BA)++r221)++(⟨#[36]⟩:BA))++r222)) .fail)) .fail) (.opt (qBH n x1) fun r223=>(.ask (decide (((⟨#[36]⟩:BA)++r221).size+r223.size≤9223372036854775807)) (.done (((⟨#[36]⟩:BA)++r221)++r223)) .fail))) .fail)) (.opt (qB5 n x0) fun r224=>(.ask (decide ((⟨#[]⟩:BA).size+r224.size≤9223372036854775807)) (.ask (x3) (.ask (decide (((⟨#[]⟩:BA)++r224).size+(⟨#[36]⟩:BA).size≤9223372036854775807)) (.opt (qBH n x1) fun r225=>(.ask (decide ((((⟨#[]⟩:BA)++r224)++(⟨#[36]⟩:BA)).size+r225.size≤9223372036854775807)) (.done ((((⟨#[]⟩:BA)++r224)++(⟨#[36]⟩:BA))++r225)) .fail)) .fail) (.opt (qBH n x1) fun r226=>(.ask (decide (((⟨#[]⟩:BA)++r224).size+r226.size≤9223372036854775807)) (.done (((⟨#[]⟩:BA)++r224)++r226)) .fail))) .fail)))))
def qBC:Nat→Int→Int→Bool→Bool→Option (BA)
 |0,_,_,_,_=>none
 |n+1,x0,x1,x2,x3=>(qDz n x0 x1 x2 x3).run
abbrev qNS (n:Nat):List (Ent (Rn n)):= [en (qFc n),en (qJS n),en (qF3 n)]
theorem qHc:∀n,Ok (Rn n) qNR (qBC n)
 |0=>ok0 fun _=>rfl
 |n+1=>stO (T:=qDz n) (by kernel_rfl) (qNS n) [] (fun _=>(by kernel_rfl)) fun _=>(by kernel_rfl)
def qNT:Sg:=⟨246,[aS],[],⟨(.tup [(true,[qI,qI,qB,qB]),(false,[qB])]),[],[]⟩⟩
def qFP (n:Nat) (x0:BA):Tr (Int×Int×Bool×Bool×Bool):=(.opt (qw n x0 (⟨#[36]⟩:BA)) fun r208=>(.opt (qBP n r208.1 (⟨#[65,66,67,68,69,70,71,72,73,74,75,76,77,78,79,80,81,82,83,84,85,86,87,88,89,90]⟩:BA)) fun r209=>(.ask (decide (0≤(0:Int)∧(0:Int)≤(IntKind.i64.wrap ((r208.1.size:Int)-(r209.size:Int)))∧(IntKind.i64.wrap ((r208.1.size:Int)-(r209.size:Int)))≤r208.1.size)) (.opt (qE0 n (r208.1.extract ((0:Int)).toNat ((IntKind.i64.wrap ((r208.1.size:Int)-(r209.size:Int)))).toNat)) fun r214=>(.ask (decide (0≤(IntKind.i64.wrap ((r208.1.size:Int)-(r209.size:Int)))∧(IntKind.i64.wrap ((r208.1.size:Int)-(r209.size:Int)))≤(r208.1.size:Int)∧(r208.1.size:Int)≤r208.1.size)) (.opt (qw n (r208.1.extract ((IntKind.i64.wrap ((r208.1.size:Int)-(r209.size:Int)))).toNat ((r208.1.size:Int)).toNat) (⟨#[36]⟩:BA)) fun r215=>(.opt (qA2 n r215.1 (10:Int) (64:Int)) fun r216=>(.alt r216 (fun r217=>(.opt (qBy n r214 r217) fun r219=>(.ask ((!r219)) (.done ((0:Int),(0:Int),false,false,false)) (.opt (qBC n r214 r217 r208.2 r215.2) fun r227=>(.ask ((!(r227.toList==x0.toList))) (.done ((0:Int),(0:Int),false,false,false)) (.done (r214,r217,r208.2,r215.2,true))))))) (fun r218=>(.opt (qBy n r214 r218) fun r228=>(.ask ((!r228)) (.done ((0:Int),(0:Int),false,false,false)) (.opt (qBC n r214 r218 r208.2 r215.2) fun r229=>(.ask ((!(r229.toList==x0.toList))) (.done ((0:Int),(0:Int),false,false,false)) (.done (r214,r218,r208.2,r215.2,true)))))))))) .fail)) .fail)))
def qAk:Nat→BA→Option (Int×Int×Bool×Bool×Bool)
 |0,_=>none
 |n+1,x0=>(qFP n x0).run
abbrev qNU (n:Nat):List (Ent (Rn n)):= [en (qB4 n),en (qEA n),en (qOg n),en2 (qEC n),en (qFc n),en (qHc n)]
theorem qHd:∀n,Ok (Rn n) qNT (qAk n)
 |0=>ok0 fun _=>rfl
 |n+1=>stO (T:=qFP n) (by kernel_rfl) (qNU n) [] (fun _=>(by kernel_rfl)) fun _=>(by kernel_rfl)
def qQj:Sg:=⟨247,[aI],[],⟨aS,[],[]⟩⟩
def qH6 (n:Nat) (x0:Int):Tr (BA):=(.ask (decide (11=([[(.s (⟨#[]⟩:BA))],[(.s (⟨#[83,85,77]⟩:BA))],[(.s (⟨#[77,73,78]⟩:BA))],[(.s (⟨#[77,65,88]⟩:BA))],[(.s (⟨#[67,79,85,78,84]⟩:BA))],[(.s (⟨#[73,70]⟩:BA))],[(.s (⟨#[65,78,68]⟩:BA))],[(.s (⟨#[79,82]⟩:BA))],[(.s (⟨#[78,79,84]⟩:BA))],[(.s (⟨#[65,66,83]⟩:BA))],[(.s (⟨#[76,69,78]⟩:BA))]]:RW).length∧0≤x0∧x0<((11:Nat):Int))) (.opt (([[(.s (⟨#[]⟩:BA))],[(.s (⟨#[83,85,77]⟩:BA))],[(.s (⟨#[77,73,78]⟩:BA))],[(.s (⟨#[77,65,88]⟩:BA))],[(.s (⟨#[67,79,85,78,84]⟩:BA))],[(.s (⟨#[73,70]⟩:BA))],[(.s (⟨#[65,78,68]⟩:BA))],[(.s (⟨#[79,82]⟩:BA))],[(.s (⟨#[78,79,84]⟩:BA))],[(.s (⟨#[65,66,83]⟩:BA))],[(.s (⟨#[76,69,78]⟩:BA))]]:RW)[(x0).toNat]?) fun e232=>(.opt (zX e232 0) fun y233=>(.done y233))) .fail)
def qCO:Nat→Int→Option (BA)
 |0,_=>none
 |n+1,x0=>(qH6 n x0).run
theorem qKD:∀n,Ok (Rn n) qQj (qCO n)
 |0=>ok0 fun _=>rfl
 |n+1=>stO (T:=qH6 n) (by kernel_rfl) [] [] (fun _=>(by kernel_rfl)) fun _=>(by kernel_rfl)
def qIv:Sg:=⟨263,[(.c (.ptr 0 0 0 0 0))],[[(0,⟨0,3,198,(.box [qS,(.own 0 1 1 0),qB])⟩),(1,⟨1,14,162,(.row [])⟩)]],⟨(.tup [(true,[qI,qI,qI,qI,qS,qI,qI,qB,qB,qI,qI,qB,qB,qL]),(false,[qB])]),[[(0,⟨0,3,198,(.box [qS,(.own 0 1 1 0),qB])⟩),(1,⟨1,14,162,(.row [])⟩)]],[]⟩⟩
def qE1 (n:Nat) (x0:BA) (x1:Nat) (x2:Bool) (x3:RW):Tr (Int×Int×Int×Int×BA×Int×Int×Bool×Bool×Int×Int×Bool×Bool×RW×Bool×BA×Nat×Bool×RW):=(.opt (qBQ n x0 x1 x2 x3) fun r235=>(.opt (qAk n r235.1) fun r236=>(.ask (r236.2.2.2.2) (.opt (qo n (⟨#[58]⟩:BA) r235.2.1 r235.2.2.1 r235.2.2.2.1 r235.2.2.2.2) fun r237=>(.ask ((!r237.1)) (.done ((0:Int),(0:Int),(0:Int),(0:Int),(⟨#[]⟩:BA),(0:Int),(0:Int),false,false,(0:Int),(0:Int),false,false,([]:RW),false,x0,r237.2.2.1,r237.2.2.2.1,r237.2.2.2.2)) (.opt (qBQ n r237.2.1 r237.2.2.1 r237.2.2.2.1 r237.2.2.2.2) fun r238=>(.opt (qAk n r238.1) fun r239=>(.ask (r238.2.2.2.1) (.done ((3:Int),(0:Int),(0:Int),(0:Int),(⟨#[]⟩:BA),r236.1,r236.2.1,r236.2.2.1,r236.2.2.2.1,r239.1,r239.2.1,r239.2.2.1,r239.2.2.2.1,([]:RW),true,r238.2.1,r238.2.2.1,true,r238.2.2.2.2)) (.done ((3:Int),(0:Int),(0:Int),(0:Int),(⟨#[]⟩:BA),r236.1,r236.2.1,r236.2.2.1,r236.2.2.2.1,r239.1,r239.2.1,r239.2.2.1,r239.2.2.2.1,([]:RW),true,r238.2.1,r238.2.2.1,(!r239.2.2.2.2),r238.2.2.2.2))))))) (.done ((0:Int),(0:Int),(0:Int),(0:Int),(⟨#[]⟩:BA),(0:Int),(0:Int),false,false,(0:Int),(0:Int),false,false,([]:RW),false,x0,r235.2.2.1,r235.2.2.2.1,r235.2.2.2.2)))))
def qDN:Nat→BA→Nat→Bool→RW→Option (Int×Int×Int×Int×BA×Int×Int×Bool×Bool×Int×Int×Bool×Bool×RW×Bool×BA×Nat×Bool×RW)
 |0,_,_,_,_=>none
 |n+1,x0,x1,x2,x3=>(qE1 n x0 x1 x2 x3).run
abbrev qIw (n:Nat):List (Ent (Rn n)):= [en (qGH n),en (qHd n),en (qCH n)]
theorem qIW:∀n,Ok (Rn n) qIv (qDN n)
 |0=>ok0 fun _=>rfl
 |n+1=>stO (T:=qE1 n) (by kernel_rfl) (qIw n) [] (fun _=>(by kernel_rfl)) fun _=>(by kernel_rfl)
def qQk:Sg:=⟨193,[aI],[],⟨aS,[],[]⟩⟩
def qH7 (n:Nat) (x0:Int):Tr (BA):=(.ask (decide (12=([[(.s (⟨#[]⟩:BA))],[(.s (⟨#[43]⟩:BA))],[(.s (⟨#[45]⟩:BA))],[(.s (⟨#[42]⟩:BA))],[(.s (⟨#[47]⟩:BA))],[(.s (⟨#[38]⟩:BA))],[(.s (⟨#[61]⟩:BA))],[(.s (⟨#[60,62]⟩:BA))],[(.s (⟨#[60]⟩:BA))],[(.s (⟨#[60,61]⟩:BA))],[(.s (⟨#[62]⟩:BA))],[(.s (⟨#[62,61]⟩:BA))]]:RW).length∧0≤x0∧x0<((12:Nat):Int))) (.opt (([[(.s (⟨#[]⟩:BA))],[(.s (⟨#[43]⟩:BA))],[(.s (⟨#[45]⟩:BA))],[(.s (⟨#[42]⟩:BA))],[(.s (⟨#[47]⟩:BA))],[(.s (⟨#[38]⟩:BA))],[(.s (⟨#[61]⟩:BA))],[(.s (⟨#[60,62]⟩:BA))],[(.s (⟨#[60]⟩:BA))],[(.s (⟨#[60,61]⟩:BA))],[(.s (⟨#[62]⟩:BA))],[(.s (⟨#[62,61]⟩:BA))]]:RW)[(x0).toNat]?) fun e266=>(.opt (zX e266 0) fun y267=>(.done y267))) .fail)
def qBX:Nat→Int→Option (BA)
 |0,_=>none
 |n+1,x0=>(qH7 n x0).run
theorem qKE:∀n,Ok (Rn n) qQk (qBX n)
 |0=>ok0 fun _=>rfl
 |n+1=>stO (T:=qH7 n) (by kernel_rfl) [] [] (fun _=>(by kernel_rfl)) fun _=>(by kernel_rfl)
def qRa:Sg:=⟨194,[aI],[],⟨aI,[],[]⟩⟩
def qIx (n:Nat) (x0:Int):Tr (Int):=(.ask ((x0==(3:Int))) (.done (4:Int)) (.ask ((x0==(4:Int))) (.done (4:Int)) (.ask ((x0==(1:Int))) (.done (3:Int)) (.ask ((x0==(2:Int))) (.done (3:Int)) (.ask ((x0==(5:Int))) (.done (2:Int)) (.done (1:Int)))))))
def qD0:Nat→Int→Option (Int)
 |0,_=>none
 |n+1,x0=>(qIx n x0).run
theorem qLU:∀n,Ok (Rn n) qRa (qD0 n)
 |0=>ok0 fun _=>rfl
 |n+1=>stO (T:=qIx n) (by kernel_rfl) [] [] (fun _=>(by kernel_rfl)) fun _=>(by kernel_rfl)
def qFi:Sg:=⟨159,[(.c (.ptr 0 0 0 0 0)),aI,aI],[[(0,⟨0,3,198,(.box [qS,(.own 0 1 1 0),qB])⟩),(1,⟨1,14,162,(.row [])⟩)]],⟨aI,[[(0,⟨0,3,198,(.box [qS,(.own 0 1 1 0),qB])⟩),(1,⟨1,14,162,(.row [])⟩)]],[]⟩⟩
def qLC:Sg:=⟨191,[(.c (.ptr 0 0 0 0 0)),aI],[[(0,⟨0,3,198,(.box [qS,(.own 0 1 1 0),qB])⟩),(1,⟨1,14,162,(.row [])⟩)]],⟨aI,[[(0,⟨0,3,198,(.box [qS,(.own 0 1 1 0),qB])⟩),(1,⟨1,14,162,(.row [])⟩)]],[]⟩⟩
def qLv:Sg:=⟨223,[(.c (.ptr 0 0 0 0 0)),aI],[[(0,⟨0,3,198,(.box [qS,(.own 0 1 1 0),qB])⟩),(1,⟨1,14,162,(.row [])⟩)]],⟨aI,[[(0,⟨0,3,198,(.box [qS,(.own 0 1 1 0),qB])⟩),(1,⟨1,14,162,(.row [])⟩)]],[]⟩⟩
def qLw:Sg:=⟨248,[(.c (.ptr 0 0 0 0 0)),aI,aI],[[(0,⟨0,3,198,(.box [qS,(.own 0 1 1 0),qB])⟩),(1,⟨1,14,162,(.row [])⟩)]],⟨aI,[[(0,⟨0,3,198,(.box [qS,(.own 0 1 1 0),qB])⟩),(1,⟨1,14,162,(.row [])⟩)]],[]⟩⟩
structure G_impl_reader_binary where
 impl_reader_binary:Int→Int→BA→Nat→Bool→RW→Option (Int×BA×Nat×Bool×RW)
 impl_reader_unary:Int→BA→Nat→Bool→RW→Option (Int×BA×Nat×Bool×RW)
 impl_reader_atom:Int→BA→Nat→Bool→RW→Option (Int×BA×Nat×Bool×RW)
 impl_reader_call:Int→Int→BA→Nat→Bool→RW→Option (Int×BA×Nat×Bool×RW)
def qBI (n:Nat) (v:Int×Int×Int×Int×Int×BA×Nat×Bool×RW):Tr ((Int×Int×Int×Int×Int×BA×Nat×Bool×RW)⊕((Int×Int×Int×Int×BA×Nat×Bool×RW))):=(.ask ((decide (v.2.2.2.2.1≤(11:Int)))) (.opt (qBr n v.2.2.2.2.2.1 v.2.2.2.2.2.2.1 v.2.2.2.2.2.2.2.1 v.2.2.2.2.2.2.2.2) fun r265=>(.opt (qBX n v.2.2.2.2.1) fun r266=>(.ask ((r265.1.toList==r266.toList)) (.done (.inl (v.1,v.2.1,v.2.2.1,v.2.2.2.2.1,(IntKind.i64.wrap (v.2.2.2.2.1+(1:Int))),r265.2.1,r265.2.2.1,r265.2.2.2.1,r265.2.2.2.2))) (.done (.inl (v.1,v.2.1,v.2.2.1,v.2.2.2.1,(IntKind.i64.wrap (v.2.2.2.2.1+(1:Int))),r265.2.1,r265.2.2.1,r265.2.2.2.1,r265.2.2.2.2)))))) (.done (.inr ((v.1,v.2.1,v.2.2.1,v.2.2.2.1,v.2.2.2.2.2.1,v.2.2.2.2.2.2.1,v.2.2.2.2.2.2.2.1,v.2.2.2.2.2.2.2.2)))))
def qDG (rec:G_impl_reader_binary) (n:Nat) (v:Int×Int×Int×BA×Nat×Bool×RW):Tr ((Int×Int×Int×BA×Nat×Bool×RW)⊕((Int×BA×Nat×Bool×RW))):=(.ask ((!v.2.2.2.2.2.1)) (.opt (zD (qBI n) n (v.1,v.2.1,v.2.2.1,(0:Int),(1:Int),v.2.2.2.1,v.2.2.2.2.1,v.2.2.2.2.2.1,v.2.2.2.2.2.2)) fun r267=>(.ask ((r267.2.2.2.1==(0:Int))) (.done (.inr ((r267.2.2.1,r267.2.2.2.2.1,r267.2.2.2.2.2.1,r267.2.2.2.2.2.2.1,r267.2.2.2.2.2.2.2)))) (.opt (qD0 n r267.2.2.2.1) fun r268=>(.ask ((decide (r268<r267.1))) (.done (.inr ((r267.2.2.1,r267.2.2.2.2.1,r267.2.2.2.2.2.1,r267.2.2.2.2.2.2.1,r267.2.2.2.2.2.2.2)))) (.opt (qBX n r267.2.2.2.1) fun r269=>(.opt (qo n r269 r267.2.2.2.2.1 r267.2.2.2.2.2.1 r267.2.2.2.2.2.2.1 r267.2.2.2.2.2.2.2) fun r270=>(.opt (qD0 n r267.2.2.2.1) fun r271=>(.opt (rec.impl_reader_binary (IntKind.i64.wrap (r271+(1:Int))) r267.2.1 r270.2.1 r270.2.2.1 r270.2.2.2.1 r270.2.2.2.2) fun r272=>(.ask (decide (2=([[(.i .i64 r267.2.2.1)],[(.i .i64 r272.1)]]:RW).length)) (.opt (qp n (5:Int) r267.2.2.2.1 (0:Int) (0:Int) (⟨#[]⟩:BA) (0:Int) (0:Int) false false (0:Int) (0:Int) false false ([[(.i .i64 r267.2.2.1)],[(.i .i64 r272.1)]]:RW) r272.2.1 r272.2.2.1 r272.2.2.2.1 r272.2.2.2.2) fun r273=>(.done (.inl (r267.1,r267.2.1,r273.1,r273.2.1,r273.2.2.1,r273.2.2.2.1,r273.2.2.2.2)))) .fail))))))))) (.done (.inr ((v.2.2.1,v.2.2.2.1,v.2.2.2.2.1,v.2.2.2.2.2.1,v.2.2.2.2.2.2)))))
def qFj (rec:G_impl_reader_binary) (n:Nat) (x0 x1:Int) (x2:BA) (x3:Nat) (x4:Bool) (x5:RW):Tr (Int×BA×Nat×Bool×RW):=(.opt (rec.impl_reader_unary x1 x2 x3 x4 x5) fun r264=>(.opt (zD (qDG rec n) n (x0,x1,r264.1,r264.2.1,r264.2.2.1,r264.2.2.2.1,r264.2.2.2.2)) fun r274=>(.done (r274.1,r274.2.1,r274.2.2.1,r274.2.2.2.1,r274.2.2.2.2))))
def qGJ (rec:G_impl_reader_binary) (n:Nat) (x0:Int) (x1:BA) (x2:Nat) (x3:Bool) (x4:RW):Tr (Int×BA×Nat×Bool×RW):=(.ask ((decide (x0>(400:Int)))) (.ask (true) (.done ((-1:Int),x1,x2,true,x4)) (.opt (qo n (⟨#[45]⟩:BA) x1 x2 true x4) fun r146=>(.ask (r146.1) (.opt (rec.impl_reader_unary (IntKind.i64.wrap (x0+(1:Int))) r146.2.1 r146.2.2.1 r146.2.2.2.1 r146.2.2.2.2) fun r147=>(.ask (decide (1=([[(.i .i64 r147.1)]]:RW).length)) (.opt (qp n (4:Int) (0:Int) (0:Int) (0:Int) (⟨#[]⟩:BA) (0:Int) (0:Int) false false (0:Int) (0:Int) false false ([[(.i .i64 r147.1)]]:RW) r147.2.1 r147.2.2.1 r147.2.2.2.1 r147.2.2.2.2) fun r148=>(.done (r148.1,r148.2.1,r148.2.2.1,r148.2.2.2.1,r148.2.2.2.2))) .fail)) (.opt (rec.impl_reader_atom x0 r146.2.1 r146.2.2.1 r146.2.2.2.1 r146.2.2.2.2) fun r259=>(.done (r259.1,r259.2.1,r259.2.2.1,r259.2.2.2.1,r259.2.2.2.2)))))) (.ask (x3) (.done ((-1:Int),x1,x2,x3,x4)) (.opt (qo n (⟨#[45]⟩:BA) x1 x2 x3 x4) fun r260=>(.ask (r260.1) (.opt (rec.impl_reader_unary (IntKind.i64.wrap (x0+(1:Int))) r260.2.1 r260.2.2.1 r260.2.2.2.1 r260.2.2.2.2) fun r261=>(.ask (decide (1=([[(.i .i64 r261.1)]]:RW).length)) (.opt (qp n (4:Int) (0:Int) (0:Int) (0:Int) (⟨#[]⟩:BA) (0:Int) (0:Int) false false (0:Int) (0:Int) false false ([[(.i .i64 r261.1)]]:RW) r261.2.1 r261.2.2.1 r261.2.2.2.1 r261.2.2.2.2) fun r262=>(.done (r262.1,r262.2.1,r262.2.2.1,r262.2.2.2.1,r262.2.2.2.2))) .fail)) (.opt (rec.impl_reader_atom x0 r260.2.1 r260.2.2.1 r260.2.2.2.1 r260.2.2.2.2) fun r263=>(.done (r263.1,r263.2.1,r263.2.2.1,r263.2.2.2.1,r263.2.2.2.2)))))))
def qCL (n:Nat) (v:Int×Int×BA×Nat×Bool×RW):Tr ((Int×Int×BA×Nat×Bool×RW)⊕((Int×BA×Nat×Bool×RW)⊕(Int×BA×Nat×Bool×RW))):=(.ask ((decide (v.2.1≤(5:Int)))) (.opt (qAj n v.2.1) fun r160=>(.opt (qw n v.2.2.1 r160) fun r161=>(.ask (r161.2) (.opt (qBz n v.2.1) fun r162=>(.opt (qj n r162.1 r162.2.1 r162.2.2 r161.1 v.2.2.2.1 v.2.2.2.2.1 v.2.2.2.2.2) fun r163=>(.done (.inr (.inl ((r163.1,r163.2.1,r163.2.2.1,r163.2.2.2.1,r163.2.2.2.2))))))) (.done (.inl (v.1,(IntKind.i64.wrap (v.2.1+(1:Int))),v.2.2.1,v.2.2.2.1,v.2.2.2.2.1,v.2.2.2.2.2)))))) (.done (.inr (.inr ((v.1,v.2.2.1,v.2.2.2.1,v.2.2.2.2.1,v.2.2.2.2.2))))))
def qAo (rec:G_impl_reader_binary) (n:Nat) (v:Int×BA×Int×BA×Nat×Bool×RW):Tr ((Int×BA×Int×BA×Nat×Bool×RW)⊕((Int×BA×Nat×Bool×RW)⊕(BA×Nat×Bool×RW))):=(.ask ((decide (v.2.2.1≤(10:Int)))) (.opt (qCO n v.2.2.1) fun r232=>(.ask ((v.2.1.toList==r232.toList)) (.opt (rec.impl_reader_call v.2.2.1 v.1 v.2.2.2.1 v.2.2.2.2.1 v.2.2.2.2.2.1 v.2.2.2.2.2.2) fun r233=>(.done (.inr (.inl ((r233.1,r233.2.1,r233.2.2.1,r233.2.2.2.1,r233.2.2.2.2)))))) (.done (.inl (v.1,v.2.1,(IntKind.i64.wrap (v.2.2.1+(1:Int))),v.2.2.2.1,v.2.2.2.2.1,v.2.2.2.2.2.1,v.2.2.2.2.2.2))))) (.done (.inr (.inr ((v.2.2.2.1,v.2.2.2.2.1,v.2.2.2.2.2.1,v.2.2.2.2.2.2))))))
def qG4 (rec:G_impl_reader_binary) (n:Nat) (x0:Int) (x1:BA) (x2:Nat) (x3:Bool) (x4:RW):Tr (Int×BA×Nat×Bool×RW):=(.opt (qA1 n x1 x2 x3 x4) fun r149=>(.opt (ql n r149.1 (⟨#[34]⟩:BA)) fun r150=>(.ask (r150) (.opt (qDo n r149.1 r149.2.1 r149.2.2.1 r149.2.2.2) fun r158=>(.done (r158.1,r158.2.1,r158.2.2.1,r158.2.2.2.1,r158.2.2.2.2))) (.opt (ql n r149.1 (⟨#[35]⟩:BA)) fun r159=>(.ask (r159) (.opt (zD (qCL n) n (x0,(1:Int),r149.1,r149.2.1,r149.2.2.1,r149.2.2.2)) fun r164=>(.alt r164 (fun r165=>(.done (r165.1,r165.2.1,r165.2.2.1,r165.2.2.2.1,r165.2.2.2.2))) (fun r166=>(.opt (qBQ n r166.2.1 r166.2.2.1 r166.2.2.2.1 r166.2.2.2.2) fun r169=>(.opt (qe n r169.1) fun r205=>(.ask (r205.2.2.2) (.ask ((r205.1==(1:Int))) (.opt (qj n r205.1 r205.2.1 r205.2.2.1 r169.2.1 r169.2.2.1 r169.2.2.2.1 r169.2.2.2.2) fun r206=>(.done (r206.1,r206.2.1,r206.2.2.1,r206.2.2.2.1,r206.2.2.2.2))) (.ask ((r205.1==(3:Int))) (.opt (qj n r205.1 r205.2.1 r205.2.2.1 r169.2.1 r169.2.2.1 r169.2.2.2.1 r169.2.2.2.2) fun r207=>(.done (r207.1,r207.2.1,r207.2.2.1,r207.2.2.2.1,r207.2.2.2.2))) (.opt (qAk n r169.1) fun r230=>(.ask (r230.2.2.2.2) (.opt (qp n (2:Int) (0:Int) (0:Int) (0:Int) (⟨#[]⟩:BA) r230.1 r230.2.1 r230.2.2.1 r230.2.2.2.1 (0:Int) (0:Int) false false ([]:RW) r169.2.1 r169.2.2.1 r169.2.2.2.1 r169.2.2.2.2) fun r231=>(.done (r231.1,r231.2.1,r231.2.2.1,r231.2.2.2.1,r231.2.2.2.2))) (.opt (zD (qAo rec n) n (r166.1,r169.1,(1:Int),r169.2.1,r169.2.2.1,r169.2.2.2.1,r169.2.2.2.2)) fun r234=>(.alt r234 (fun r235=>(.done (r235.1,r235.2.1,r235.2.2.1,r235.2.2.2.1,r235.2.2.2.2))) (fun r236=>(.done ((-1:Int),r236.1,r236.2.1,true,r236.2.2.2))))))))) (.opt (qAk n r169.1) fun r237=>(.ask (r237.2.2.2.2) (.opt (qp n (2:Int) (0:Int) (0:Int) (0:Int) (⟨#[]⟩:BA) r237.1 r237.2.1 r237.2.2.1 r237.2.2.2.1 (0:Int) (0:Int) false false ([]:RW) r169.2.1 r169.2.2.1 r169.2.2.2.1 r169.2.2.2.2) fun r238=>(.done (r238.1,r238.2.1,r238.2.2.1,r238.2.2.2.1,r238.2.2.2.2))) (.opt (zD (qAo rec n) n (r166.1,r169.1,(1:Int),r169.2.1,r169.2.2.1,r169.2.2.2.1,r169.2.2.2.2)) fun r239=>(.alt r239 (fun r240=>(.done (r240.1,r240.2.1,r240.2.2.1,r240.2.2.2.1,r240.2.2.2.2))) (fun r241=>(.done ((-1:Int),r241.1,r241.2.1,true,r241.2.2.2))))))))))))) (.opt (qo n (⟨#[40]⟩:BA) r149.1 r149.2.1 r149.2.2.1 r149.2.2.2) fun r242=>(.ask (r242.1) (.opt (rec.impl_reader_binary (1:Int) (IntKind.i64.wrap (x0+(1:Int))) r242.2.1 r242.2.2.1 r242.2.2.2.1 r242.2.2.2.2) fun r243=>(.ask (r243.2.2.2.1) (.done (r243.1,r243.2.1,r243.2.2.1,true,r243.2.2.2.2)) (.opt (qo n (⟨#[41]⟩:BA) r243.2.1 r243.2.2.1 r243.2.2.2.1 r243.2.2.2.2) fun r244=>(.done (r243.1,r244.2.1,r244.2.2.1,(!r244.1),r244.2.2.2.2))))) (.opt (qBQ n r242.2.1 r242.2.2.1 r242.2.2.2.1 r242.2.2.2.2) fun r245=>(.opt (qe n r245.1) fun r246=>(.ask (r246.2.2.2) (.ask ((r246.1==(1:Int))) (.opt (qj n r246.1 r246.2.1 r246.2.2.1 r245.2.1 r245.2.2.1 r245.2.2.2.1 r245.2.2.2.2) fun r247=>(.done (r247.1,r247.2.1,r247.2.2.1,r247.2.2.2.1,r247.2.2.2.2))) (.ask ((r246.1==(3:Int))) (.opt (qj n r246.1 r246.2.1 r246.2.2.1 r245.2.1 r245.2.2.1 r245.2.2.2.1 r245.2.2.2.2) fun r248=>(.done (r248.1,r248.2.1,r248.2.2.1,r248.2.2.2.1,r248.2.2.2.2))) (.opt (qAk n r245.1) fun r249=>(.ask (r249.2.2.2.2) (.opt (qp n (2:Int) (0:Int) (0:Int) (0:Int) (⟨#[]⟩:BA) r249.1 r249.2.1 r249.2.2.1 r249.2.2.2.1 (0:Int) (0:Int) false false ([]:RW) r245.2.1 r245.2.2.1 r245.2.2.2.1 r245.2.2.2.2) fun r250=>(.done (r250.1,r250.2.1,r250.2.2.1,r250.2.2.2.1,r250.2.2.2.2))) (.opt (zD (qAo rec n) n (x0,r245.1,(1:Int),r245.2.1,r245.2.2.1,r245.2.2.2.1,r245.2.2.2.2)) fun r251=>(.alt r251 (fun r252=>(.done (r252.1,r252.2.1,r252.2.2.1,r252.2.2.2.1,r252.2.2.2.2))) (fun r253=>(.done ((-1:Int),r253.1,r253.2.1,true,r253.2.2.2))))))))) (.opt (qAk n r245.1) fun r254=>(.ask (r254.2.2.2.2) (.opt (qp n (2:Int) (0:Int) (0:Int) (0:Int) (⟨#[]⟩:BA) r254.1 r254.2.1 r254.2.2.1 r254.2.2.2.1 (0:Int) (0:Int) false false ([]:RW) r245.2.1 r245.2.2.1 r245.2.2.2.1 r245.2.2.2.2) fun r255=>(.done (r255.1,r255.2.1,r255.2.2.1,r255.2.2.2.1,r255.2.2.2.2))) (.opt (zD (qAo rec n) n (x0,r245.1,(1:Int),r245.2.1,r245.2.2.1,r245.2.2.2.1,r245.2.2.2.2)) fun r256=>(.alt r256 (fun r257=>(.done (r257.1,r257.2.1,r257.2.2.1,r257.2.2.2.1,r257.2.2.2.2))) (fun r258=>(.done ((-1:Int),r258.1,r258.2.1,true,r258.2.2.2)))))))))))))))))
def qCb (rec:G_impl_reader_binary) (n:Nat) (v:Int×Int×Nat×RW×BA×Nat×Bool×RW):Tr ((Int×Int×Nat×RW×BA×Nat×Bool×RW)⊕((Int×Nat×RW×BA×Nat×Bool×RW))):=(.ask ((!v.2.2.2.2.2.2.1)) (.opt (qDN n v.2.2.2.2.1 v.2.2.2.2.2.1 v.2.2.2.2.2.2.1 v.2.2.2.2.2.2.2) fun r235=>(.ask (r235.2.2.2.2.2.2.2.2.2.2.2.2.2.2.1) (.opt (qp n r235.1 r235.2.1 r235.2.2.1 r235.2.2.2.1 r235.2.2.2.2.1 r235.2.2.2.2.2.1 r235.2.2.2.2.2.2.1 r235.2.2.2.2.2.2.2.1 r235.2.2.2.2.2.2.2.2.1 r235.2.2.2.2.2.2.2.2.2.1 r235.2.2.2.2.2.2.2.2.2.2.1 r235.2.2.2.2.2.2.2.2.2.2.2.1 r235.2.2.2.2.2.2.2.2.2.2.2.2.1 r235.2.2.2.2.2.2.2.2.2.2.2.2.2.1 r235.2.2.2.2.2.2.2.2.2.2.2.2.2.2.2.1 r235.2.2.2.2.2.2.2.2.2.2.2.2.2.2.2.2.1 r235.2.2.2.2.2.2.2.2.2.2.2.2.2.2.2.2.2.1 r235.2.2.2.2.2.2.2.2.2.2.2.2.2.2.2.2.2.2) fun r236=>(.ask (decide (1=([[(.i .i64 r236.1)]]:RW).length)) (.ask (decide (v.2.2.1=v.2.2.2.1.length∧0<1∧0<8∧(v.2.2.1+([[(.i .i64 r236.1)]]:RW).length)*8≤140737488355328∧([[(.i .i64 r236.1)]]:RW).all (fun e=>e.length==1)=true)) (.opt (qo n (⟨#[44]⟩:BA) r236.2.1 r236.2.2.1 r236.2.2.2.1 r236.2.2.2.2) fun r237=>(.ask ((!r237.1)) (.ask (r237.2.2.2.1) (.done (.inr ((v.1,(v.2.2.1+1),(v.2.2.2.1++([[(.i .i64 r236.1)]]:RW)),r237.2.1,r237.2.2.1,true,r237.2.2.2.2)))) (.opt (qo n (⟨#[41]⟩:BA) r237.2.1 r237.2.2.1 r237.2.2.2.1 r237.2.2.2.2) fun r238=>(.done (.inr ((v.1,(v.2.2.1+1),(v.2.2.2.1++([[(.i .i64 r236.1)]]:RW)),r238.2.1,r238.2.2.1,(!r238.1),r238.2.2.2.2)))))) (.done (.inl (v.1,v.2.1,(v.2.2.1+1),(v.2.2.2.1++([[(.i .i64 r236.1)]]:RW)),r237.2.1,r237.2.2.1,r237.2.2.2.1,r237.2.2.2.2))))) .fail) .fail)) (.opt (rec.impl_reader_binary (1:Int) (IntKind.i64.wrap (v.2.1+(1:Int))) r235.2.2.2.2.2.2.2.2.2.2.2.2.2.2.2.1 r235.2.2.2.2.2.2.2.2.2.2.2.2.2.2.2.2.1 r235.2.2.2.2.2.2.2.2.2.2.2.2.2.2.2.2.2.1 r235.2.2.2.2.2.2.2.2.2.2.2.2.2.2.2.2.2.2) fun r239=>(.ask (decide (1=([[(.i .i64 r239.1)]]:RW).length)) (.ask (decide (v.2.2.1=v.2.2.2.1.length∧0<1∧0<8∧(v.2.2.1+([[(.i .i64 r239.1)]]:RW).length)*8≤140737488355328∧([[(.i .i64 r239.1)]]:RW).all (fun e=>e.length==1)=true)) (.opt (qo n (⟨#[44]⟩:BA) r239.2.1 r239.2.2.1 r239.2.2.2.1 r239.2.2.2.2) fun r240=>(.ask ((!r240.1)) (.ask (r240.2.2.2.1) (.done (.inr ((v.1,(v.2.2.1+1),(v.2.2.2.1++([[(.i .i64 r239.1)]]:RW)),r240.2.1,r240.2.2.1,true,r240.2.2.2.2)))) (.opt (qo n (⟨#[41]⟩:BA) r240.2.1 r240.2.2.1 r240.2.2.2.1 r240.2.2.2.2) fun r241=>(.done (.inr ((v.1,(v.2.2.1+1),(v.2.2.2.1++([[(.i .i64 r239.1)]]:RW)),r241.2.1,r241.2.2.1,(!r241.1),r241.2.2.2.2)))))) (.done (.inl (v.1,v.2.1,(v.2.2.1+1),(v.2.2.2.1++([[(.i .i64 r239.1)]]:RW)),r240.2.1,r240.2.2.1,r240.2.2.2.1,r240.2.2.2.2))))) .fail) .fail)))) (.done (.inr ((v.1,v.2.2.1,v.2.2.2.1,v.2.2.2.2.1,v.2.2.2.2.2.1,v.2.2.2.2.2.2.1,v.2.2.2.2.2.2.2)))))
def qG5 (rec:G_impl_reader_binary) (n:Nat) (x0 x1:Int) (x2:BA) (x3:Nat) (x4:Bool) (x5:RW):Tr (Int×BA×Nat×Bool×RW):=(.ask (x4) (.opt (zD (qCb rec n) n (x0,x1,(0:Nat),([]:RW),x2,x3,true,x5)) fun r242=>(.ask (decide (r242.2.1=r242.2.2.1.length)) (.opt (qp n (6:Int) r242.1 (0:Int) (0:Int) (⟨#[]⟩:BA) (0:Int) (0:Int) false false (0:Int) (0:Int) false false r242.2.2.1 r242.2.2.2.1 r242.2.2.2.2.1 r242.2.2.2.2.2.1 r242.2.2.2.2.2.2) fun r243=>(.done (r243.1,r243.2.1,r243.2.2.1,r243.2.2.2.1,r243.2.2.2.2))) .fail)) (.opt (qo n (⟨#[40]⟩:BA) x2 x3 x4 x5) fun r244=>(.opt (zD (qCb rec n) n (x0,x1,(0:Nat),([]:RW),r244.2.1,r244.2.2.1,(!r244.1),r244.2.2.2.2)) fun r245=>(.ask (decide (r245.2.1=r245.2.2.1.length)) (.opt (qp n (6:Int) r245.1 (0:Int) (0:Int) (⟨#[]⟩:BA) (0:Int) (0:Int) false false (0:Int) (0:Int) false false r245.2.2.1 r245.2.2.2.1 r245.2.2.2.2.1 r245.2.2.2.2.2.1 r245.2.2.2.2.2.2) fun r246=>(.done (r246.1,r246.2.1,r246.2.2.1,r246.2.2.2.1,r246.2.2.2.2))) .fail))))
def qT:Nat→G_impl_reader_binary
 |0=>⟨fun _ _ _ _ _ _=>none,fun _ _ _ _ _=>none,fun _ _ _ _ _=>none,fun _ _ _ _ _ _=>none⟩
 |n+1=>⟨fun x0 x1 x2 x3 x4 x5=>(qFj (qT n) n x0 x1 x2 x3 x4 x5).run,fun x0 x1 x2 x3 x4=>(qGJ (qT n) n x0 x1 x2 x3 x4).run,fun x0 x1 x2 x3 x4=>(qG4 (qT n) n x0 x1 x2 x3 x4).run,fun x0 x1 x2 x3 x4 x5=>(qG5 (qT n) n x0 x1 x2 x3 x4 x5).run⟩
def qCp (n:Nat) (x0 x1:Int) (x2:BA) (x3:Nat) (x4:Bool) (x5:RW):Option (Int×BA×Nat×Bool×RW):=(qT n).impl_reader_binary x0 x1 x2 x3 x4 x5
def qGK (n:Nat) (x0:Int) (x1:BA) (x2:Nat) (x3:Bool) (x4:RW):Option (Int×BA×Nat×Bool×RW):=(qT n).impl_reader_unary x0 x1 x2 x3 x4
def qG6 (n:Nat) (x0:Int) (x1:BA) (x2:Nat) (x3:Bool) (x4:RW):Option (Int×BA×Nat×Bool×RW):=(qT n).impl_reader_atom x0 x1 x2 x3 x4
def qCW (n:Nat) (x0 x1:Int) (x2:BA) (x3:Nat) (x4:Bool) (x5:RW):Option (Int×BA×Nat×Bool×RW):=(qT n).impl_reader_call x0 x1 x2 x3 x4 x5
def qAE (n:Nat):Prop:=
 Ok (Rn n) qFi (qCp n)∧
 Ok (Rn n) qLC (qGK n)∧
 Ok (Rn n) qLv (qG6 n)∧
 Ok (Rn n) qLw (qCW n)
abbrev qDq (n:Nat) (ih:qAE n):List (Ent (Rn n)):= [en ih.2.1,en (qGG n),en (qKE n),en (qLU n),en (qCH n),en ih.1,en (qCV n)]
def qH8 (n:Nat) (ih:qAE n):LEnt (lb 14 (KB 159)) (Rn n) n:=lok (Uniq.pick (zL 159) 14) 237 ⟨⟨[(0,(.c (.ptr 0 0 0 0 0))),(1,aI),(2,aI),(7,aI),(8,aI),(9,aI)],[],[[(0,⟨0,3,198,(.box [qS,(.own 0 1 1 0),qB])⟩),(1,⟨1,14,162,(.row [])⟩)]]⟩,[(.exit 2,⟨[(0,(.c (.ptr 0 0 0 0 0))),(1,aI),(2,aI),(7,aI),(8,aI)],[],[[(0,⟨0,3,198,(.box [qS,(.own 0 1 1 0),qB])⟩),(1,⟨1,14,162,(.row [])⟩)]]⟩)]⟩ (qBI n) (qDq n ih) [] fun _=>(by kernel_rfl)
def qIX (n:Nat) (ih:qAE n):LEnt (KB 159) (Rn n) n:=lok (zL 159) 14 ⟨⟨[(0,(.c (.ptr 0 0 0 0 0))),(1,aI),(2,aI),(7,aI)],[],[[(0,⟨0,3,198,(.box [qS,(.own 0 1 1 0),qB])⟩),(1,⟨1,14,162,(.row [])⟩)]]⟩,[(.exit 0,⟨[(7,aI)],[],[[(0,⟨0,3,198,(.box [qS,(.own 0 1 1 0),qB])⟩),(1,⟨1,14,162,(.row [])⟩)]]⟩)]⟩ (qDG (qT n) n) (qDq n ih) [qH8 n ih] fun _=>(by kernel_rfl)
abbrev qLD (n:Nat) (ih:qAE n):List (Ent (Rn n)):= [en (qCH n),en ih.2.1,en (qCV n),en ih.2.2.1]
abbrev qEV (n:Nat) (ih:qAE n):List (Ent (Rn n)):= [en (qCZ n),en (qCn n),en (qJf n),en (qEy n),en (qB4 n),en (qLT n),en (qEd n),en (qGH n),en (qHb n),en (qHd n),en (qCV n),en (qKD n),en ih.2.2.2,en (qCH n),en ih.1]
def qIy (n:Nat) (ih:qAE n):LEnt (KB 223) (Rn n) n:=lok (zL 223) 477 ⟨⟨[(0,(.c (.ptr 0 0 0 0 0))),(1,aI),(5,aI)],[],[[(0,⟨0,3,198,(.box [qS,(.own 0 1 1 0),qB])⟩),(1,⟨1,14,162,(.row [])⟩)]]⟩,[(.ret,⟨[(4,aI)],[],[[(0,⟨0,3,198,(.box [qS,(.own 0 1 1 0),qB])⟩),(1,⟨1,14,162,(.row [])⟩)]]⟩),(.exit 1,⟨[(0,(.c (.ptr 0 0 0 0 0))),(1,aI)],[],[[(0,⟨0,3,198,(.box [qS,(.own 0 1 1 0),qB])⟩),(1,⟨1,14,162,(.row [])⟩)]]⟩)]⟩ (qCL n) (qEV n ih) [] fun _=>(by kernel_rfl)
def qIz (n:Nat) (ih:qAE n):LEnt (KB 223) (Rn n) n:=lok (zL 223) 509 ⟨⟨[(0,(.c (.ptr 0 0 0 0 0))),(1,aI),(9,aS),(14,aI)],[],[[(0,⟨0,3,198,(.box [qS,(.own 0 1 1 0),qB])⟩),(1,⟨1,14,162,(.row [])⟩)]]⟩,[(.ret,⟨[(4,aI)],[],[[(0,⟨0,3,198,(.box [qS,(.own 0 1 1 0),qB])⟩),(1,⟨1,14,162,(.row [])⟩)]]⟩),(.exit 3,⟨[(0,(.c (.ptr 0 0 0 0 0)))],[],[[(0,⟨0,3,198,(.box [qS,(.own 0 1 1 0),qB])⟩),(1,⟨1,14,162,(.row [])⟩)]]⟩)]⟩ (qAo (qT n) n) (qEV n ih) [] fun _=>(by kernel_rfl)
abbrev qG7 (n:Nat) (ih:qAE n):List (Ent (Rn n)):= [en (qIW n),en (qCV n),en (qCH n),en ih.1]
def qJh (n:Nat) (ih:qAE n):LEnt (KB 248) (Rn n) n:=lok (zL 248) 30 ⟨⟨[(0,(.c (.ptr 0 0 0 0 0))),(1,aI),(2,aI),(7,(.c (.own 1 640 0 0)))],[(640,⟨0,1,2,(.row [])⟩)],[[(0,⟨0,3,198,(.box [qS,(.own 0 1 1 0),qB])⟩),(1,⟨1,14,162,(.row [])⟩)]]⟩,[(.exit 0,⟨[(0,(.c (.ptr 0 0 0 0 0))),(1,aI),(7,(.c (.own 1 640 0 0)))],[(640,⟨0,1,2,(.row [])⟩)],[[(0,⟨0,3,198,(.box [qS,(.own 0 1 1 0),qB])⟩),(1,⟨1,14,162,(.row [])⟩)]]⟩)]⟩ (qCb (qT n) n) (qG7 n ih) [] fun _=>(by kernel_rfl)
theorem qAN:∀n,qAE n
 |0=>⟨ok0 fun _=>rfl,ok0 fun _=>rfl,ok0 fun _=>rfl,ok0 fun _=>rfl⟩
 |n+1=>⟨stO (T:=qFj (qT n) n) (by kernel_rfl) (qDq n (qAN n)) [qIX n (qAN n)] (fun _=>(by kernel_rfl)) fun _=>(by kernel_rfl),stO (T:=qGJ (qT n) n) (by kernel_rfl) (qLD n (qAN n)) [] (fun _=>(by kernel_rfl)) fun _=>(by kernel_rfl),stO (T:=qG4 (qT n) n) (by kernel_rfl) (qEV n (qAN n)) [qIy n (qAN n),qIz n (qAN n)] (fun _=>(by kernel_rfl)) fun _=>(by kernel_rfl),stO (T:=qG5 (qT n) n) (by kernel_rfl) (qG7 n (qAN n)) [qJh n (qAN n)] (fun _=>(by kernel_rfl)) fun _=>(by kernel_rfl)⟩
theorem qJi (n:Nat):Ok (Rn n) qFi (qCp n):=(qAN n).1
def qMY:Sg:=⟨120,[(.agg [qI,qI,qI,qI,qS,qI,qI,qB,qB,qI,qI,qB,qB,qL])],[],⟨(.agg [qI,qI,qI,qI]),[],[]⟩⟩
def qDh (n:Nat) (x0 x1 x2 x3:Int) (x4:BA) (x5 x6:Int) (x7 x8:Bool) (x9 x10:Int) (x11 x12:Bool) (x13:RW):Tr (Int×Int×Int×Int):=(.ask ((x0==(2:Int))) (.done (x5,x6,x5,x6)) (.done (x5,x6,x9,x10)))
def qBF:Nat→Int→Int→Int→Int→BA→Int→Int→Bool→Bool→Int→Int→Bool→Bool→RW→Option (Int×Int×Int×Int)
 |0,_,_,_,_,_,_,_,_,_,_,_,_,_,_=>none
 |n+1,x0,x1,x2,x3,x4,x5,x6,x7,x8,x9,x10,x11,x12,x13=>(qDh n x0 x1 x2 x3 x4 x5 x6 x7 x8 x9 x10 x11 x12 x13).run
theorem qG8:∀n,Ok (Rn n) qMY (qBF n)
 |0=>ok0 fun _=>rfl
 |n+1=>stO (T:=qDh n) (by kernel_rfl) [] [] (fun _=>(by kernel_rfl)) fun _=>(by kernel_rfl)
def qQl:Sg:=⟨264,[(.agg [qI,qI,qI,qI])],[],⟨aB,[],[]⟩⟩
def qH9 (n:Nat) (x0 x1 x2 x3:Int):Tr (Bool):=(.opt (qBy n x0 x1) fun r297=>(.ask (r297) (.opt (qBy n x2 x3) fun r298=>(.ask (r298) (.ask ((decide (x0≤x2))) (.done (decide (x1≤x3))) (.done false)) (.done false))) (.done false)))
def qEI:Nat→Int→Int→Int→Int→Option (Bool)
 |0,_,_,_,_=>none
 |n+1,x0,x1,x2,x3=>(qH9 n x0 x1 x2 x3).run
abbrev qQm (n:Nat):List (Ent (Rn n)):= [en (qFc n)]
theorem qPo:∀n,Ok (Rn n) qQl (qEI n)
 |0=>ok0 fun _=>rfl
 |n+1=>stO (T:=qH9 n) (by kernel_rfl) (qQm n) [] (fun _=>(by kernel_rfl)) fun _=>(by kernel_rfl)
def qJj:Sg:=⟨249,[(.agg [qI,qI,qI,qI,qS,qI,qI,qB,qB,qI,qI,qB,qB,qL])],[],⟨aB,[],[]⟩⟩
def qDf (n:Nat) (x0 x1 x2 x3:Int) (x4:BA) (x5 x6:Int) (x7 x8:Bool) (x9 x10:Int) (x11 x12:Bool) (x13:RW):Tr (Bool):=(.ask ((x0 !=(2:Int))) (.ask ((x0 !=(3:Int))) (.done true) (.opt (qBF n x0 x1 x2 x3 x4 x5 x6 x7 x8 x9 x10 x11 x12 x13) fun r296=>(.opt (qEI n r296.1 r296.2.1 r296.2.2.1 r296.2.2.2) fun r299=>(.done r299)))) (.opt (qBF n x0 x1 x2 x3 x4 x5 x6 x7 x8 x9 x10 x11 x12 x13) fun r300=>(.opt (qEI n r300.1 r300.2.1 r300.2.2.1 r300.2.2.2) fun r301=>(.done r301))))
def qAF:Nat→Int→Int→Int→Int→BA→Int→Int→Bool→Bool→Int→Int→Bool→Bool→RW→Option (Bool)
 |0,_,_,_,_,_,_,_,_,_,_,_,_,_,_=>none
 |n+1,x0,x1,x2,x3,x4,x5,x6,x7,x8,x9,x10,x11,x12,x13=>(qDf n x0 x1 x2 x3 x4 x5 x6 x7 x8 x9 x10 x11 x12 x13).run
abbrev qJk (n:Nat):List (Ent (Rn n)):= [en (qG8 n),en (qPo n)]
theorem qI0:∀n,Ok (Rn n) qJj (qAF n)
 |0=>ok0 fun _=>rfl
 |n+1=>stO (T:=qDf n) (by kernel_rfl) (qJk n) [] (fun _=>(by kernel_rfl)) fun _=>(by kernel_rfl)
def qLE:Sg:=⟨250,[(.agg [qI,qI,qI,qI,qS,qI,qI,qB,qB,qI,qI,qB,qB,qL])],[],⟨aB,[],[]⟩⟩
def qED (n:Nat) (x0 x1 x2 x3:Int) (x4:BA) (x5 x6:Int) (x7 x8:Bool) (x9 x10:Int) (x11 x12:Bool) (x13:RW):Tr (Bool):=(.ask ((x0==(4:Int))) (.ask ((x1==(0:Int))) (.done ((x13.length:Int)==(1:Int))) (.done false)) (.ask ((x0==(5:Int))) (.opt (qAP n x1 (1:Int) (11:Int)) fun r303=>(.ask (r303) (.done ((x13.length:Int)==(2:Int))) (.done false))) (.ask ((x0==(6:Int))) (.opt (qAP n x1 (1:Int) (10:Int)) fun r304=>(.ask ((!r304)) (.done false) (.ask ((x1==(5:Int))) (.opt (qAP n (x13.length:Int) (2:Int) (3:Int)) fun r305=>(.done r305)) (.ask ((decide (x1≥(8:Int)))) (.done ((x13.length:Int)==(1:Int))) (.opt (qAP n (x13.length:Int) (1:Int) (10:Int)) fun r306=>(.done r306)))))) (.ask ((x1==(0:Int))) (.done ((x13.length:Int)==(0:Int))) (.done false)))))
def qAQ:Nat→Int→Int→Int→Int→BA→Int→Int→Bool→Bool→Int→Int→Bool→Bool→RW→Option (Bool)
 |0,_,_,_,_,_,_,_,_,_,_,_,_,_,_=>none
 |n+1,x0,x1,x2,x3,x4,x5,x6,x7,x8,x9,x10,x11,x12,x13=>(qED n x0 x1 x2 x3 x4 x5 x6 x7 x8 x9 x10 x11 x12 x13).run
abbrev qLF (n:Nat):List (Ent (Rn n)):= [en (qDE n)]
theorem qKF:∀n,Ok (Rn n) qLE (qAQ n)
 |0=>ok0 fun _=>rfl
 |n+1=>stO (T:=qED n) (by kernel_rfl) (qLF n) [] (fun _=>(by kernel_rfl)) fun _=>(by kernel_rfl)
def qLx:Sg:=⟨224,[(.agg [qI,qI,qI,qI,qS,qI,qI,qB,qB,qI,qI,qB,qB,qL])],[],⟨aB,[],[]⟩⟩
def qEW (n:Nat) (x0 x1 x2 x3:Int) (x4:BA) (x5 x6:Int) (x7 x8:Bool) (x9 x10:Int) (x11 x12:Bool) (x13:RW):Tr (Bool):=(.ask ((x0==(1:Int))) (.opt (qAV n x2 x3 x4) fun r295=>(.ask ((!r295)) (.done false) (.ask ((x2==(0:Int))) (.done false) (.ask ((x2==(1:Int))) (.ask ((decide (x3<(0:Int)))) (.done false) (.opt (qAF n x0 x1 x2 x3 x4 x5 x6 x7 x8 x9 x10 x11 x12 x13) fun r302=>(.ask (r302) (.opt (qAQ n x0 x1 x2 x3 x4 x5 x6 x7 x8 x9 x10 x11 x12 x13) fun r307=>(.ask (r307) (.ask (((x2==x2)&&((x3==x3)&&((x4.toList==x4.toList)&&true)))) (.ask ((((0:Int)==x5)&&(((0:Int)==x6)&&((false==x7)&&((false==x8)&&true))))) (.done (((0:Int)==x9)&&(((0:Int)==x10)&&((false==x11)&&((false==x12)&&true))))) (.done false)) (.done false)) (.done false))) (.done false)))) (.opt (qAF n x0 x1 x2 x3 x4 x5 x6 x7 x8 x9 x10 x11 x12 x13) fun r308=>(.ask (r308) (.opt (qAQ n x0 x1 x2 x3 x4 x5 x6 x7 x8 x9 x10 x11 x12 x13) fun r309=>(.ask (r309) (.ask (((x2==x2)&&((x3==x3)&&((x4.toList==x4.toList)&&true)))) (.ask ((((0:Int)==x5)&&(((0:Int)==x6)&&((false==x7)&&((false==x8)&&true))))) (.done (((0:Int)==x9)&&(((0:Int)==x10)&&((false==x11)&&((false==x12)&&true))))) (.done false)) (.done false)) (.done false))) (.done false))))))) (.ask ((x0==(2:Int))) (.opt (qAF n x0 x1 x2 x3 x4 x5 x6 x7 x8 x9 x10 x11 x12 x13) fun r310=>(.ask (r310) (.opt (qAQ n x0 x1 x2 x3 x4 x5 x6 x7 x8 x9 x10 x11 x12 x13) fun r311=>(.ask (r311) (.ask ((((0:Int)==x2)&&(((0:Int)==x3)&&(((⟨#[]⟩:BA).toList==x4.toList)&&true)))) (.ask (((x5==x5)&&((x6==x6)&&((x7==x7)&&((x8==x8)&&true))))) (.done (((0:Int)==x9)&&(((0:Int)==x10)&&((false==x11)&&((false==x12)&&true))))) (.done false)) (.done false)) (.done false))) (.done false))) (.ask ((x0==(3:Int))) (.opt (qAF n x0 x1 x2 x3 x4 x5 x6 x7 x8 x9 x10 x11 x12 x13) fun r312=>(.ask (r312) (.opt (qAQ n x0 x1 x2 x3 x4 x5 x6 x7 x8 x9 x10 x11 x12 x13) fun r313=>(.ask (r313) (.ask ((((0:Int)==x2)&&(((0:Int)==x3)&&(((⟨#[]⟩:BA).toList==x4.toList)&&true)))) (.ask (((x5==x5)&&((x6==x6)&&((x7==x7)&&((x8==x8)&&true))))) (.done ((x9==x9)&&((x10==x10)&&((x11==x11)&&((x12==x12)&&true))))) (.done false)) (.done false)) (.done false))) (.done false))) (.ask ((x0==(4:Int))) (.opt (qAF n x0 x1 x2 x3 x4 x5 x6 x7 x8 x9 x10 x11 x12 x13) fun r314=>(.ask (r314) (.opt (qAQ n x0 x1 x2 x3 x4 x5 x6 x7 x8 x9 x10 x11 x12 x13) fun r315=>(.ask (r315) (.ask ((((0:Int)==x2)&&(((0:Int)==x3)&&(((⟨#[]⟩:BA).toList==x4.toList)&&true)))) (.ask ((((0:Int)==x5)&&(((0:Int)==x6)&&((false==x7)&&((false==x8)&&true))))) (.done (((0:Int)==x9)&&(((0:Int)==x10)&&((false==x11)&&((false==x12)&&true))))) (.done false)) (.done false)) (.done false))) (.done false))) (.ask ((x0==(5:Int))) (.opt (qAF n x0 x1 x2 x3 x4 x5 x6 x7 x8 x9 x10 x11 x12 x13) fun r316=>(.ask (r316) (.opt (qAQ n x0 x1 x2 x3 x4 x5 x6 x7 x8 x9 x10 x11 x12 x13) fun r317=>(.ask (r317) (.ask ((((0:Int)==x2)&&(((0:Int)==x3)&&(((⟨#[]⟩:BA).toList==x4.toList)&&true)))) (.ask ((((0:Int)==x5)&&(((0:Int)==x6)&&((false==x7)&&((false==x8)&&true))))) (.done (((0:Int)==x9)&&(((0:Int)==x10)&&((false==x11)&&((false==x12)&&true))))) (.done false)) (.done false)) (.done false))) (.done false))) (.ask ((x0==(6:Int))) (.opt (qAF n x0 x1 x2 x3 x4 x5 x6 x7 x8 x9 x10 x11 x12 x13) fun r318=>(.ask (r318) (.opt (qAQ n x0 x1 x2 x3 x4 x5 x6 x7 x8 x9 x10 x11 x12 x13) fun r319=>(.ask (r319) (.ask ((((0:Int)==x2)&&(((0:Int)==x3)&&(((⟨#[]⟩:BA).toList==x4.toList)&&true)))) (.ask ((((0:Int)==x5)&&(((0:Int)==x6)&&((false==x7)&&((false==x8)&&true))))) (.done (((0:Int)==x9)&&(((0:Int)==x10)&&((false==x11)&&((false==x12)&&true))))) (.done false)) (.done false)) (.done false))) (.done false))) (.done false)))))))
def qDO:Nat→Int→Int→Int→Int→BA→Int→Int→Bool→Bool→Int→Int→Bool→Bool→RW→Option (Bool)
 |0,_,_,_,_,_,_,_,_,_,_,_,_,_,_=>none
 |n+1,x0,x1,x2,x3,x4,x5,x6,x7,x8,x9,x10,x11,x12,x13=>(qEW n x0 x1 x2 x3 x4 x5 x6 x7 x8 x9 x10 x11 x12 x13).run
abbrev qLy (n:Nat):List (Ent (Rn n)):= [en (qF2 n),en (qI0 n),en (qKF n)]
theorem qLG:∀n,Ok (Rn n) qLx (qDO n)
 |0=>ok0 fun _=>rfl
 |n+1=>stO (T:=qEW n) (by kernel_rfl) (qLy n) [] (fun _=>(by kernel_rfl)) fun _=>(by kernel_rfl)
def qKG:Sg:=⟨198,[aL,aI,aI],[],⟨aI,[],[]⟩⟩
def qAW (rec:RW→Int→Int→Option (Int)) (n:Nat) (v:RW×Int×Int×Int×Int):Tr ((RW×Int×Int×Int×Int)⊕((Int)⊕(Int))):=(.ask ((decide (v.2.2.2.2≥(0:Int)))) (.ask (decide (0≤v.2.1∧v.2.1<v.1.length)) (.opt (v.1[(v.2.1).toNat]?) fun e323=>(.ask (decide (e323.length=14)) (.opt (zAb e323 13) fun y324=>(.ask (decide (0≤v.2.2.2.2∧v.2.2.2.2<y324.length)) (.opt (y324[(v.2.2.2.2).toNat]?) fun e325=>(.ask (decide (e325.length=1)) (.opt (zC .i64 e325 0) fun y326=>(.ask ((y326 !=(IntKind.i64.wrap (v.2.2.2.1-(1:Int))))) (.done (.inr (.inl ((-1:Int))))) (.ask ((decide (y326<(0:Int)))) (.done (.inr (.inl ((-1:Int))))) (.ask (decide (0≤y326∧y326<v.1.length)) (.opt (v.1[(y326).toNat]?) fun e327=>(.ask (decide (e327.length=14)) (.opt (zC .i64 e327 0) fun y328=>(.ask ((y328==(3:Int))) (.ask (decide (0≤v.2.1∧v.2.1<v.1.length)) (.opt (v.1[(v.2.1).toNat]?) fun e329=>(.ask (decide (e329.length=14)) (.opt (zC .i64 e329 0) fun y330=>(.ask ((y330 !=(6:Int))) (.done (.inr (.inl ((-1:Int))))) (.opt (rec v.1 y326 (IntKind.i64.wrap (v.2.2.1+(1:Int)))) fun r331=>(.ask ((decide (r331<(0:Int)))) (.done (.inr (.inl ((-1:Int))))) (.done (.inl (v.1,v.2.1,v.2.2.1,r331,(IntKind.i64.wrap (v.2.2.2.2-(1:Int)))))))))) .fail)) .fail) (.opt (rec v.1 y326 (IntKind.i64.wrap (v.2.2.1+(1:Int)))) fun r332=>(.ask ((decide (r332<(0:Int)))) (.done (.inr (.inl ((-1:Int))))) (.done (.inl (v.1,v.2.1,v.2.2.1,r332,(IntKind.i64.wrap (v.2.2.2.2-(1:Int)))))))))) .fail)) .fail)))) .fail)) .fail)) .fail)) .fail) (.done (.inr (.inr (v.2.2.2.1)))))
def qFk (rec:RW→Int→Int→Option (Int)) (n:Nat) (x0:RW) (x1 x2:Int):Tr (Int):=(.ask ((decide (x1<(0:Int)))) (.done (-1:Int)) (.ask ((decide (x2≥(12:Int)))) (.done (-1:Int)) (.ask (decide (0≤x1∧x1<x0.length)) (.opt (x0[(x1).toNat]?) fun e280=>(.ask (decide (e280.length=14)) (.opt (zC .i64 e280 0) fun y281=>(.opt (zC .i64 e280 1) fun y282=>(.opt (zC .i64 e280 2) fun y283=>(.opt (zC .i64 e280 3) fun y284=>(.opt (zX e280 4) fun y285=>(.opt (zC .i64 e280 5) fun y286=>(.opt (zC .i64 e280 6) fun y287=>(.opt (zu e280 7) fun y288=>(.opt (zu e280 8) fun y289=>(.opt (zC .i64 e280 9) fun y290=>(.opt (zC .i64 e280 10) fun y291=>(.opt (zu e280 11) fun y292=>(.opt (zu e280 12) fun y293=>(.opt (zAb e280 13) fun y294=>(.opt (qDO n y281 y282 y283 y284 y285 y286 y287 y288 y289 y290 y291 y292 y293 y294) fun r320=>(.ask ((!r320)) (.done (-1:Int)) (.ask (decide (0≤x1∧x1<x0.length)) (.opt (x0[(x1).toNat]?) fun e321=>(.ask (decide (e321.length=14)) (.opt (zAb e321 13) fun y322=>(.opt (zD (qAW rec n) n (x0,x1,x2,x1,(IntKind.i64.wrap ((y322.length:Int)-(1:Int))))) fun r333=>(.alt r333 (fun r334=>(.done r334)) (fun r335=>(.done r335))))) .fail)) .fail))))))))))))))))) .fail)) .fail)))
def qAn:Nat→RW→Int→Int→Option (Int)
 |0,_,_,_=>none
 |n+1,x0,x1,x2=>(qFk (qAn n) n x0 x1 x2).run
abbrev qN3 (n:Nat) (ih:Ok (Rn n) qKG (qAn n)):List (Ent (Rn n)):= [en (qLG n),en ih]
def qPp (n:Nat) (ih:Ok (Rn n) qKG (qAn n)):LEnt (KB 198) (Rn n) n:=lok (zL 198) 61 ⟨⟨[(0,aL),(1,aI),(2,aI),(7,aI),(8,aI)],[],[]⟩,[(.ret,⟨[(6,aI)],[],[]⟩),(.exit 0,⟨[(7,aI)],[],[]⟩)]⟩ (qAW (qAn n) n) (qN3 n ih) [] fun _=>(by kernel_rfl)
theorem qI1:∀n,Ok (Rn n) qKG (qAn n)
 |0=>ok0 fun _=>rfl
 |n+1=>stO (T:=qFk (qAn n) n) (by kernel_rfl) (qN3 n (qI1 n)) [qPp n (qI1 n)] (fun _=>(by kernel_rfl)) fun _=>(by kernel_rfl)
def qNV:Sg:=⟨161,[aL],[],⟨aB,[],[]⟩⟩
def qDH (n:Nat) (x0:RW):Tr (Bool):=(.opt (qAP n (x0.length:Int) (1:Int) (60:Int)) fun r277=>(.ask (r277) (.ask (decide (0≤(IntKind.i64.wrap ((x0.length:Int)-(1:Int)))∧(IntKind.i64.wrap ((x0.length:Int)-(1:Int)))<x0.length)) (.opt (x0[((IntKind.i64.wrap ((x0.length:Int)-(1:Int)))).toNat]?) fun e278=>(.ask (decide (e278.length=14)) (.opt (zC .i64 e278 0) fun y279=>(.ask ((y279 !=(3:Int))) (.opt (qAn n x0 (IntKind.i64.wrap ((x0.length:Int)-(1:Int))) (0:Int)) fun r336=>(.done (r336==(0:Int)))) (.done false))) .fail)) .fail) (.done false)))
def qBt:Nat→RW→Option (Bool)
 |0,_=>none
 |n+1,x0=>(qDH n x0).run
abbrev qNW (n:Nat):List (Ent (Rn n)):= [en (qDE n),en (qI1 n)]
theorem qHe:∀n,Ok (Rn n) qNV (qBt n)
 |0=>ok0 fun _=>rfl
 |n+1=>stO (T:=qDH n) (by kernel_rfl) (qNW n) [] (fun _=>(by kernel_rfl)) fun _=>(by kernel_rfl)
def qLz:Sg:=⟨119,[aS],[],⟨(.tup [(false,[qL]),(false,[qB])]),[],[]⟩⟩
def qG9 (n:Nat) (x0:BA):Tr (RW×Bool):=(.opt (qCw n x0 (200:Int)) fun r136=>(.ask ((!r136)) (.ask (decide (0=([]:RW).length)) (.done (([]:RW),false)) .fail) (.opt (qCp n (1:Int) (0:Int) x0 (0:Nat) false ([]:RW)) fun r275=>(.opt (qA1 n r275.2.1 r275.2.2.1 r275.2.2.2.1 r275.2.2.2.2) fun r276=>(.ask (r276.2.2.1) (.ask (decide (0=([]:RW).length)) (.done (([]:RW),false)) .fail) (.ask ((!(r276.1.toList==(⟨#[]⟩:BA).toList))) (.ask (decide (0=([]:RW).length)) (.done (([]:RW),false)) .fail) (.ask (decide (r276.2.1=r276.2.2.2.length)) (.opt (qBt n r276.2.2.2) fun r337=>(.ask (zAS (⟨(.c (.p (.b r337))),[],[]⟩:Res)) (.ask ((!r337)) (.ask (decide (0=([]:RW).length)) (.done (([]:RW),false)) .fail) (.ask (decide (r276.2.1=r276.2.2.2.length)) (.done (r276.2.2.2,true)) .fail)) .fail)) .fail)))))))
def qDP:Nat→BA→Option (RW×Bool)
 |0,_=>none
 |n+1,x0=>(qG9 n x0).run
abbrev qL0 (n:Nat):List (Ent (Rn n)):= [en (qGv n),en (qJi n),en (qCZ n),en (qHe n)]
theorem qGL:∀n,Ok (Rn n) qLz (qDP n)
 |0=>ok0 fun _=>rfl
 |n+1=>stO (T:=qG9 n) (by kernel_rfl) (qL0 n) [] (fun _=>(by kernel_rfl)) fun _=>(by kernel_rfl)
def qFl:Sg:=⟨251,[aS,aS,aS],[],⟨aS,[],[]⟩⟩
def qDr:Nat→BA→BA→BA→Option ((BA))
 |0,_,_,_=>none
 |n+1,x0,x1,x2=>zb x0 x1 x2
theorem qJl:∀n,Ok (Rn n) qFl (qDr n)
 |0=>ok0 fun _=>rfl
 |n+1=>stL (by kernel_rfl) (fun a r e=>congrArg (Option.map fun r=>(qFl.Of r).v) e) rfl rfl rfl
def qKH:Sg:=⟨252,[aL,aS],[],⟨aS,[],[]⟩⟩
def qHA:Nat→RW→BA→Option ((BA))
 |0,_,_=>none
 |n+1,x0,x1=>zAc x0 x1
theorem qOh:∀n,Ok (Rn n) qKH (qHA n)
 |0=>ok0 fun _=>rfl
 |n+1=>stL (by kernel_rfl) (fun a r e=>congrArg (Option.map fun r=>(qKH.Of r).v) e) rfl rfl rfl
def qEX:Sg:=⟨225,[aL,aI,aI],[],⟨aS,[],[]⟩⟩
def qBd (rec:RW→Int→Int→Option (BA)) (n:Nat) (v:RW×Nat×RW×Int×Int×Int×Int×Int×Int×BA×Int×Int×Bool×Bool×Int×Int×Bool×Bool×RW×RW):Tr ((RW×Nat×RW×Int×Int×Int×Int×Int×Int×BA×Int×Int×Bool×Bool×Int×Int×Bool×Bool×RW×RW)⊕((Nat×Int×Int×Int×Int×BA×Int×Int×Bool×Bool×Int×Int×Bool×Bool×RW×RW))):=(.ask ((decide (v.2.2.2.2.1<v.2.2.2.1))) (.ask (decide (0≤v.2.2.2.2.1∧v.2.2.2.2.1<v.2.2.1.length)) (.opt (v.2.2.1[(v.2.2.2.2.1).toNat]?) fun e371=>(.ask (decide (e371.length=1)) (.opt (zC .i64 e371 0) fun y372=>(.opt (rec v.1 y372 (1:Int)) fun r373=>(.ask (decide (1=([[(.s r373)]]:RW).length)) (.ask (decide (v.2.1=v.2.2.2.2.2.2.2.2.2.2.2.2.2.2.2.2.2.2.2.length∧0<1∧0<16∧(v.2.1+([[(.s r373)]]:RW).length)*16≤140737488355328∧([[(.s r373)]]:RW).all (fun e=>e.length==1)=true)) (.done (.inl (v.1,(v.2.1+1),v.2.2.1,v.2.2.2.1,(IntKind.i64.wrap (v.2.2.2.2.1+(1:Int))),v.2.2.2.2.2.1,v.2.2.2.2.2.2.1,v.2.2.2.2.2.2.2.1,v.2.2.2.2.2.2.2.2.1,v.2.2.2.2.2.2.2.2.2.1,v.2.2.2.2.2.2.2.2.2.2.1,v.2.2.2.2.2.2.2.2.2.2.2.1,v.2.2.2.2.2.2.2.2.2.2.2.2.1,v.2.2.2.2.2.2.2.2.2.2.2.2.2.1,v.2.2.2.2.2.2.2.2.2.2.2.2.2.2.1,v.2.2.2.2.2.2.2.2.2.2.2.2.2.2.2.1,v.2.2.2.2.2.2.2.2.2.2.2.2.2.2.2.2.1,v.2.2.2.2.2.2.2.2.2.2.2.2.2.2.2.2.2.1,v.2.2.2.2.2.2.2.2.2.2.2.2.2.2.2.2.2.2.1,(v.2.2.2.2.2.2.2.2.2.2.2.2.2.2.2.2.2.2.2++([[(.s r373)]]:RW))))) .fail) .fail))) .fail)) .fail) (.done (.inr ((v.2.1,v.2.2.2.2.2.1,v.2.2.2.2.2.2.1,v.2.2.2.2.2.2.2.1,v.2.2.2.2.2.2.2.2.1,v.2.2.2.2.2.2.2.2.2.1,v.2.2.2.2.2.2.2.2.2.2.1,v.2.2.2.2.2.2.2.2.2.2.2.1,v.2.2.2.2.2.2.2.2.2.2.2.2.1,v.2.2.2.2.2.2.2.2.2.2.2.2.2.1,v.2.2.2.2.2.2.2.2.2.2.2.2.2.2.1,v.2.2.2.2.2.2.2.2.2.2.2.2.2.2.2.1,v.2.2.2.2.2.2.2.2.2.2.2.2.2.2.2.2.1,v.2.2.2.2.2.2.2.2.2.2.2.2.2.2.2.2.2.1,v.2.2.2.2.2.2.2.2.2.2.2.2.2.2.2.2.2.2.1,v.2.2.2.2.2.2.2.2.2.2.2.2.2.2.2.2.2.2.2)))))
def qAp (rec:RW→Int→Int→Option (BA)) (n:Nat) (x0:RW) (x1 x2:Int):Tr (BA):=(.ask (decide (0≤x1∧x1<x0.length)) (.opt (x0[(x1).toNat]?) fun e340=>(.ask (decide (e340.length=14)) (.opt (zC .i64 e340 0) fun y341=>(.opt (zC .i64 e340 1) fun y342=>(.opt (zC .i64 e340 2) fun y343=>(.opt (zC .i64 e340 3) fun y344=>(.opt (zX e340 4) fun y345=>(.opt (zC .i64 e340 5) fun y346=>(.opt (zC .i64 e340 6) fun y347=>(.opt (zu e340 7) fun y348=>(.opt (zu e340 8) fun y349=>(.opt (zC .i64 e340 9) fun y350=>(.opt (zC .i64 e340 10) fun y351=>(.opt (zu e340 11) fun y352=>(.opt (zu e340 12) fun y353=>(.opt (zAb e340 13) fun y354=>(.ask ((y341==(1:Int))) (.ask ((y343==(2:Int))) (.opt (qDr n y345 (⟨#[34]⟩:BA) (⟨#[34,34]⟩:BA)) fun r355=>(.ask (decide ((⟨#[34]⟩:BA).size+r355.size≤9223372036854775807)) (.ask (decide (((⟨#[34]⟩:BA)++r355).size+(⟨#[34]⟩:BA).size≤9223372036854775807)) (.done (((⟨#[34]⟩:BA)++r355)++(⟨#[34]⟩:BA))) .fail) .fail)) (.opt (qq n y343 y344 y345) fun r356=>(.done r356))) (.ask ((y341==(2:Int))) (.opt (qBC n y346 y347 y348 y349) fun r357=>(.done r357)) (.ask ((y341==(3:Int))) (.opt (qBC n y346 y347 y348 y349) fun r358=>(.ask (decide (r358.size+(⟨#[58]⟩:BA).size≤9223372036854775807)) (.opt (qBC n y350 y351 y352 y353) fun r359=>(.ask (decide ((r358++(⟨#[58]⟩:BA)).size+r359.size≤9223372036854775807)) (.done ((r358++(⟨#[58]⟩:BA))++r359)) .fail)) .fail)) (.ask ((y341==(4:Int))) (.ask (decide (0≤(0:Int)∧(0:Int)<y354.length)) (.opt (y354[((0:Int)).toNat]?) fun e360=>(.ask (decide (e360.length=1)) (.opt (zC .i64 e360 0) fun y361=>(.opt (rec x0 y361 (5:Int)) fun r362=>(.ask (decide ((⟨#[45]⟩:BA).size+r362.size≤9223372036854775807)) (.done ((⟨#[45]⟩:BA)++r362)) .fail))) .fail)) .fail) (.ask ((y341==(5:Int))) (.opt (qD0 n y342) fun r363=>(.ask (decide (0≤(0:Int)∧(0:Int)<y354.length)) (.opt (y354[((0:Int)).toNat]?) fun e364=>(.ask (decide (e364.length=1)) (.opt (zC .i64 e364 0) fun y365=>(.ask (decide (0≤(1:Int)∧(1:Int)<y354.length)) (.opt (y354[((1:Int)).toNat]?) fun e366=>(.ask (decide (e366.length=1)) (.opt (zC .i64 e366 0) fun y367=>(.opt (rec x0 y365 r363) fun r368=>(.opt (qBX n y342) fun r369=>(.ask (decide (r368.size+r369.size≤9223372036854775807)) (.opt (rec x0 y367 (IntKind.i64.wrap (r363+(1:Int)))) fun r370=>(.ask (decide ((r368++r369).size+r370.size≤9223372036854775807)) (.ask ((decide (r363<x2))) (.ask (decide ((⟨#[40]⟩:BA).size+((r368++r369)++r370).size≤9223372036854775807)) (.ask (decide (((⟨#[40]⟩:BA)++((r368++r369)++r370)).size+(⟨#[41]⟩:BA).size≤9223372036854775807)) (.done (((⟨#[40]⟩:BA)++((r368++r369)++r370))++(⟨#[41]⟩:BA))) .fail) .fail) (.done ((r368++r369)++r370))) .fail)) .fail)))) .fail)) .fail)) .fail)) .fail)) (.opt (zD (qBd rec n) n (x0,(0:Nat),y354,(y354.length:Int),(0:Int),y341,y342,y343,y344,y345,y346,y347,y348,y349,y350,y351,y352,y353,y354,([]:RW))) fun r374=>(.opt (qCO n r374.2.2.1) fun r375=>(.ask (decide (r375.size+(⟨#[40]⟩:BA).size≤9223372036854775807)) (.ask (decide (r374.1=r374.2.2.2.2.2.2.2.2.2.2.2.2.2.2.2.length)) (.opt (qHA n r374.2.2.2.2.2.2.2.2.2.2.2.2.2.2.2 (⟨#[44]⟩:BA)) fun r376=>(.ask (zAS (⟨(.c (.p (.s r376))),[],[]⟩:Res)) (.ask (decide ((r375++(⟨#[40]⟩:BA)).size+r376.size≤9223372036854775807)) (.ask (decide (((r375++(⟨#[40]⟩:BA))++r376).size+(⟨#[41]⟩:BA).size≤9223372036854775807)) (.done (((r375++(⟨#[40]⟩:BA))++r376)++(⟨#[41]⟩:BA))) .fail) .fail) .fail)) .fail) .fail)))))))))))))))))))))) .fail)) .fail)
def qb:Nat→RW→Int→Int→Option (BA)
 |0,_,_,_=>none
 |n+1,x0,x1,x2=>(qAp (qb n) n x0 x1 x2).run
abbrev qHB (n:Nat) (ih:Ok (Rn n) qEX (qb n)):List (Ent (Rn n)):= [en (qJl n),en (qHa n),en (qHc n),en ih,en (qLU n),en (qKE n),en (qKD n),en (qOh n)]
def qI2 (n:Nat) (ih:Ok (Rn n) qEX (qb n)):LEnt (KB 225) (Rn n) n:=lok (zL 225) 125 ⟨⟨[(0,aL),(7,(.c (.ptr 0 448 0 0 0))),(10,(.c (.own 0 5760 0 0))),(92,aL),(93,aI),(94,aI)],[(448,⟨0,14,162,(.box [qI,qI,qI,qI,qS,qI,qI,qB,qB,qI,qI,qB,qB,qL])⟩),(5760,⟨0,1,9,(.row [])⟩)],[]⟩,[(.exit 1,⟨[(7,(.c (.ptr 0 448 0 0 0))),(10,(.c (.own 0 5760 0 0)))],[(448,⟨0,14,162,(.box [qI,qI,qI,qI,qS,qI,qI,qB,qB,qI,qI,qB,qB,qL])⟩),(5760,⟨0,1,9,(.row [])⟩)],[]⟩)]⟩ (qBd (qb n) n) (qHB n ih) [] fun _=>(by kernel_rfl)
theorem qEE:∀n,Ok (Rn n) qEX (qb n)
 |0=>ok0 fun _=>rfl
 |n+1=>stO (T:=qAp (qb n) n) (by kernel_rfl) (qHB n (qEE n)) [qI2 n (qEE n)] (fun _=>(by kernel_rfl)) fun _=>(by kernel_rfl)
def qL1:Sg:=⟨199,[aL],[],⟨aS,[],[]⟩⟩
def qDQ (n:Nat) (x0:RW):Tr (BA):=(.opt (qBt n x0) fun r339=>(.ask ((!r339)) (.done (⟨#[]⟩:BA)) (.opt (qb n x0 (IntKind.i64.wrap ((x0.length:Int)-(1:Int))) (1:Int)) fun r377=>(.ask ((decide ((r377.size:Int)>(200:Int)))) (.done (⟨#[]⟩:BA)) (.done r377)))))
def qBu:Nat→RW→Option (BA)
 |0,_=>none
 |n+1,x0=>(qDQ n x0).run
abbrev qL2 (n:Nat):List (Ent (Rn n)):= [en (qHe n),en (qEE n)]
theorem qLH:∀n,Ok (Rn n) qL1 (qBu n)
 |0=>ok0 fun _=>rfl
 |n+1=>stO (T:=qDQ n) (by kernel_rfl) (qL2 n) [] (fun _=>(by kernel_rfl)) fun _=>(by kernel_rfl)
def qOi:Sg:=⟨167,[aL],[],⟨(.tup [(false,[qS]),(false,[qB])]),[],[]⟩⟩
def qJT (n:Nat) (x0:RW):Tr (BA×Bool):=(.opt (qBu n x0) fun r378=>(.ask (decide ((⟨#[61]⟩:BA).size+r378.size≤9223372036854775807)) (.ask ((!(r378.toList==(⟨#[]⟩:BA).toList))) (.done (((⟨#[61]⟩:BA)++r378),(decide ((r378.size:Int)<(200:Int))))) (.done (((⟨#[61]⟩:BA)++r378),false))) .fail))
def qF4:Nat→RW→Option (BA×Bool)
 |0,_=>none
 |n+1,x0=>(qJT n x0).run
abbrev qOj (n:Nat):List (Ent (Rn n)):= [en (qLH n)]
theorem qNX:∀n,Ok (Rn n) qOi (qF4 n)
 |0=>ok0 fun _=>rfl
 |n+1=>stO (T:=qJT n) (by kernel_rfl) (qOj n) [] (fun _=>(by kernel_rfl)) fun _=>(by kernel_rfl)
def qEi:Sg:=⟨231,[aS,aS],[],⟨aS,[],[]⟩⟩
def qCd (n:Nat) (x0 x1:BA):Tr (BA):=(.opt (qAD n x0 x1) fun r383=>(.ask (r383) (.ask (decide (0≤(x1.size:Int)∧(x1.size:Int)≤(x0.size:Int)∧(x0.size:Int)≤x0.size)) (.done (x0.extract ((x1.size:Int)).toNat ((x0.size:Int)).toNat)) .fail) (.done x0)))
def qBV:Nat→BA→BA→Option (BA)
 |0,_,_=>none
 |n+1,x0,x1=>(qCd n x0 x1).run
abbrev qEj (n:Nat):List (Ent (Rn n)):= [en (qCc n)]
theorem qEY:∀n,Ok (Rn n) qEi (qBV n)
 |0=>ok0 fun _=>rfl
 |n+1=>stO (T:=qCd n) (by kernel_rfl) (qEj n) [] (fun _=>(by kernel_rfl)) fun _=>(by kernel_rfl)
def qKI:Sg:=⟨202,[aS,aS],[],⟨aS,[],[]⟩⟩
def qFm (n:Nat) (x0 x1:BA):Tr (BA):=(.opt (qBV n x0 x1) fun r384=>(.done r384))
def qDs:Nat→BA→BA→Option (BA)
 |0,_,_=>none
 |n+1,x0,x1=>(qFm n x0 x1).run
abbrev qKJ (n:Nat):List (Ent (Rn n)):= [en (qEY n)]
theorem qJm:∀n,Ok (Rn n) qKI (qDs n)
 |0=>ok0 fun _=>rfl
 |n+1=>stO (T:=qFm n) (by kernel_rfl) (qKJ n) [] (fun _=>(by kernel_rfl)) fun _=>(by kernel_rfl)
def qKK:Sg:=⟨109,[aS,aS],[],⟨aS,[],[]⟩⟩
def qHC:Nat→BA→BA→Option ((BA))
 |0,_,_=>none
 |n+1,x0,x1=>zAF x0 x1
theorem qOk:∀n,Ok (Rn n) qKK (qHC n)
 |0=>ok0 fun _=>rfl
 |n+1=>stL (by kernel_rfl) (fun a r e=>congrArg (Option.map fun r=>(qKK.Of r).v) e) rfl rfl rfl
def qOl:Sg:=⟨169,[aS],[],⟨aB,[],[]⟩⟩
def qJU (n:Nat) (x0:BA):Tr (Bool):=(.opt (qDs n x0 (⟨#[45]⟩:BA)) fun r385=>(.ask ((!(r385.toList==(⟨#[]⟩:BA).toList))) (.opt (qHC n r385 (⟨#[48,49,50,51,52,53,54,55,56,57]⟩:BA)) fun r386=>(.done (r386.toList==(⟨#[]⟩:BA).toList))) (.done false)))
def qER:Nat→BA→Option (Bool)
 |0,_=>none
 |n+1,x0=>(qJU n x0).run
abbrev qOm (n:Nat):List (Ent (Rn n)):= [en (qJm n),en (qOk n)]
theorem qNY:∀n,Ok (Rn n) qOl (qER n)
 |0=>ok0 fun _=>rfl
 |n+1=>stO (T:=qJU n) (by kernel_rfl) (qOm n) [] (fun _=>(by kernel_rfl)) fun _=>(by kernel_rfl)
def qPq:Sg:=⟨133,[aS],[],⟨(.tup [(false,[qS]),(false,[qB])]),[],[]⟩⟩
def qKL (n:Nat) (x0:BA):Tr (BA×Bool):=(.opt (qCw n x0 (200:Int)) fun r134=>(.ask ((!r134)) (.done ((⟨#[]⟩:BA),(x0.toList==(⟨#[]⟩:BA).toList))) (.ask ((x0.toList==(⟨#[]⟩:BA).toList)) (.done ((⟨#[]⟩:BA),(x0.toList==(⟨#[]⟩:BA).toList))) (.opt (qw n x0 (⟨#[61]⟩:BA)) fun r135=>(.ask (r135.2) (.opt (qDP n r135.1) fun r338=>(.opt (qF4 n r338.1) fun r379=>(.ask ((!r338.2)) (.done ((⟨#[]⟩:BA),false)) (.ask ((!r379.2)) (.done ((⟨#[]⟩:BA),false)) (.done (r379.1,true)))))) (.opt (qA2 n x0 (10:Int) (64:Int)) fun r380=>(.alt r380 (fun r381=>(.ask (true) (.opt (qER n x0) fun r387=>(.ask (r387) (.opt (qCx n r381) fun r388=>(.opt (qAV n r388.1 r388.2.1 r388.2.2) fun r389=>(.ask (r389) (.opt (qBH n r381) fun r390=>(.done (r390,true))) (.opt (qe n x0) fun r391=>(.ask (r391.2.2.2) (.done (x0,true)) (.ask (((x0.size:Int)==(200:Int))) (.done ((⟨#[]⟩:BA),false)) (.ask (decide ((⟨#[39]⟩:BA).size+x0.size≤9223372036854775807)) (.done (((⟨#[39]⟩:BA)++x0),true)) .fail))))))) (.opt (qe n x0) fun r392=>(.ask (r392.2.2.2) (.done (x0,true)) (.ask (((x0.size:Int)==(200:Int))) (.done ((⟨#[]⟩:BA),false)) (.ask (decide ((⟨#[39]⟩:BA).size+x0.size≤9223372036854775807)) (.done (((⟨#[39]⟩:BA)++x0),true)) .fail)))))) (.opt (qe n x0) fun r393=>(.ask (r393.2.2.2) (.done (x0,true)) (.ask (((x0.size:Int)==(200:Int))) (.done ((⟨#[]⟩:BA),false)) (.ask (decide ((⟨#[39]⟩:BA).size+x0.size≤9223372036854775807)) (.done (((⟨#[39]⟩:BA)++x0),true)) .fail)))))) (fun r382=>(.ask (false) (.opt (qER n x0) fun r394=>(.ask (r394) (.opt (qCx n r382) fun r395=>(.opt (qAV n r395.1 r395.2.1 r395.2.2) fun r396=>(.ask (r396) (.opt (qBH n r382) fun r397=>(.done (r397,true))) (.opt (qe n x0) fun r398=>(.ask (r398.2.2.2) (.done (x0,true)) (.ask (((x0.size:Int)==(200:Int))) (.done ((⟨#[]⟩:BA),false)) (.ask (decide ((⟨#[39]⟩:BA).size+x0.size≤9223372036854775807)) (.done (((⟨#[39]⟩:BA)++x0),true)) .fail))))))) (.opt (qe n x0) fun r399=>(.ask (r399.2.2.2) (.done (x0,true)) (.ask (((x0.size:Int)==(200:Int))) (.done ((⟨#[]⟩:BA),false)) (.ask (decide ((⟨#[39]⟩:BA).size+x0.size≤9223372036854775807)) (.done (((⟨#[39]⟩:BA)++x0),true)) .fail)))))) (.opt (qe n x0) fun r400=>(.ask (r400.2.2.2) (.done (x0,true)) (.ask (((x0.size:Int)==(200:Int))) (.done ((⟨#[]⟩:BA),false)) (.ask (decide ((⟨#[39]⟩:BA).size+x0.size≤9223372036854775807)) (.done (((⟨#[39]⟩:BA)++x0),true)) .fail)))))))))))))
def qHD:Nat→BA→Option (BA×Bool)
 |0,_=>none
 |n+1,x0=>(qKL n x0).run
abbrev qPr (n:Nat):List (Ent (Rn n)):= [en (qGv n),en (qB4 n),en (qGL n),en (qNX n),en2 (qEC n),en (qNY n),en (qKB n),en (qF2 n),en (qF3 n),en (qHb n)]
theorem qOn:∀n,Ok (Rn n) qPq (qHD n)
 |0=>ok0 fun _=>rfl
 |n+1=>stO (T:=qKL n) (by kernel_rfl) (qPr n) [] (fun _=>(by kernel_rfl)) fun _=>(by kernel_rfl)
def qOo:Sg:=⟨91,[aS],[],⟨aB,[],[]⟩⟩
def qJV (n:Nat) (x0:BA):Tr (Bool):=(.opt (qHD n x0) fun r401=>(.ask (r401.2) (.ask ((!(x0.toList==(⟨#[]⟩:BA).toList))) (.done (r401.1.toList==x0.toList)) (.done false)) (.done false)))
def qDZ:Nat→BA→Option (Bool)
 |0,_=>none
 |n+1,x0=>(qJV n x0).run
abbrev qOp (n:Nat):List (Ent (Rn n)):= [en (qOn n)]
theorem qNZ:∀n,Ok (Rn n) qOo (qDZ n)
 |0=>ok0 fun _=>rfl
 |n+1=>stO (T:=qJV n) (by kernel_rfl) (qOp n) [] (fun _=>(by kernel_rfl)) fun _=>(by kernel_rfl)
def qPs:Sg:=⟨47,[aL],[],⟨aB,[],[]⟩⟩
def qE2 (n:Nat) (v:RW×RW×Int×Int):Tr ((RW×RW×Int×Int)⊕((Bool)⊕(RW))):=(.ask ((decide (v.2.2.2<v.2.2.1))) (.ask (decide (0≤v.2.2.2∧v.2.2.2<v.2.1.length)) (.opt (v.2.1[(v.2.2.2).toNat]?) fun e108=>(.ask (decide (e108.length=3)) (.opt (zC .i64 e108 0) fun y109=>(.opt (zC .i64 e108 1) fun y110=>(.opt (zX e108 2) fun y111=>(.opt (qBy n y109 y110) fun r112=>(.ask ((!r112)) (.done (.inr (.inl (false)))) (.ask ((decide (v.2.2.2>(0:Int)))) (.ask (decide (0≤(IntKind.i64.wrap (v.2.2.2-(1:Int)))∧(IntKind.i64.wrap (v.2.2.2-(1:Int)))<v.1.length)) (.opt (v.1[((IntKind.i64.wrap (v.2.2.2-(1:Int)))).toNat]?) fun e113=>(.ask (decide (e113.length=3)) (.opt (zC .i64 e113 0) fun y114=>(.opt (zC .i64 e113 1) fun y115=>(.opt (qBp n y114 y115 y109 y110) fun r116=>(.ask ((decide (r116≥(0:Int)))) (.done (.inr (.inl (false)))) (.opt (qDZ n y111) fun r117=>(.ask ((!r117)) (.done (.inr (.inl (false)))) (.done (.inl (v.1,v.2.1,v.2.2.1,(IntKind.i64.wrap (v.2.2.2+(1:Int)))))))))))) .fail)) .fail) (.opt (qDZ n y111) fun r118=>(.ask ((!r118)) (.done (.inr (.inl (false)))) (.done (.inl (v.1,v.2.1,v.2.2.1,(IntKind.i64.wrap (v.2.2.2+(1:Int)))))))))))))) .fail)) .fail) (.done (.inr (.inr (v.1)))))
def qKM (n:Nat) (x0:RW):Tr (Bool):=(.opt (zD (qE2 n) n (x0,x0,(x0.length:Int),(0:Int))) fun r119=>(.alt r119 (fun r120=>(.done r120)) (fun r121=>(.done (decide ((r121.length:Int)≤(120:Int)))))))
def qHE:Nat→RW→Option (Bool)
 |0,_=>none
 |n+1,x0=>(qKM n x0).run
abbrev qKN (n:Nat):List (Ent (Rn n)):= [en (qFc n),en (qK9 n),en (qNZ n)]
def qMZ (n:Nat):LEnt (KB 47) (Rn n) n:=lok (zL 47) 13 ⟨⟨[(0,aL),(5,aL),(6,aI),(7,aI)],[],[]⟩,[(.ret,⟨[(2,aB)],[],[]⟩),(.exit 0,⟨[(0,aL)],[],[]⟩)]⟩ (qE2 n) (qKN n) [] fun _=>(by kernel_rfl)
theorem qOq:∀n,Ok (Rn n) qPs (qHE n)
 |0=>ok0 fun _=>rfl
 |n+1=>stO (T:=qKM n) (by kernel_rfl) (qKN n) [qMZ n] (fun _=>(by kernel_rfl)) fun _=>(by kernel_rfl)
def qMa:Sg:=⟨83,[(.agg [qI,qI,qS]),(.c (.rp [vI,vI] 0))],[],⟨aB,[],[]⟩⟩
def qHf (n:Nat) (x0 x1:Int) (x2:BA) (x3 x4:Int):Tr (Bool):=(.opt (some x3:Option Int) fun y127=>(.opt (some x4:Option Int) fun y128=>(.done ((x0==y127)&&((x1==y128)&&true)))))
def qHg:Nat→Int→Int→BA→Int→Int→Option (Bool)
 |0,_,_,_,_,_=>none
 |n+1,x0,x1,x2,x3,x4=>(qHf n x0 x1 x2 x3 x4).run
theorem qL3:∀n,Ok (Rn n) qMa (qHg n)
 |0=>ok0 fun _=>rfl
 |n+1=>stO (T:=qHf n) (by kernel_rfl) [] [] (fun _=>(by kernel_rfl)) fun _=>(by kernel_rfl)
def qB0:Sg:=⟨82,[aL,(.c (.fn 83 [(.rp [vI,vI])]))],[],⟨aI,[],[]⟩⟩
def qt (n:Nat) (v:RW×Int×Int×Int×Int):Tr ((RW×Int×Int×Int×Int)⊕((Int)⊕(Unit))):=(.ask ((decide (v.2.2.2.2<v.2.2.2.1))) (.ask (decide (0≤v.2.2.2.2∧v.2.2.2.2<v.1.length)) (.opt (v.1[(v.2.2.2.2).toNat]?) fun e123=>(.ask (decide (e123.length=3)) (.opt (zC .i64 e123 0) fun y124=>(.opt (zC .i64 e123 1) fun y125=>(.opt (zX e123 2) fun y126=>(.opt (qHg n y124 y125 y126 v.2.1 v.2.2.1) fun r127=>(.ask (r127) (.done (.inr (.inl (v.2.2.2.2)))) (.done (.inl (v.1,v.2.1,v.2.2.1,v.2.2.2.1,(IntKind.i64.wrap (v.2.2.2.2+(1:Int))))))))))) .fail)) .fail) (.done (.inr (.inr (())))))
def qx (n:Nat) (x0:RW) (x1 x2:Int):Tr (Int):=(.opt (zD (qt n) n (x0,x1,x2,(x0.length:Int),(0:Int))) fun r128=>(.alt r128 (fun r129=>(.done r129)) (fun r130=>(.done (-1:Int)))))
def qy:Nat→RW→Int→Int→Option (Int)
 |0,_,_,_=>none
 |n+1,x0,x1,x2=>(qx n x0 x1 x2).run
abbrev qAl (n:Nat):List (Ent (Rn n)):= [en (qL3 n)]
def qBi (n:Nat):LEnt (KB 82) (Rn n) n:=lok (zL 82) 13 ⟨⟨[(0,aL),(1,(.c (.fn 83 [(.rp [vI,vI])]))),(7,aI),(8,aI)],[],[]⟩,[(.ret,⟨[(4,aI)],[],[]⟩),(.exit 0,⟨[],[],[]⟩)]⟩ (qt n) (qAl n) [] fun _=>(by kernel_rfl)
theorem qBv:∀n,Ok (Rn n) qB0 (qy n)
 |0=>ok0 fun _=>rfl
 |n+1=>stO (T:=qx n) (by kernel_rfl) (qAl n) [qBi n] (fun _=>(by kernel_rfl)) fun _=>(by kernel_rfl)
def qNa:Sg:=⟨76,[aS],[],⟨(.tup [(false,[qL]),(false,[qB])]),[],[]⟩⟩
def qFQ (n:Nat) (x0:BA):Tr (RW×Bool):=(.opt (qw n x0 (⟨#[61]⟩:BA)) fun r136=>(.ask ((!r136.2)) (.ask (decide (0=([]:RW).length)) (.done (([]:RW),false)) .fail) (.opt (qDP n r136.1) fun r137=>(.done (r137.1,r137.2)))))
def qD1:Nat→BA→Option (RW×Bool)
 |0,_=>none
 |n+1,x0=>(qFQ n x0).run
abbrev qNb (n:Nat):List (Ent (Rn n)):= [en (qB4 n),en (qGL n)]
theorem qMb:∀n,Ok (Rn n) qNa (qD1 n)
 |0=>ok0 fun _=>rfl
 |n+1=>stO (T:=qFQ n) (by kernel_rfl) (qNb n) [] (fun _=>(by kernel_rfl)) fun _=>(by kernel_rfl)
def qPt:Sg:=⟨77,[aL],[],⟨aL,[],[]⟩⟩
def qE3 (n:Nat) (v:Nat×RW×Int×Int×RW):Tr ((Nat×RW×Int×Int×RW)⊕((Nat×RW))):=(.ask ((decide (v.2.2.2.1<v.2.2.1))) (.ask (decide (0≤v.2.2.2.1∧v.2.2.2.1<v.2.1.length)) (.opt (v.2.1[(v.2.2.2.1).toNat]?) fun e139=>(.ask (decide (e139.length=14)) (.opt (zC .i64 e139 0) fun y140=>(.opt (zC .i64 e139 1) fun y141=>(.opt (zC .i64 e139 2) fun y142=>(.opt (zC .i64 e139 3) fun y143=>(.opt (zX e139 4) fun y144=>(.opt (zC .i64 e139 5) fun y145=>(.opt (zC .i64 e139 6) fun y146=>(.opt (zu e139 7) fun y147=>(.opt (zu e139 8) fun y148=>(.opt (zC .i64 e139 9) fun y149=>(.opt (zC .i64 e139 10) fun y150=>(.opt (zu e139 11) fun y151=>(.opt (zu e139 12) fun y152=>(.opt (zAb e139 13) fun y153=>(.ask ((y140==(2:Int))) (.opt (qBF n y140 y141 y142 y143 y144 y145 y146 y147 y148 y149 y150 y151 y152 y153) fun r154=>(.ask (decide (1=([[(.i .i64 r154.1),(.i .i64 r154.2.1),(.i .i64 r154.2.2.1),(.i .i64 r154.2.2.2)]]:RW).length)) (.ask (decide (v.1=v.2.2.2.2.length∧0<4∧0<32∧(v.1+([[(.i .i64 r154.1),(.i .i64 r154.2.1),(.i .i64 r154.2.2.1),(.i .i64 r154.2.2.2)]]:RW).length)*32≤140737488355328∧([[(.i .i64 r154.1),(.i .i64 r154.2.1),(.i .i64 r154.2.2.1),(.i .i64 r154.2.2.2)]]:RW).all (fun e=>e.length==4)=true)) (.done (.inl ((v.1+1),v.2.1,v.2.2.1,(IntKind.i64.wrap (v.2.2.2.1+(1:Int))),(v.2.2.2.2++([[(.i .i64 r154.1),(.i .i64 r154.2.1),(.i .i64 r154.2.2.1),(.i .i64 r154.2.2.2)]]:RW))))) .fail) .fail)) (.ask ((y140==(3:Int))) (.opt (qBF n y140 y141 y142 y143 y144 y145 y146 y147 y148 y149 y150 y151 y152 y153) fun r155=>(.ask (decide (1=([[(.i .i64 r155.1),(.i .i64 r155.2.1),(.i .i64 r155.2.2.1),(.i .i64 r155.2.2.2)]]:RW).length)) (.ask (decide (v.1=v.2.2.2.2.length∧0<4∧0<32∧(v.1+([[(.i .i64 r155.1),(.i .i64 r155.2.1),(.i .i64 r155.2.2.1),(.i .i64 r155.2.2.2)]]:RW).length)*32≤140737488355328∧([[(.i .i64 r155.1),(.i .i64 r155.2.1),(.i .i64 r155.2.2.1),(.i .i64 r155.2.2.2)]]:RW).all (fun e=>e.length==4)=true)) (.done (.inl ((v.1+1),v.2.1,v.2.2.1,(IntKind.i64.wrap (v.2.2.2.1+(1:Int))),(v.2.2.2.2++([[(.i .i64 r155.1),(.i .i64 r155.2.1),(.i .i64 r155.2.2.1),(.i .i64 r155.2.2.2)]]:RW))))) .fail) .fail)) (.done (.inl (v.1,v.2.1,v.2.2.1,(IntKind.i64.wrap (v.2.2.2.1+(1:Int))),v.2.2.2.2))))))))))))))))))) .fail)) .fail) (.done (.inr ((v.1,v.2.2.2.2)))))
def qKO (n:Nat) (x0:RW):Tr (RW):=(.opt (zD (qE3 n) n ((0:Nat),x0,(x0.length:Int),(0:Int),([]:RW))) fun r156=>(.ask (decide (r156.1=r156.2.length)) (.done r156.2) .fail))
def qE4:Nat→RW→Option (RW)
 |0,_=>none
 |n+1,x0=>(qKO n x0).run
abbrev qKP (n:Nat):List (Ent (Rn n)):= [en (qG8 n)]
def qMc (n:Nat):LEnt (KB 77) (Rn n) n:=lok (zL 77) 29 ⟨⟨[(3,(.c (.own 0 384 0 0))),(7,aL),(8,aI),(9,aI)],[(384,⟨0,4,159,(.row [])⟩)],[]⟩,[(.exit 0,⟨[(3,(.c (.own 0 384 0 0)))],[(384,⟨0,4,159,(.row [])⟩)],[]⟩)]⟩ (qE3 n) (qKP n) [] fun _=>(by kernel_rfl)
theorem qOr:∀n,Ok (Rn n) qPt (qE4 n)
 |0=>ok0 fun _=>rfl
 |n+1=>stO (T:=qKO n) (by kernel_rfl) (qKP n) [qMc n] (fun _=>(by kernel_rfl)) fun _=>(by kernel_rfl)
def qOs:Sg:=⟨123,[(.agg [qI,qI,qI,qI]),(.agg [qI,qI])],[],⟨aB,[],[]⟩⟩
def qF5 (n:Nat) (x0 x1 x2 x3 x4 x5:Int):Tr (Bool):=(.opt (qAP n x4 x0 x2) fun r169=>(.ask (r169) (.opt (qAP n x5 x1 x3) fun r170=>(.done r170)) (.done false)))
def qF6:Nat→Int→Int→Int→Int→Int→Int→Option (Bool)
 |0,_,_,_,_,_,_=>none
 |n+1,x0,x1,x2,x3,x4,x5=>(qF5 n x0 x1 x2 x3 x4 x5).run
abbrev qOt (n:Nat):List (Ent (Rn n)):= [en (qDE n)]
theorem qNc:∀n,Ok (Rn n) qOs (qF6 n)
 |0=>ok0 fun _=>rfl
 |n+1=>stO (T:=qF5 n) (by kernel_rfl) (qOt n) [] (fun _=>(by kernel_rfl)) fun _=>(by kernel_rfl)
def qQn:Sg:=⟨122,[(.agg [qI,qI,qI,qI]),(.c (.rp [vI,vI] 0))],[],⟨aB,[],[]⟩⟩
def qIA (n:Nat) (x0 x1 x2 x3 x4 x5:Int):Tr (Bool):=(.opt (some x4:Option Int) fun y167=>(.opt (some x5:Option Int) fun y168=>(.opt (qF6 n x0 x1 x2 x3 y167 y168) fun r171=>(.done r171))))
def qFd:Nat→Int→Int→Int→Int→Int→Int→Option (Bool)
 |0,_,_,_,_,_,_=>none
 |n+1,x0,x1,x2,x3,x4,x5=>(qIA n x0 x1 x2 x3 x4 x5).run
abbrev qQo (n:Nat):List (Ent (Rn n)):= [en (qNc n)]
theorem qPu:∀n,Ok (Rn n) qQn (qFd n)
 |0=>ok0 fun _=>rfl
 |n+1=>stO (T:=qIA n) (by kernel_rfl) (qQo n) [] (fun _=>(by kernel_rfl)) fun _=>(by kernel_rfl)
def qCI:Sg:=⟨162,[aL,(.c (.fn 122 [(.rp [vI,vI])]))],[],⟨aI,[],[]⟩⟩
def qh (n:Nat) (v:RW×Int×Int×Int×Int):Tr ((RW×Int×Int×Int×Int)⊕((Int)⊕(Unit))):=(.ask ((decide (v.2.2.2.2<v.2.2.2.1))) (.ask (decide (0≤v.2.2.2.2∧v.2.2.2.2<v.1.length)) (.opt (v.1[(v.2.2.2.2).toNat]?) fun e162=>(.ask (decide (e162.length=4)) (.opt (zC .i64 e162 0) fun y163=>(.opt (zC .i64 e162 1) fun y164=>(.opt (zC .i64 e162 2) fun y165=>(.opt (zC .i64 e162 3) fun y166=>(.opt (qFd n y163 y164 y165 y166 v.2.1 v.2.2.1) fun r167=>(.ask (r167) (.done (.inr (.inl (v.2.2.2.2)))) (.done (.inl (v.1,v.2.1,v.2.2.1,v.2.2.2.1,(IntKind.i64.wrap (v.2.2.2.2+(1:Int)))))))))))) .fail)) .fail) (.done (.inr (.inr (())))))
def qm (n:Nat) (x0:RW) (x1 x2:Int):Tr (Int):=(.opt (zD (qh n) n (x0,x1,x2,(x0.length:Int),(0:Int))) fun r168=>(.alt r168 (fun r169=>(.done r169)) (fun r170=>(.done (-1:Int)))))
def qAJ:Nat→RW→Int→Int→Option (Int)
 |0,_,_,_=>none
 |n+1,x0,x1,x2=>(qm n x0 x1 x2).run
abbrev qAu (n:Nat):List (Ent (Rn n)):= [en (qPu n)]
def qB6 (n:Nat):LEnt (KB 162) (Rn n) n:=lok (zL 162) 13 ⟨⟨[(0,aL),(1,(.c (.fn 122 [(.rp [vI,vI])]))),(7,aI),(8,aI)],[],[]⟩,[(.ret,⟨[(4,aI)],[],[]⟩),(.exit 0,⟨[],[],[]⟩)]⟩ (qh n) (qAu n) [] fun _=>(by kernel_rfl)
theorem qCD:∀n,Ok (Rn n) qCI (qAJ n)
 |0=>ok0 fun _=>rfl
 |n+1=>stO (T:=qm n) (by kernel_rfl) (qAu n) [qB6 n] (fun _=>(by kernel_rfl)) fun _=>(by kernel_rfl)
def qB7:Sg:=⟨121,[aL,(.c (.fn 122 [(.rp [vI,vI])]))],[],⟨aB,[],[]⟩⟩
def qAA (n:Nat) (x0:RW) (x1 x2:Int):Tr (Bool):=(.opt (qAJ n x0 x1 x2) fun r171=>(.done (decide (r171≥(0:Int)))))
def qAB:Nat→RW→Int→Int→Option (Bool)
 |0,_,_,_=>none
 |n+1,x0,x1,x2=>(qAA n x0 x1 x2).run
abbrev qB8 (n:Nat):List (Ent (Rn n)):= [en (qCD n)]
theorem qB1:∀n,Ok (Rn n) qB7 (qAB n)
 |0=>ok0 fun _=>rfl
 |n+1=>stO (T:=qAA n) (by kernel_rfl) (qB8 n) [] (fun _=>(by kernel_rfl)) fun _=>(by kernel_rfl)
def qR6:Sg:=⟨78,[aL,(.agg [qI,qI])],[],⟨aB,[],[]⟩⟩
def qKQ (n:Nat) (x0:RW) (x1 x2:Int):Tr (Bool):=(.opt (qAB n x0 x1 x2) fun r172=>(.done r172))
def qHh:Nat→RW→Int→Int→Option (Bool)
 |0,_,_,_=>none
 |n+1,x0,x1,x2=>(qKQ n x0 x1 x2).run
abbrev qR7 (n:Nat):List (Ent (Rn n)):= [en (qB1 n)]
theorem qRb:∀n,Ok (Rn n) qR6 (qHh n)
 |0=>ok0 fun _=>rfl
 |n+1=>stO (T:=qKQ n) (by kernel_rfl) (qR7 n) [] (fun _=>(by kernel_rfl)) fun _=>(by kernel_rfl)
def qOu:Sg:=⟨84,[aL],[],⟨(.agg [qL,qL,qL]),[],[]⟩⟩
def qBU (n:Nat) (v:RW×RW×RW×Nat×RW×Int×Int×RW×Int×Int×RW×Nat×Nat×RW×RW×RW):Tr ((RW×RW×RW×Nat×RW×Int×Int×RW×Int×Int×RW×Nat×Nat×RW×RW×RW)⊕((RW×RW×Nat×RW×Int×Int×RW×Nat×Nat×RW×RW×RW))):=(.ask ((decide (v.2.2.2.2.2.2.2.2.2.1<v.2.2.2.2.2.2.2.2.1))) (.ask (decide (0≤v.2.2.2.2.2.2.2.2.2.1∧v.2.2.2.2.2.2.2.2.2.1<v.2.2.2.2.2.2.2.1.length)) (.opt (v.2.2.2.2.2.2.2.1[(v.2.2.2.2.2.2.2.2.2.1).toNat]?) fun e138=>(.ask (decide (e138.length=3)) (.opt (zC .i64 e138 0) fun y139=>(.opt (zC .i64 e138 1) fun y140=>(.opt (zX e138 2) fun y141=>(.opt (qHh n v.2.2.1 y139 y140) fun r142=>(.ask (r142) (.ask (decide (1=([[(.i .i64 v.2.2.2.2.2.2.2.2.2.1)]]:RW).length)) (.ask (decide (v.2.2.2.1=v.2.2.2.2.2.2.2.2.2.2.2.2.2.1.length∧0<1∧0<8∧(v.2.2.2.1+([[(.i .i64 v.2.2.2.2.2.2.2.2.2.1)]]:RW).length)*8≤140737488355328∧([[(.i .i64 v.2.2.2.2.2.2.2.2.2.1)]]:RW).all (fun e=>e.length==1)=true)) (.done (.inl (v.1,v.2.1,v.2.2.1,(v.2.2.2.1+1),v.2.2.2.2.1,v.2.2.2.2.2.1,v.2.2.2.2.2.2.1,v.2.2.2.2.2.2.2.1,v.2.2.2.2.2.2.2.2.1,(IntKind.i64.wrap (v.2.2.2.2.2.2.2.2.2.1+(1:Int))),v.2.2.2.2.2.2.2.2.2.2.1,v.2.2.2.2.2.2.2.2.2.2.2.1,v.2.2.2.2.2.2.2.2.2.2.2.2.1,(v.2.2.2.2.2.2.2.2.2.2.2.2.2.1++([[(.i .i64 v.2.2.2.2.2.2.2.2.2.1)]]:RW)),v.2.2.2.2.2.2.2.2.2.2.2.2.2.2.1,v.2.2.2.2.2.2.2.2.2.2.2.2.2.2.2))) .fail) .fail) (.done (.inl (v.1,v.2.1,v.2.2.1,v.2.2.2.1,v.2.2.2.2.1,v.2.2.2.2.2.1,v.2.2.2.2.2.2.1,v.2.2.2.2.2.2.2.1,v.2.2.2.2.2.2.2.2.1,(IntKind.i64.wrap (v.2.2.2.2.2.2.2.2.2.1+(1:Int))),v.2.2.2.2.2.2.2.2.2.2.1,v.2.2.2.2.2.2.2.2.2.2.2.1,v.2.2.2.2.2.2.2.2.2.2.2.2.1,v.2.2.2.2.2.2.2.2.2.2.2.2.2.1,v.2.2.2.2.2.2.2.2.2.2.2.2.2.2.1,v.2.2.2.2.2.2.2.2.2.2.2.2.2.2.2)))))))) .fail)) .fail) (.done (.inr ((v.1,v.2.1,v.2.2.2.1,v.2.2.2.2.1,v.2.2.2.2.2.1,v.2.2.2.2.2.2.1,v.2.2.2.2.2.2.2.2.2.2.1,v.2.2.2.2.2.2.2.2.2.2.2.1,v.2.2.2.2.2.2.2.2.2.2.2.2.1,v.2.2.2.2.2.2.2.2.2.2.2.2.2.1,v.2.2.2.2.2.2.2.2.2.2.2.2.2.2.1,v.2.2.2.2.2.2.2.2.2.2.2.2.2.2.2)))))
def qEZ (n:Nat) (v:RW×RW×Int×Int×RW×Nat×Nat×RW×RW):Tr ((RW×RW×Int×Int×RW×Nat×Nat×RW×RW)⊕((RW×Nat×Nat×RW×RW))):=(.ask ((decide (v.2.2.2.1<v.2.2.1))) (.ask (decide (0≤v.2.2.2.1∧v.2.2.2.1<v.2.1.length)) (.opt (v.2.1[(v.2.2.2.1).toNat]?) fun e132=>(.ask (decide (e132.length=3)) (.opt (zC .i64 e132 0) fun y133=>(.opt (zC .i64 e132 1) fun y134=>(.opt (zX e132 2) fun y135=>(.opt (qD1 n y135) fun r136=>(.opt (qE4 n r136.1) fun r137=>(.opt (zD (qBU n) n (v.1,r136.1,r137,(0:Nat),v.2.1,v.2.2.1,v.2.2.2.1,v.1,(v.1.length:Int),(0:Int),v.2.2.2.2.1,v.2.2.2.2.2.1,v.2.2.2.2.2.2.1,([]:RW),v.2.2.2.2.2.2.2.1,v.2.2.2.2.2.2.2.2)) fun r143=>(.ask (decide (1=([[(.ls r143.2.1)]]:RW).length)) (.ask (decide (r143.2.2.2.2.2.2.2.1=r143.2.2.2.2.2.2.2.2.2.2.1.length∧0<1∧0<24∧(r143.2.2.2.2.2.2.2.1+([[(.ls r143.2.1)]]:RW).length)*24≤140737488355328∧([[(.ls r143.2.1)]]:RW).all (fun e=>e.length==1)=true)) (.ask (decide (r143.2.2.1=r143.2.2.2.2.2.2.2.2.2.1.length)) (.ask (decide (1=([[(.ls r143.2.2.2.2.2.2.2.2.2.1)]]:RW).length)) (.ask (decide (r143.2.2.2.2.2.2.2.2.1=r143.2.2.2.2.2.2.2.2.2.2.2.length∧0<1∧0<24∧(r143.2.2.2.2.2.2.2.2.1+([[(.ls r143.2.2.2.2.2.2.2.2.2.1)]]:RW).length)*24≤140737488355328∧([[(.ls r143.2.2.2.2.2.2.2.2.2.1)]]:RW).all (fun e=>e.length==1)=true)) (.done (.inl (r143.1,r143.2.2.2.1,r143.2.2.2.2.1,(IntKind.i64.wrap (r143.2.2.2.2.2.1+(1:Int))),r143.2.2.2.2.2.2.1,(r143.2.2.2.2.2.2.2.1+1),(r143.2.2.2.2.2.2.2.2.1+1),(r143.2.2.2.2.2.2.2.2.2.2.1++([[(.ls r143.2.1)]]:RW)),(r143.2.2.2.2.2.2.2.2.2.2.2++([[(.ls r143.2.2.2.2.2.2.2.2.2.1)]]:RW))))) .fail) .fail) .fail) .fail) .fail))))))) .fail)) .fail) (.done (.inr ((v.2.2.2.2.1,v.2.2.2.2.2.1,v.2.2.2.2.2.2.1,v.2.2.2.2.2.2.2.1,v.2.2.2.2.2.2.2.2)))))
def qJW (n:Nat) (x0:RW):Tr (RW×RW×RW):=(.opt (zD (qEZ n) n (x0,x0,(x0.length:Int),(0:Int),x0,(0:Nat),(0:Nat),([]:RW),([]:RW))) fun r144=>(.ask (decide (r144.2.1=r144.2.2.2.1.length)) (.ask (decide (r144.2.2.1=r144.2.2.2.2.length)) (.done (r144.1,r144.2.2.2.1,r144.2.2.2.2)) .fail) .fail))
def qF7:Nat→RW→Option (RW×RW×RW)
 |0,_=>none
 |n+1,x0=>(qJW n x0).run
abbrev qF8 (n:Nat):List (Ent (Rn n)):= [en (qMb n),en (qOr n),en (qRb n)]
def qKR (n:Nat):LEnt (lb 29 (KB 84)) (Rn n) n:=lok (Uniq.pick (zL 84) 29) 7645 ⟨⟨[(0,aL),(2,(.c (.ptr 0 128 0 0 0))),(3,(.c (.ptr 0 192 0 0 0))),(6,aL),(8,aL),(9,(.c (.own 0 1792 0 0))),(14,aL),(15,aI),(16,aI),(29,aL),(30,aI),(31,aI)],[(128,⟨0,3,120,(.box [(.p .nl),(.p .nl),(.p .nl)])⟩),(192,⟨0,3,120,(.box [qL,(.own 0 194 0 0),(.own 0 195 0 0)])⟩),(1792,⟨0,1,3,(.row [])⟩),(194,⟨0,1,107,(.row [])⟩),(195,⟨0,1,167,(.row [])⟩)],[]⟩,[(.exit 2,⟨[(0,aL),(2,(.c (.ptr 0 128 0 0 0))),(3,(.c (.ptr 0 192 0 0 0))),(6,aL),(9,(.c (.own 0 1792 0 0))),(14,aL),(15,aI),(16,aI)],[(128,⟨0,3,120,(.box [(.p .nl),(.p .nl),(.p .nl)])⟩),(192,⟨0,3,120,(.box [qL,(.own 0 194 0 0),(.own 0 195 0 0)])⟩),(1792,⟨0,1,3,(.row [])⟩),(194,⟨0,1,107,(.row [])⟩),(195,⟨0,1,167,(.row [])⟩)],[]⟩)]⟩ (qBU n) (qF8 n) [] fun _=>(by kernel_rfl)
def qL4 (n:Nat):LEnt (KB 84) (Rn n) n:=lok (zL 84) 29 ⟨⟨[(0,aL),(2,(.c (.ptr 0 128 0 0 0))),(3,(.c (.ptr 0 192 0 0 0))),(14,aL),(15,aI),(16,aI)],[(128,⟨0,3,120,(.box [(.p .nl),(.p .nl),(.p .nl)])⟩),(192,⟨0,3,120,(.box [qL,(.own 0 194 0 0),(.own 0 195 0 0)])⟩),(194,⟨0,1,107,(.row [])⟩),(195,⟨0,1,167,(.row [])⟩)],[]⟩,[(.exit 0,⟨[(2,(.c (.ptr 0 128 0 0 0))),(3,(.c (.ptr 0 192 0 0 0)))],[(128,⟨0,3,120,(.box [(.p .nl),(.p .nl),(.p .nl)])⟩),(192,⟨0,3,120,(.box [qL,(.own 0 194 0 0),(.own 0 195 0 0)])⟩),(194,⟨0,1,107,(.row [])⟩),(195,⟨0,1,167,(.row [])⟩)],[]⟩)]⟩ (qEZ n) (qF8 n) [qKR n] fun _=>(by kernel_rfl)
theorem qNd:∀n,Ok (Rn n) qOu (qF7 n)
 |0=>ok0 fun _=>rfl
 |n+1=>stO (T:=qJW n) (by kernel_rfl) (qF8 n) [qL4 n] (fun _=>(by kernel_rfl)) fun _=>(by kernel_rfl)
def qI3:Sg:=⟨125,[aL],[],⟨(.c (.own 0 0 0 0)),[],[⟨0,1,3,(.row [])⟩]⟩⟩
def qDR (n:Nat) (x0:RW):Tr (Nat×RW):=(.ask (decide (0=([]:RW).length∧0<1∧0<8∧(0+x0.length)*8≤140737488355328∧x0.all (fun e=>e.length==1)=true)) (.ask (!(x0).isEmpty||zB6 (⟨(.c (.own 0 0 0 (0+x0.length))),[],[⟨0,1,3,(.row (([]:RW)++x0))⟩]⟩:Res)) (.done ((0+x0.length),(([]:RW)++x0))) .fail) .fail)
def qDS:Nat→RW→Option (Nat×RW)
 |0,_=>none
 |n+1,x0=>(qDR n x0).run
theorem qIY:∀n,Ok (Rn n) qI3 (qDS n)
 |0=>ok0 fun _=>rfl
 |n+1=>stO (T:=qDR n) (by kernel_rfl) [] [] (fun _=>(by kernel_rfl)) fun _=>(by kernel_rfl)
def qLI:Sg:=⟨85,[(.agg [qL,qL,qL]),aI],[],⟨aB,[],[]⟩⟩
def qDT (n:Nat) (v:Int×Nat×Nat×Int×RW×RW×RW×RW×RW):Tr ((Int×Nat×Nat×Int×RW×RW×RW×RW×RW)⊕((Bool)⊕(Unit))):=(.ask ((decide (v.2.2.2.1<((v.2.2.1:Nat):Int)))) (.ask (decide (v.2.2.1=v.2.2.2.2.2.2.2.2.length∧0≤v.2.2.2.1∧v.2.2.2.1<((v.2.2.1:Nat):Int))) (.opt (v.2.2.2.2.2.2.2.2[(v.2.2.2.1).toNat]?) fun e149=>(.opt (zC .i64 e149 0) fun y150=>(.ask ((y150==v.1)) (.done (.inr (.inl (true)))) (.ask (decide (v.2.1=v.2.2.2.2.2.2.2.1.length∧0≤y150∧y150<((v.2.1:Nat):Int))) (.opt (v.2.2.2.2.2.2.2.1[(y150).toNat]?) fun e151=>(.opt (zu e151 0) fun y152=>(.ask ((!y152)) (.ask (decide (v.2.1=v.2.2.2.2.2.2.2.1.length∧0≤y150∧y150<((v.2.1:Nat):Int))) (.opt (v.2.2.2.2.2.2.2.1[(y150).toNat]?) fun e153=>(.ask (decide (0+1≤e153.length)) (.ask (decide (0≤y150∧y150<v.2.2.2.2.2.2.1.length)) (.opt (v.2.2.2.2.2.2.1[(y150).toNat]?) fun e154=>(.ask (decide (e154.length=1)) (.opt (zAb e154 0) fun y155=>(.ask (decide (v.2.2.1=v.2.2.2.2.2.2.2.2.length∧0<1∧0<8∧(v.2.2.1+y155.length)*8≤140737488355328∧y155.all (fun e=>e.length==1)=true)) (.done (.inl (v.1,v.2.1,(v.2.2.1+y155.length),(IntKind.i64.wrap (v.2.2.2.1+(1:Int))),v.2.2.2.2.1,v.2.2.2.2.2.1,v.2.2.2.2.2.2.1,(v.2.2.2.2.2.2.2.1.set (y150).toNat (zx e153 0 [(.b true)])),(v.2.2.2.2.2.2.2.2++y155)))) .fail)) .fail)) .fail) .fail)) .fail) (.done (.inl (v.1,v.2.1,v.2.2.1,(IntKind.i64.wrap (v.2.2.2.1+(1:Int))),v.2.2.2.2.1,v.2.2.2.2.2.1,v.2.2.2.2.2.2.1,v.2.2.2.2.2.2.2.1,v.2.2.2.2.2.2.2.2)))))) .fail)))) .fail) (.done (.inr (.inr (())))))
def qEF (n:Nat) (x0 x1 x2:RW) (x3:Int):Tr (Bool):=(.ask (decide (0≤(x0.length:Int)∧(x0.length:Int)=(x0.length:Int)∧1*(x0.length:Int)≤140737488355328∧(x0.length:Int)≤9223372036854775807)) (.ask (decide (0≤x3∧x3<x2.length)) (.opt (x2[(x3).toNat]?) fun e146=>(.ask (decide (e146.length=1)) (.opt (zAb e146 0) fun y147=>(.opt (qDS n y147) fun r148=>(.opt (zD (qDT n) n (x3,((x0.length:Int)).toNat,r148.1,(0:Int),x0,x1,x2,(zAI [(.b false)] ((x0.length:Int)).toNat),r148.2)) fun r156=>(.alt r156 (fun r157=>(.done r157)) (fun r158=>(.done false)))))) .fail)) .fail) .fail)
def qEG:Nat→RW→RW→RW→Int→Option (Bool)
 |0,_,_,_,_=>none
 |n+1,x0,x1,x2,x3=>(qEF n x0 x1 x2 x3).run
abbrev qGM (n:Nat):List (Ent (Rn n)):= [en (qIY n)]
def qI4 (n:Nat):LEnt (KB 85) (Rn n) n:=lok (zL 85) 61 ⟨⟨[(1,aI),(2,(.c (.ptr 0 128 0 0 0))),(5,(.c (.own 0 768 0 0))),(6,(.c (.own 0 1192 0 0))),(7,aI)],[(128,⟨0,3,120,(.box [qL,qL,qL])⟩),(768,⟨0,1,4,(.row [])⟩),(1192,⟨0,1,3,(.row [])⟩)],[]⟩,[(.ret,⟨[(4,aB)],[],[]⟩),(.exit 0,⟨[],[],[]⟩)]⟩ (qDT n) (qGM n) [] fun _=>(by kernel_rfl)
theorem qKS:∀n,Ok (Rn n) qLI (qEG n)
 |0=>ok0 fun _=>rfl
 |n+1=>stO (T:=qEF n) (by kernel_rfl) (qGM n) [qI4 n] (fun _=>(by kernel_rfl)) fun _=>(by kernel_rfl)
def qOv:Sg:=⟨38,[aL,(.agg [qI,qI])],[],⟨aB,[],[]⟩⟩
def qDa (n:Nat) (x0:RW) (x1 x2:Int):Tr (Bool):=(.opt (qHE n x0) fun r122=>(.ask ((!r122)) (.done false) (.opt (qy n x0 x1 x2) fun r131=>(.ask ((decide (r131≥(0:Int)))) (.opt (qF7 n x0) fun r145=>(.opt (qEG n r145.1 r145.2.1 r145.2.2 r131) fun r159=>(.done r159))) (.done false)))))
def qF9:Nat→RW→Int→Int→Option (Bool)
 |0,_,_,_=>none
 |n+1,x0,x1,x2=>(qDa n x0 x1 x2).run
abbrev qOw (n:Nat):List (Ent (Rn n)):= [en (qOq n),en (qBv n),en (qNd n),en (qKS n)]
theorem qNe:∀n,Ok (Rn n) qOv (qF9 n)
 |0=>ok0 fun _=>rfl
 |n+1=>stO (T:=qDa n) (by kernel_rfl) (qOw n) [] (fun _=>(by kernel_rfl)) fun _=>(by kernel_rfl)
def qRc:Sg:=⟨79,[(.agg [qI,qI]),(.agg [qI,qI])],[],⟨aB,[],[]⟩⟩
def qI5 (n:Nat) (x0 x1 x2 x3:Int):Tr (Bool):=(.ask ((x0 !=x2)) (.done false) (.ask ((x1 !=x3)) (.done false) (.done true)))
def qI6:Nat→Int→Int→Int→Int→Option (Bool)
 |0,_,_,_,_=>none
 |n+1,x0,x1,x2,x3=>(qI5 n x0 x1 x2 x3).run
theorem qQp:∀n,Ok (Rn n) qRc (qI6 n)
 |0=>ok0 fun _=>rfl
 |n+1=>stO (T:=qI5 n) (by kernel_rfl) [] [] (fun _=>(by kernel_rfl)) fun _=>(by kernel_rfl)
def qQq:Sg:=⟨49,[(.agg [qI,qI,qS]),(.agg [qI,qI,qS])],[],⟨aB,[],[]⟩⟩
def qIB (n:Nat) (x0 x1:Int) (x2:BA) (x3 x4:Int) (x5:BA):Tr (Bool):=(.opt (qI6 n x0 x1 x3 x4) fun r170=>(.ask ((!r170)) (.done false) (.ask ((!(x2.toList==x5.toList))) (.done false) (.done true))))
def qFe:Nat→Int→Int→BA→Int→Int→BA→Option (Bool)
 |0,_,_,_,_,_,_=>none
 |n+1,x0,x1,x2,x3,x4,x5=>(qIB n x0 x1 x2 x3 x4 x5).run
abbrev qQr (n:Nat):List (Ent (Rn n)):= [en (qQp n)]
theorem qPv:∀n,Ok (Rn n) qQq (qFe n)
 |0=>ok0 fun _=>rfl
 |n+1=>stO (T:=qIB n) (by kernel_rfl) (qQr n) [] (fun _=>(by kernel_rfl)) fun _=>(by kernel_rfl)
def qPw:Sg:=⟨16,[aL,aL],[],⟨aB,[],[]⟩⟩
def qCq (n:Nat) (v:RW×RW×Int):Tr ((RW×RW×Int)⊕((Bool)⊕(Unit))):=(.ask ((decide (v.2.2<(v.1.length:Int)))) (.ask (decide (0≤v.2.2∧v.2.2<v.1.length)) (.opt (v.1[(v.2.2).toNat]?) fun e162=>(.ask (decide (e162.length=3)) (.opt (zC .i64 e162 0) fun y163=>(.opt (zC .i64 e162 1) fun y164=>(.opt (zX e162 2) fun y165=>(.ask (decide (0≤v.2.2∧v.2.2<v.2.1.length)) (.opt (v.2.1[(v.2.2).toNat]?) fun e166=>(.ask (decide (e166.length=3)) (.opt (zC .i64 e166 0) fun y167=>(.opt (zC .i64 e166 1) fun y168=>(.opt (zX e166 2) fun y169=>(.opt (qFe n y163 y164 y165 y167 y168 y169) fun r170=>(.ask ((!r170)) (.done (.inr (.inl (false)))) (.done (.inl (v.1,v.2.1,(IntKind.i64.wrap (v.2.2+(1:Int))))))))))) .fail)) .fail)))) .fail)) .fail) (.done (.inr (.inr (())))))
def qHF (n:Nat) (x0 x1:RW):Tr (Bool):=(.ask (((x0.length:Int) !=(x1.length:Int))) (.done false) (.opt (zD (qCq n) n (x0,x1,(0:Int))) fun r171=>(.alt r171 (fun r172=>(.done r172)) (fun r173=>(.done true)))))
def qE5:Nat→RW→RW→Option (Bool)
 |0,_,_=>none
 |n+1,x0,x1=>(qHF n x0 x1).run
abbrev qKT (n:Nat):List (Ent (Rn n)):= [en (qPv n)]
def qMd (n:Nat):LEnt (KB 16) (Rn n) n:=lok (zL 16) 29 ⟨⟨[(0,aL),(1,aL),(5,aI)],[],[]⟩,[(.ret,⟨[(4,aB)],[],[]⟩),(.exit 0,⟨[],[],[]⟩)]⟩ (qCq n) (qKT n) [] fun _=>(by kernel_rfl)
theorem qOx:∀n,Ok (Rn n) qPw (qE5 n)
 |0=>ok0 fun _=>rfl
 |n+1=>stO (T:=qHF n) (by kernel_rfl) (qKT n) [qMd n] (fun _=>(by kernel_rfl)) fun _=>(by kernel_rfl)
def qI7:Sg:=⟨9,[aL,(.agg [qI,qI])],[],⟨aB,[],[]⟩⟩
def qDU (n:Nat) (x0:RW) (x1 x2:Int):Tr (Bool):=(.opt (qEl n x0 (1048576:Int)) fun r9=>(.ask ((decide (r9<(0:Int)))) (.done true) (.opt (qC7 n x0) fun r17=>(.opt (qDJ n x1 x2) fun r18=>(.ask (decide (r17.1=r17.2.length)) (.opt (qF1 n r17.2 r18.1 r18.2) fun r105=>(.ask (zAS (⟨(.c (.p (.b r105))),[],[]⟩:Res)) (.opt (qC7 n x0) fun r106=>(.opt (qDJ n x1 x2) fun r107=>(.ask (decide (r106.1=r106.2.length)) (.opt (qF9 n r106.2 r107.1 r107.2) fun r160=>(.ask (zAS (⟨(.c (.p (.b r160))),[],[]⟩:Res)) (.ask ((!(r160==r105))) (.done false) (.opt (qC7 n x0) fun r161=>(.ask (decide (r106.1=r106.2.length)) (.ask (decide (r161.1=r161.2.length)) (.opt (qE5 n r106.2 r161.2) fun r174=>(.ask (zAS (⟨(.c (.p (.b r174))),[],[]⟩:Res)) (.ask ((!r174)) (.done false) (.done true)) .fail)) .fail) .fail))) .fail)) .fail))) .fail)) .fail)))))
def qE6:Nat→RW→Int→Int→Option (Bool)
 |0,_,_,_=>none
 |n+1,x0,x1,x2=>(qDU n x0 x1 x2).run
abbrev qI8 (n:Nat):List (Ent (Rn n)):= [en (qOD n),en (qOE n),en (qLO n),en (qNL n),en (qNe n),en (qOx n)]
theorem qIZ:∀n,Ok (Rn n) qI7 (qE6 n)
 |0=>ok0 fun _=>rfl
 |n+1=>stO (T:=qDU n) (by kernel_rfl) (qI8 n) [] (fun _=>(by kernel_rfl)) fun _=>(by kernel_rfl)
end
end Go.Proofs.YtkkkfjgagjdcoaaGreatDoor.KFnExactInCircle

