import Derived.Test.YtkkkfjgagjdcoaaGreatDoorKFnExactSourceAt
namespace Go.Proofs.YtkkkfjgagjdcoaaGreatDoor.KFnExactSourceAt
open Go.Eng
set_option linter.unusedVariables false
set_option maxRecDepth 100000
noncomputable section
abbrev RW:=List (List PV)
abbrev BA:=ByteArray
def qN8:Sg:=⟨43,[(.agg [qI,qI,qS]),aI],[],⟨aI,[],[]⟩⟩
def qGW (n:Nat) (x0 x1:Int) (x2:BA) (x3:Int):Tr (Int):=(.ask ((decide ((IntKind.i64.wrap (x3-(x2.size:Int)))<(0:Int)))) (.done (-1:Int)) (.done (IntKind.i64.wrap (x3-(x2.size:Int)))))
def qEW:Nat→Int→Int→BA→Int→Option (Int)
 |0,_,_,_,_=>none
 |n+1,x0,x1,x2,x3=>(qGW n x0 x1 x2 x3).run
theorem qM4:∀n,Ok (Rn n) qN8 (qEW n)
 |0=>ok0 fun _=>rfl
 |n+1=>stO (T:=qGW n) (by kernel_rfl) [] [] (fun _=>(by kernel_rfl)) fun _=>(by kernel_rfl)
def qM5:Sg:=⟨11,[aL,aI],[],⟨aI,[],[]⟩⟩
def qBk (n:Nat) (v:RW×Int×Int):Tr ((RW×Int×Int)⊕((Int)⊕(Int))):=(.ask ((decide (v.2.2<(v.1.length:Int)))) (.ask (decide (0≤v.2.2∧v.2.2<v.1.length)) (.opt (v.1[(v.2.2).toNat]?) fun e1=>(.ask (decide (e1.length=3)) (.opt (zD .i64 e1 0) fun y2=>(.opt (zD .i64 e1 1) fun y3=>(.opt (zX e1 2) fun y4=>(.opt (qEW n y2 y3 y4 v.2.1) fun r5=>(.ask ((decide (r5<(0:Int)))) (.done (.inr (.inl ((-1:Int))))) (.done (.inl (v.1,r5,(IntKind.i64.wrap (v.2.2+(1:Int))))))))))) .fail)) .fail) (.done (.inr (.inr (v.2.1)))))
def qFO (n:Nat) (x0:RW) (x1:Int):Tr (Int):=(.ask ((decide ((IntKind.i64.wrap (x1-(x0.length:Int)))<(0:Int)))) (.done (-1:Int)) (.opt (zC (qBk n) n (x0,(IntKind.i64.wrap (x1-(x0.length:Int))),(0:Int))) fun r6=>(.alt r6 (fun r7=>(.done r7)) (fun r8=>(.done r8)))))
def qDw:Nat→RW→Int→Option (Int)
 |0,_,_=>none
 |n+1,x0,x1=>(qFO n x0 x1).run
abbrev qIL (n:Nat):List (Ent (Rn n)):= [en (qM4 n)]
def qKb (n:Nat):LEnt (KB 11) (Rn n) n:=lok (zR 11) 61 ⟨⟨[(0,aL),(1,aI),(5,aI)],[],[]⟩,[(.ret,⟨[(4,aI)],[],[]⟩),(.exit 0,⟨[(1,aI)],[],[]⟩)]⟩ (qBk n) (qIL n) [] fun _=>(by kernel_rfl)
theorem qMG:∀n,Ok (Rn n) qM5 (qDw n)
 |0=>ok0 fun _=>rfl
 |n+1=>stO (T:=qFO n) (by kernel_rfl) (qIL n) [qKb n] (fun _=>(by kernel_rfl)) fun _=>(by kernel_rfl)
def qOy:Sg:=⟨14,[(.agg [qI,qI])],[],⟨(.agg [qI,qI]),[],[]⟩⟩
def qFG (n:Nat) (x0 x1:Int):Tr (Int×Int):=(.done (x0,x1))
def qCp:Nat→Int→Int→Option (Int×Int)
 |0,_,_=>none
 |n+1,x0,x1=>(qFG n x0 x1).run
theorem qJm:∀n,Ok (Rn n) qOy (qCp n)
 |0=>ok0 fun _=>rfl
 |n+1=>stO (T:=qFG n) (by kernel_rfl) [] [] (fun _=>(by kernel_rfl)) fun _=>(by kernel_rfl)
def qN9:Sg:=⟨46,[(.agg [qI,qI,qS])],[],⟨(.agg [qI,qI,qS]),[],[]⟩⟩
def qGX (n:Nat) (x0 x1:Int) (x2:BA):Tr (Int×Int×BA):=(.opt (qCp n x0 x1) fun r14=>(.done (r14.1,r14.2,x2)))
def qEX:Nat→Int→Int→BA→Option (Int×Int×BA)
 |0,_,_,_=>none
 |n+1,x0,x1,x2=>(qGX n x0 x1 x2).run
abbrev qOA (n:Nat):List (Ent (Rn n)):= [en (qJm n)]
theorem qM6:∀n,Ok (Rn n) qN9 (qEX n)
 |0=>ok0 fun _=>rfl
 |n+1=>stO (T:=qGX n) (by kernel_rfl) (qOA n) [] (fun _=>(by kernel_rfl)) fun _=>(by kernel_rfl)
def qM7:Sg:=⟨13,[aL],[],⟨(.c (.own 0 0 0 0)),[],[⟨0,3,72,(.row [])⟩]⟩⟩
def qCE (n:Nat) (v:RW×Nat×Int×RW):Tr ((RW×Nat×Int×RW)⊕((Nat×RW))):=(.ask ((decide (v.2.2.1<(v.1.length:Int)))) (.ask (decide (0≤v.2.2.1∧v.2.2.1<v.1.length)) (.opt (v.1[(v.2.2.1).toNat]?) fun e10=>(.ask (decide (e10.length=3)) (.opt (zD .i64 e10 0) fun y11=>(.opt (zD .i64 e10 1) fun y12=>(.opt (zX e10 2) fun y13=>(.opt (qEX n y11 y12 y13) fun r14=>(.ask (decide (v.2.1=v.2.2.2.length∧0≤v.2.2.1∧v.2.2.1<((v.2.1:Nat):Int))) (.opt (v.2.2.2[(v.2.2.1).toNat]?) fun e15=>(.ask (decide (0+3≤e15.length)) (.done (.inl (v.1,v.2.1,(IntKind.i64.wrap (v.2.2.1+(1:Int))),(v.2.2.2.set (v.2.2.1).toNat (zx e15 0 [(.i .i64 r14.1),(.i .i64 r14.2.1),(.s r14.2.2)]))))) .fail)) .fail))))) .fail)) .fail) (.done (.inr ((v.2.1,v.2.2.2)))))
def qFP (n:Nat) (x0:RW):Tr (Nat×RW):=(.ask (decide (0≤(x0.length:Int)∧(x0.length:Int)=(x0.length:Int)∧32*(x0.length:Int)≤140737488355328∧(x0.length:Int)≤9223372036854775807)) (.opt (zC (qCE n) n (x0,((x0.length:Int)).toNat,(0:Int),(zAU [(.i .i64 (0:Int)),(.i .i64 (0:Int)),(.s (⟨#[]⟩:BA))] ((x0.length:Int)).toNat))) fun r16=>(.done (r16.1,r16.2))) .fail)
def qCe:Nat→RW→Option (Nat×RW)
 |0,_=>none
 |n+1,x0=>(qFP n x0).run
abbrev qIM (n:Nat):List (Ent (Rn n)):= [en (qM6 n)]
def qKc (n:Nat):LEnt (KB 13) (Rn n) n:=lok (zR 13) 29 ⟨⟨[(0,aL),(3,(.c (.own 0 448 0 0))),(4,aI)],[(448,⟨0,3,72,(.row [])⟩)],[]⟩,[(.exit 0,⟨[(3,(.c (.own 0 448 0 0)))],[(448,⟨0,3,72,(.row [])⟩)],[]⟩)]⟩ (qCE n) (qIM n) [] fun _=>(by kernel_rfl)
theorem qMH:∀n,Ok (Rn n) qM7 (qCe n)
 |0=>ok0 fun _=>rfl
 |n+1=>stO (T:=qFP n) (by kernel_rfl) (qIM n) [qKc n] (fun _=>(by kernel_rfl)) fun _=>(by kernel_rfl)
def qM8:Sg:=⟨92,[aS],[],⟨aB,[],[]⟩⟩
def qBG (n:Nat) (v:BA×Int):Tr ((BA×Int)⊕((Bool)⊕(BA))):=(.ask ((decide (v.2<(v.1.size:Int)))) (.ask (decide (0≤v.2)) (.opt (v.1.toList[(v.2).toNat]?) fun c21=>(.ask ((decide ((c21.toNat:Int)<(32:Int)))) (.done (.inr (.inl (false)))) (.ask (decide (0≤v.2)) (.opt (v.1.toList[(v.2).toNat]?) fun c22=>(.ask ((decide ((c22.toNat:Int)>(126:Int)))) (.done (.inr (.inl (false)))) (.done (.inl (v.1,(IntKind.i64.wrap (v.2+(1:Int)))))))) .fail))) .fail) (.done (.inr (.inr (v.1)))))
def qFQ (n:Nat) (x0:BA):Tr (Bool):=(.opt (zC (qBG n) n (x0,(0:Int))) fun r23=>(.alt r23 (fun r24=>(.done r24)) (fun r25=>(.done (decide ((r25.size:Int)≤(200:Int)))))))
def qBz:Nat→BA→Option (Bool)
 |0,_=>none
 |n+1,x0=>(qFQ n x0).run
def qKd (n:Nat):LEnt (KB 92) (Rn n) n:=lok (zR 92) 13 ⟨⟨[(0,aS),(3,aI)],[],[]⟩,[(.ret,⟨[(2,aB)],[],[]⟩),(.exit 0,⟨[(0,aS)],[],[]⟩)]⟩ (qBG n) [] [] fun _=>(by kernel_rfl)
theorem qEr:∀n,Ok (Rn n) qM8 (qBz n)
 |0=>ok0 fun _=>rfl
 |n+1=>stO (T:=qFQ n) (by kernel_rfl) [] [qKd n] (fun _=>(by kernel_rfl)) fun _=>(by kernel_rfl)
def qJ1:Sg:=⟨135,[(.c (.ptr 0 0 0 0 0))],[[(0,⟨0,4,175,(.box [qS,qI,qB,(.own 0 1 1 0)])⟩),(1,⟨1,14,162,(.row [])⟩)]],⟨(.tup []),[[(0,⟨0,4,175,(.box [qS,qI,qB,(.own 0 1 1 0)])⟩),(1,⟨1,14,162,(.row [])⟩)]],[]⟩⟩
def qC7 (n:Nat) (v:BA×Int×Bool×Nat×RW):Tr ((BA×Int×Bool×Nat×RW)⊕((BA×Int×Bool×Nat×RW))):=(.ask ((decide (v.2.1<(v.1.size:Int)))) (.ask (decide (0≤v.2.1)) (.opt (v.1.toList[(v.2.1).toNat]?) fun c29=>(.ask (((c29.toNat:Int)==(32:Int))) (.done (.inl (v.1,(IntKind.i64.wrap (v.2.1+(1:Int))),v.2.2.1,v.2.2.2.1,v.2.2.2.2))) (.done (.inr ((v.1,v.2.1,v.2.2.1,v.2.2.2.1,v.2.2.2.2)))))) .fail) (.done (.inr ((v.1,v.2.1,v.2.2.1,v.2.2.2.1,v.2.2.2.2)))))
def qFR (n:Nat) (x0:BA) (x1:Int) (x2:Bool) (x3:Nat) (x4:RW):Tr (BA×Int×Bool×Nat×RW):=(.opt (zC (qC7 n) n (x0,x1,x2,x3,x4)) fun r30=>(.done (r30.1,r30.2.1,r30.2.2.1,r30.2.2.2.1,r30.2.2.2.2)))
def qBS:Nat→BA→Int→Bool→Nat→RW→Option (BA×Int×Bool×Nat×RW)
 |0,_,_,_,_,_=>none
 |n+1,x0,x1,x2,x3,x4=>(qFR n x0 x1 x2 x3 x4).run
def qIN (n:Nat):LEnt (KB 135) (Rn n) n:=lok (zR 135) 1 ⟨⟨[(0,(.c (.ptr 0 0 0 0 0)))],[],[[(0,⟨0,4,175,(.box [qS,qI,qB,(.own 0 1 1 0)])⟩),(1,⟨1,14,162,(.row [])⟩)]]⟩,[(.exit 0,⟨[],[],[[(0,⟨0,4,175,(.box [qS,qI,qB,(.own 0 1 1 0)])⟩),(1,⟨1,14,162,(.row [])⟩)]]⟩)]⟩ (qC7 n) [] [] fun _=>(by kernel_rfl)
theorem qDP:∀n,Ok (Rn n) qJ1 (qBS n)
 |0=>ok0 fun _=>rfl
 |n+1=>stO (T:=qFR n) (by kernel_rfl) [] [qIN n] (fun _=>(by kernel_rfl)) fun _=>(by kernel_rfl)
def qM9:Sg:=⟨208,[(.c (.ptr 0 0 0 0 0)),aS],[[(0,⟨0,4,175,(.box [qS,qI,qB,(.own 0 1 1 0)])⟩),(1,⟨1,14,162,(.row [])⟩)]],⟨aB,[[(0,⟨0,4,175,(.box [qS,qI,qB,(.own 0 1 1 0)])⟩),(1,⟨1,14,162,(.row [])⟩)]],[]⟩⟩
def qIO (n:Nat) (x0 x1:BA) (x2:Int) (x3:Bool) (x4:Nat) (x5:RW):Tr (Bool×BA×Int×Bool×Nat×RW):=(.opt (qBS n x1 x2 x3 x4 x5) fun r31=>(.ask (r31.2.2.1) (.done (false,r31.1,r31.2.1,r31.2.2.1,r31.2.2.2.1,r31.2.2.2.2)) (.ask ((decide ((IntKind.i64.wrap (r31.2.1+(x0.size:Int)))>(r31.1.size:Int)))) (.done (false,r31.1,r31.2.1,r31.2.2.1,r31.2.2.2.1,r31.2.2.2.2)) (.ask (decide (0≤r31.2.1∧r31.2.1≤(IntKind.i64.wrap (r31.2.1+(x0.size:Int)))∧(IntKind.i64.wrap (r31.2.1+(x0.size:Int)))≤r31.1.size)) (.ask ((!((r31.1.extract (r31.2.1).toNat ((IntKind.i64.wrap (r31.2.1+(x0.size:Int)))).toNat).toList==x0.toList))) (.done (false,r31.1,r31.2.1,r31.2.2.1,r31.2.2.2.1,r31.2.2.2.2)) (.done (true,r31.1,(IntKind.i64.wrap (r31.2.1+(x0.size:Int))),r31.2.2.1,r31.2.2.2.1,r31.2.2.2.2))) .fail))))
def q9:Nat→BA→BA→Int→Bool→Nat→RW→Option (Bool×BA×Int×Bool×Nat×RW)
 |0,_,_,_,_,_,_=>none
 |n+1,x0,x1,x2,x3,x4,x5=>(qIO n x0 x1 x2 x3 x4 x5).run
abbrev qNA (n:Nat):List (Ent (Rn n)):= [en (qDP n)]
theorem qDc:∀n,Ok (Rn n) qM9 (q9 n)
 |0=>ok0 fun _=>rfl
 |n+1=>stO (T:=qIO n) (by kernel_rfl) (qNA n) [] (fun _=>(by kernel_rfl)) fun _=>(by kernel_rfl)
def qPW:Sg:=⟨54,[aI,aI,aI],[],⟨aB,[],[]⟩⟩
def qGC (n:Nat) (x0 x1 x2:Int):Tr (Bool):=(.ask ((decide (x0≥x1))) (.done (decide (x0≤x2))) (.done false))
def qA9:Nat→Int→Int→Int→Option (Bool)
 |0,_,_,_=>none
 |n+1,x0,x1,x2=>(qGC n x0 x1 x2).run
theorem qDx:∀n,Ok (Rn n) qPW (qA9 n)
 |0=>ok0 fun _=>rfl
 |n+1=>stO (T:=qGC n) (by kernel_rfl) [] [] (fun _=>(by kernel_rfl)) fun _=>(by kernel_rfl)
def qNB:Sg:=⟨139,[(.agg [qI,qI,qS])],[],⟨aB,[],[]⟩⟩
def qFS (n:Nat) (x0 x1:Int) (x2:BA):Tr (Bool):=(.ask ((x0==(0:Int))) (.ask ((x1==(0:Int))) (.done (x2.toList==(⟨#[]⟩:BA).toList)) (.done false)) (.ask ((x0==(1:Int))) (.opt (qA9 n x1 (-1000000000000000:Int) (1000000000000000:Int)) fun r34=>(.ask (r34) (.done (x2.toList==(⟨#[]⟩:BA).toList)) (.done false))) (.ask ((x0==(2:Int))) (.ask ((x1==(0:Int))) (.opt (qBz n x2) fun r35=>(.done r35)) (.done false)) (.ask ((x0==(3:Int))) (.opt (qA9 n x1 (0:Int) (1:Int)) fun r36=>(.ask (r36) (.done (x2.toList==(⟨#[]⟩:BA).toList)) (.done false))) (.ask ((x0==(4:Int))) (.opt (qA9 n x1 (1:Int) (5:Int)) fun r37=>(.ask (r37) (.done (x2.toList==(⟨#[]⟩:BA).toList)) (.done false))) (.done false))))))
def qX:Nat→Int→Int→BA→Option (Bool)
 |0,_,_,_=>none
 |n+1,x0,x1,x2=>(qFS n x0 x1 x2).run
abbrev qNC (n:Nat):List (Ent (Rn n)):= [en (qDx n),en (qEr n)]
theorem qDd:∀n,Ok (Rn n) qNB (qX n)
 |0=>ok0 fun _=>rfl
 |n+1=>stO (T:=qFS n) (by kernel_rfl) (qNC n) [] (fun _=>(by kernel_rfl)) fun _=>(by kernel_rfl)
def qOz:Sg:=⟨51,[(.agg [qI,qI])],[],⟨aB,[],[]⟩⟩
def qHK (n:Nat) (x0 x1:Int):Tr (Bool):=(.opt (qA9 n x0 (1:Int) (52:Int)) fun r39=>(.ask (r39) (.opt (qA9 n x1 (1:Int) (99:Int)) fun r40=>(.done r40)) (.done false)))
def qAD:Nat→Int→Int→Option (Bool)
 |0,_,_=>none
 |n+1,x0,x1=>(qHK n x0 x1).run
abbrev qO0 (n:Nat):List (Ent (Rn n)):= [en (qDx n)]
theorem qDY:∀n,Ok (Rn n) qOz (qAD n)
 |0=>ok0 fun _=>rfl
 |n+1=>stO (T:=qHK n) (by kernel_rfl) (qO0 n) [] (fun _=>(by kernel_rfl)) fun _=>(by kernel_rfl)
def qOB:Sg:=⟨214,[(.agg [qI,qI,qI,qI])],[],⟨aB,[],[]⟩⟩
def qGY (n:Nat) (x0 x1 x2 x3:Int):Tr (Bool):=(.opt (qAD n x0 x1) fun r42=>(.ask (r42) (.opt (qAD n x2 x3) fun r43=>(.ask (r43) (.ask ((decide (x0≤x2))) (.done (decide (x1≤x3))) (.done false)) (.done false))) (.done false)))
def qEY:Nat→Int→Int→Int→Int→Option (Bool)
 |0,_,_,_,_=>none
 |n+1,x0,x1,x2,x3=>(qGY n x0 x1 x2 x3).run
abbrev qOC (n:Nat):List (Ent (Rn n)):= [en (qDY n)]
theorem qND:∀n,Ok (Rn n) qOB (qEY n)
 |0=>ok0 fun _=>rfl
 |n+1=>stO (T:=qGY n) (by kernel_rfl) (qOC n) [] (fun _=>(by kernel_rfl)) fun _=>(by kernel_rfl)
def qOD:Sg:=⟨215,[aI,aI],[],⟨aB,[],[]⟩⟩
def qGZ (n:Nat) (x0 x1:Int):Tr (Bool):=(.ask ((x0==(1:Int))) (.ask ((decide (x1≥(1:Int)))) (.done (decide (x1≤(10:Int)))) (.done false)) (.ask ((x0==(2:Int))) (.ask ((decide (x1≥(1:Int)))) (.done (decide (x1≤(10:Int)))) (.done false)) (.ask ((x0==(3:Int))) (.ask ((decide (x1≥(1:Int)))) (.done (decide (x1≤(10:Int)))) (.done false)) (.ask ((x0==(4:Int))) (.ask ((decide (x1≥(1:Int)))) (.done (decide (x1≤(10:Int)))) (.done false)) (.ask ((x0==(6:Int))) (.ask ((decide (x1≥(1:Int)))) (.done (decide (x1≤(10:Int)))) (.done false)) (.ask ((x0==(7:Int))) (.ask ((decide (x1≥(1:Int)))) (.done (decide (x1≤(10:Int)))) (.done false)) (.ask ((x0==(5:Int))) (.ask ((x1==(2:Int))) (.done true) (.done (x1==(3:Int)))) (.ask ((x0==(8:Int))) (.done (x1==(1:Int))) (.ask ((x0==(9:Int))) (.done (x1==(1:Int))) (.ask ((x0==(10:Int))) (.done (x1==(1:Int))) (.done false)))))))))))
def qEZ:Nat→Int→Int→Option (Bool)
 |0,_,_=>none
 |n+1,x0,x1=>(qGZ n x0 x1).run
theorem qNE:∀n,Ok (Rn n) qOD (qEZ n)
 |0=>ok0 fun _=>rfl
 |n+1=>stO (T:=qGZ n) (by kernel_rfl) [] [] (fun _=>(by kernel_rfl)) fun _=>(by kernel_rfl)
def qMI:Sg:=⟨176,[(.agg [qI,qI,qI,qI,qS,qI,qI,qB,qB,qI,qI,qB,qB,qL])],[],⟨aB,[],[]⟩⟩
def qEs (n:Nat) (x0 x1 x2 x3:Int) (x4:BA) (x5 x6:Int) (x7 x8:Bool) (x9 x10:Int) (x11 x12:Bool) (x13:RW):Tr (Bool):=(.ask ((x0==(1:Int))) (.ask ((x1==(0:Int))) (.ask (((x5==(0:Int))&&((x6==(0:Int))&&((x7==false)&&((x8==false)&&true))))) (.ask (((x9==(0:Int))&&((x10==(0:Int))&&((x11==false)&&((x12==false)&&true))))) (.ask (((x13.length:Int)==(0:Int))) (.opt (qX n x2 x3 x4) fun r38=>(.ask (r38) (.ask ((x2 !=(0:Int))) (.ask ((x2 !=(1:Int))) (.done true) (.done (decide (x3≥(0:Int))))) (.done false)) (.done false))) (.done false)) (.done false)) (.done false)) (.done false)) (.ask ((x0==(2:Int))) (.ask ((x1==(0:Int))) (.ask (((x2==(0:Int))&&((x3==(0:Int))&&((x4.toList==(⟨#[]⟩:BA).toList)&&true)))) (.ask (((x9==(0:Int))&&((x10==(0:Int))&&((x11==false)&&((x12==false)&&true))))) (.ask (((x13.length:Int)==(0:Int))) (.opt (qAD n x5 x6) fun r41=>(.done r41)) (.done false)) (.done false)) (.done false)) (.done false)) (.ask ((x0==(3:Int))) (.ask ((x1==(0:Int))) (.ask (((x2==(0:Int))&&((x3==(0:Int))&&((x4.toList==(⟨#[]⟩:BA).toList)&&true)))) (.ask (((x13.length:Int)==(0:Int))) (.opt (qEY n x5 x6 x9 x10) fun r44=>(.done r44)) (.done false)) (.done false)) (.done false)) (.ask ((x0==(4:Int))) (.ask ((x1==(0:Int))) (.ask (((x2==(0:Int))&&((x3==(0:Int))&&((x4.toList==(⟨#[]⟩:BA).toList)&&true)))) (.ask (((x5==(0:Int))&&((x6==(0:Int))&&((x7==false)&&((x8==false)&&true))))) (.ask (((x9==(0:Int))&&((x10==(0:Int))&&((x11==false)&&((x12==false)&&true))))) (.done ((x13.length:Int)==(1:Int))) (.done false)) (.done false)) (.done false)) (.done false)) (.ask ((x0==(5:Int))) (.opt (qA9 n x1 (1:Int) (11:Int)) fun r45=>(.ask (r45) (.ask (((x2==(0:Int))&&((x3==(0:Int))&&((x4.toList==(⟨#[]⟩:BA).toList)&&true)))) (.ask (((x5==(0:Int))&&((x6==(0:Int))&&((x7==false)&&((x8==false)&&true))))) (.ask (((x9==(0:Int))&&((x10==(0:Int))&&((x11==false)&&((x12==false)&&true))))) (.done ((x13.length:Int)==(2:Int))) (.done false)) (.done false)) (.done false)) (.done false))) (.ask ((x0==(6:Int))) (.opt (qEZ n x1 (x13.length:Int)) fun r46=>(.ask (r46) (.ask (((x2==(0:Int))&&((x3==(0:Int))&&((x4.toList==(⟨#[]⟩:BA).toList)&&true)))) (.ask (((x5==(0:Int))&&((x6==(0:Int))&&((x7==false)&&((x8==false)&&true))))) (.done ((x9==(0:Int))&&((x10==(0:Int))&&((x11==false)&&((x12==false)&&true))))) (.done false)) (.done false)) (.done false))) (.done false)))))))
def qBm:Nat→Int→Int→Int→Int→BA→Int→Int→Bool→Bool→Int→Int→Bool→Bool→RW→Option (Bool)
 |0,_,_,_,_,_,_,_,_,_,_,_,_,_,_=>none
 |n+1,x0,x1,x2,x3,x4,x5,x6,x7,x8,x9,x10,x11,x12,x13=>(qEs n x0 x1 x2 x3 x4 x5 x6 x7 x8 x9 x10 x11 x12 x13).run
abbrev qMJ (n:Nat):List (Ent (Rn n)):= [en (qDd n),en (qDY n),en (qND n),en (qDx n),en (qNE n)]
theorem qGx:∀n,Ok (Rn n) qMI (qBm n)
 |0=>ok0 fun _=>rfl
 |n+1=>stO (T:=qEs n) (by kernel_rfl) (qMJ n) [] (fun _=>(by kernel_rfl)) fun _=>(by kernel_rfl)
def qMK:Sg:=⟨175,[(.c (.ptr 0 0 0 0 0)),(.agg [qI,qI,qI,qI,qS,qI,qI,qB,qB,qI,qI,qB,qB,qL])],[[(0,⟨0,4,175,(.box [qS,qI,qB,(.own 0 1 1 0)])⟩),(1,⟨1,14,162,(.row [])⟩)]],⟨aI,[[(0,⟨0,4,175,(.box [qS,qI,qB,(.own 0 1 1 0)])⟩),(1,⟨1,14,162,(.row [])⟩)]],[]⟩⟩
def qHl (n:Nat) (x0 x1 x2 x3:Int) (x4:BA) (x5 x6:Int) (x7 x8:Bool) (x9 x10:Int) (x11 x12:Bool) (x13:RW) (x14:BA) (x15:Int) (x16:Bool) (x17:Nat) (x18:RW):Tr (Int×BA×Int×Bool×Nat×RW):=(.ask (decide (1=([[(.i .i64 x0),(.i .i64 x1),(.i .i64 x2),(.i .i64 x3),(.s x4),(.i .i64 x5),(.i .i64 x6),(.b x7),(.b x8),(.i .i64 x9),(.i .i64 x10),(.b x11),(.b x12),(.ls x13)]]:RW).length)) (.ask (decide (x17=x18.length∧0<14∧0<120∧(x17+([[(.i .i64 x0),(.i .i64 x1),(.i .i64 x2),(.i .i64 x3),(.s x4),(.i .i64 x5),(.i .i64 x6),(.b x7),(.b x8),(.i .i64 x9),(.i .i64 x10),(.b x11),(.b x12),(.ls x13)]]:RW).length)*120≤140737488355328∧([[(.i .i64 x0),(.i .i64 x1),(.i .i64 x2),(.i .i64 x3),(.s x4),(.i .i64 x5),(.i .i64 x6),(.b x7),(.b x8),(.i .i64 x9),(.i .i64 x10),(.b x11),(.b x12),(.ls x13)]]:RW).all (fun e=>e.length==14)=true)) (.ask ((decide ((((x17+1):Nat):Int)>(60:Int)))) (.done ((IntKind.i64.wrap ((((x17+1):Nat):Int)-(1:Int))),x14,x15,true,(x17+1),(x18++([[(.i .i64 x0),(.i .i64 x1),(.i .i64 x2),(.i .i64 x3),(.s x4),(.i .i64 x5),(.i .i64 x6),(.b x7),(.b x8),(.i .i64 x9),(.i .i64 x10),(.b x11),(.b x12),(.ls x13)]]:RW)))) (.opt (qBm n x0 x1 x2 x3 x4 x5 x6 x7 x8 x9 x10 x11 x12 x13) fun r47=>(.ask ((!r47)) (.done ((IntKind.i64.wrap ((((x17+1):Nat):Int)-(1:Int))),x14,x15,true,(x17+1),(x18++([[(.i .i64 x0),(.i .i64 x1),(.i .i64 x2),(.i .i64 x3),(.s x4),(.i .i64 x5),(.i .i64 x6),(.b x7),(.b x8),(.i .i64 x9),(.i .i64 x10),(.b x11),(.b x12),(.ls x13)]]:RW)))) (.done ((IntKind.i64.wrap ((((x17+1):Nat):Int)-(1:Int))),x14,x15,x16,(x17+1),(x18++([[(.i .i64 x0),(.i .i64 x1),(.i .i64 x2),(.i .i64 x3),(.s x4),(.i .i64 x5),(.i .i64 x6),(.b x7),(.b x8),(.i .i64 x9),(.i .i64 x10),(.b x11),(.b x12),(.ls x13)]]:RW))))))) .fail) .fail)
def qo:Nat→Int→Int→Int→Int→BA→Int→Int→Bool→Bool→Int→Int→Bool→Bool→RW→BA→Int→Bool→Nat→RW→Option (Int×BA×Int×Bool×Nat×RW)
 |0,_,_,_,_,_,_,_,_,_,_,_,_,_,_,_,_,_,_,_=>none
 |n+1,x0,x1,x2,x3,x4,x5,x6,x7,x8,x9,x10,x11,x12,x13,x14,x15,x16,x17,x18=>(qHl n x0 x1 x2 x3 x4 x5 x6 x7 x8 x9 x10 x11 x12 x13 x14 x15 x16 x17 x18).run
abbrev qML (n:Nat):List (Ent (Rn n)):= [en (qGx n)]
theorem qCf:∀n,Ok (Rn n) qMK (qo n)
 |0=>ok0 fun _=>rfl
 |n+1=>stO (T:=qHl n) (by kernel_rfl) (qML n) [] (fun _=>(by kernel_rfl)) fun _=>(by kernel_rfl)
def qLI:Sg:=⟨209,[(.c (.ptr 0 0 0 0 0))],[[(0,⟨0,4,175,(.box [qS,qI,qB,(.own 0 1 1 0)])⟩),(1,⟨1,14,162,(.row [])⟩)]],⟨aI,[[(0,⟨0,4,175,(.box [qS,qI,qB,(.own 0 1 1 0)])⟩),(1,⟨1,14,162,(.row [])⟩)]],[]⟩⟩
def qDQ (n:Nat) (v:BA×BA×Int×Bool×Nat×RW):Tr ((BA×BA×Int×Bool×Nat×RW)⊕((Int×BA×Int×Bool×Nat×RW)⊕(BA×Int×Bool×Nat×RW))):=(.ask ((decide (v.2.2.1<(v.2.1.size:Int)))) (.ask (decide (0≤v.2.2.1)) (.opt (v.2.1.toList[(v.2.2.1).toNat]?) fun c53=>(.ask (((c53.toNat:Int) !=(34:Int))) (.ask (decide (0≤v.2.2.1∧v.2.2.1≤(IntKind.i64.wrap (v.2.2.1+(1:Int)))∧(IntKind.i64.wrap (v.2.2.1+(1:Int)))≤v.2.1.size)) (.ask (decide (v.1.size+(v.2.1.extract (v.2.2.1).toNat ((IntKind.i64.wrap (v.2.2.1+(1:Int)))).toNat).size≤9223372036854775807)) (.done (.inl ((v.1++(v.2.1.extract (v.2.2.1).toNat ((IntKind.i64.wrap (v.2.2.1+(1:Int)))).toNat)),v.2.1,(IntKind.i64.wrap (v.2.2.1+(1:Int))),v.2.2.2.1,v.2.2.2.2.1,v.2.2.2.2.2))) .fail) .fail) (.ask ((decide ((IntKind.i64.wrap (v.2.2.1+(1:Int)))≥(v.2.1.size:Int)))) (.opt (qo n (1:Int) (0:Int) (2:Int) (0:Int) v.1 (0:Int) (0:Int) false false (0:Int) (0:Int) false false ([]:RW) v.2.1 (IntKind.i64.wrap (v.2.2.1+(1:Int))) v.2.2.2.1 v.2.2.2.2.1 v.2.2.2.2.2) fun r54=>(.done (.inr (.inl ((r54.1,r54.2.1,r54.2.2.1,r54.2.2.2.1,r54.2.2.2.2.1,r54.2.2.2.2.2)))))) (.ask (decide (0≤(IntKind.i64.wrap (v.2.2.1+(1:Int))))) (.opt (v.2.1.toList[((IntKind.i64.wrap (v.2.2.1+(1:Int)))).toNat]?) fun c55=>(.ask (((c55.toNat:Int) !=(34:Int))) (.opt (qo n (1:Int) (0:Int) (2:Int) (0:Int) v.1 (0:Int) (0:Int) false false (0:Int) (0:Int) false false ([]:RW) v.2.1 (IntKind.i64.wrap (v.2.2.1+(1:Int))) v.2.2.2.1 v.2.2.2.2.1 v.2.2.2.2.2) fun r56=>(.done (.inr (.inl ((r56.1,r56.2.1,r56.2.2.1,r56.2.2.2.1,r56.2.2.2.2.1,r56.2.2.2.2.2)))))) (.ask (decide (v.1.size+(⟨#[34]⟩:BA).size≤9223372036854775807)) (.done (.inl ((v.1++(⟨#[34]⟩:BA)),v.2.1,(IntKind.i64.wrap ((IntKind.i64.wrap (v.2.2.1+(1:Int)))+(1:Int))),v.2.2.2.1,v.2.2.2.2.1,v.2.2.2.2.2))) .fail))) .fail)))) .fail) (.done (.inr (.inr ((v.2.1,v.2.2.1,v.2.2.2.1,v.2.2.2.2.1,v.2.2.2.2.2))))))
def qGy (n:Nat) (x0:BA) (x1:Int) (x2:Bool) (x3:Nat) (x4:RW):Tr (Int×BA×Int×Bool×Nat×RW):=(.opt (zC (qDQ n) n ((⟨#[]⟩:BA),x0,x1,x2,x3,x4)) fun r57=>(.alt r57 (fun r58=>(.done (r58.1,r58.2.1,r58.2.2.1,r58.2.2.2.1,r58.2.2.2.2.1,r58.2.2.2.2.2))) (fun r59=>(.done ((0:Int),r59.1,r59.2.1,true,r59.2.2.2.1,r59.2.2.2.2)))))
def qEP:Nat→BA→Int→Bool→Nat→RW→Option (Int×BA×Int×Bool×Nat×RW)
 |0,_,_,_,_,_=>none
 |n+1,x0,x1,x2,x3,x4=>(qGy n x0 x1 x2 x3 x4).run
abbrev qGz (n:Nat):List (Ent (Rn n)):= [en (qCf n)]
def qJM (n:Nat):LEnt (KB 209) (Rn n) n:=lok (zR 209) 14 ⟨⟨[(0,(.c (.ptr 0 0 0 0 0))),(3,aS)],[],[[(0,⟨0,4,175,(.box [qS,qI,qB,(.own 0 1 1 0)])⟩),(1,⟨1,14,162,(.row [])⟩)]]⟩,[(.ret,⟨[(2,aI)],[],[[(0,⟨0,4,175,(.box [qS,qI,qB,(.own 0 1 1 0)])⟩),(1,⟨1,14,162,(.row [])⟩)]]⟩),(.exit 0,⟨[(0,(.c (.ptr 0 0 0 0 0)))],[],[[(0,⟨0,4,175,(.box [qS,qI,qB,(.own 0 1 1 0)])⟩),(1,⟨1,14,162,(.row [])⟩)]]⟩)]⟩ (qDQ n) (qGz n) [] fun _=>(by kernel_rfl)
theorem qKe:∀n,Ok (Rn n) qLI (qEP n)
 |0=>ok0 fun _=>rfl
 |n+1=>stO (T:=qGy n) (by kernel_rfl) (qGz n) [qJM n] (fun _=>(by kernel_rfl)) fun _=>(by kernel_rfl)
def qOE:Sg:=⟨141,[aI],[],⟨aS,[],[]⟩⟩
def qGa (n:Nat) (x0:Int):Tr (BA):=(.ask (decide (6=([[(.s (⟨#[]⟩:BA))],[(.s (⟨#[35,68,73,86,33]⟩:BA))],[(.s (⟨#[35,84,89,80,69,33]⟩:BA))],[(.s (⟨#[35,82,69,70,33]⟩:BA))],[(.s (⟨#[35,79,86,69,82,33]⟩:BA))],[(.s (⟨#[35,67,89,67,76,69,33]⟩:BA))]]:RW).length∧0≤x0∧x0<((6:Nat):Int))) (.opt (([[(.s (⟨#[]⟩:BA))],[(.s (⟨#[35,68,73,86,33]⟩:BA))],[(.s (⟨#[35,84,89,80,69,33]⟩:BA))],[(.s (⟨#[35,82,69,70,33]⟩:BA))],[(.s (⟨#[35,79,86,69,82,33]⟩:BA))],[(.s (⟨#[35,67,89,67,76,69,33]⟩:BA))]]:RW)[(x0).toNat]?) fun e62=>(.opt (zX e62 0) fun y63=>(.done y63))) .fail)
def qBE:Nat→Int→Option (BA)
 |0,_=>none
 |n+1,x0=>(qGa n x0).run
theorem qFT:∀n,Ok (Rn n) qOE (qBE n)
 |0=>ok0 fun _=>rfl
 |n+1=>stO (T:=qGa n) (by kernel_rfl) [] [] (fun _=>(by kernel_rfl)) fun _=>(by kernel_rfl)
def qNF:Sg:=⟨210,[aI],[],⟨(.agg [qI,qI,qS]),[],[]⟩⟩
def qFU (n:Nat) (x0:Int):Tr (Int×Int×BA):=(.done ((4:Int),x0,(⟨#[]⟩:BA)))
def qCg:Nat→Int→Option (Int×Int×BA)
 |0,_=>none
 |n+1,x0=>(qFU n x0).run
theorem qMM:∀n,Ok (Rn n) qNF (qCg n)
 |0=>ok0 fun _=>rfl
 |n+1=>stO (T:=qFU n) (by kernel_rfl) [] [] (fun _=>(by kernel_rfl)) fun _=>(by kernel_rfl)
def qLJ:Sg:=⟨211,[(.c (.ptr 0 0 0 0 0))],[[(0,⟨0,4,175,(.box [qS,qI,qB,(.own 0 1 1 0)])⟩),(1,⟨1,14,162,(.row [])⟩)]],⟨aS,[[(0,⟨0,4,175,(.box [qS,qI,qB,(.own 0 1 1 0)])⟩),(1,⟨1,14,162,(.row [])⟩)]],[]⟩⟩
def qBn (n:Nat) (v:Int×BA×Int×Bool×Nat×RW):Tr ((Int×BA×Int×Bool×Nat×RW)⊕((Int×BA×Int×Bool×Nat×RW))):=(.ask ((decide (v.2.2.1<(v.2.1.size:Int)))) (.ask (decide (0≤v.2.2.1)) (.opt (v.2.1.toList[(v.2.2.1).toNat]?) fun c68=>(.ask ((decide ((c68.toNat:Int)≥(65:Int)))) (.ask (decide (0≤v.2.2.1)) (.opt (v.2.1.toList[(v.2.2.1).toNat]?) fun c69=>(.ask ((decide ((c69.toNat:Int)≤(90:Int)))) (.done (.inl (v.1,v.2.1,(IntKind.i64.wrap (v.2.2.1+(1:Int))),v.2.2.2.1,v.2.2.2.2.1,v.2.2.2.2.2))) (.ask (decide (0≤v.2.2.1)) (.opt (v.2.1.toList[(v.2.2.1).toNat]?) fun c70=>(.ask ((decide ((c70.toNat:Int)≥(48:Int)))) (.ask (decide (0≤v.2.2.1)) (.opt (v.2.1.toList[(v.2.2.1).toNat]?) fun c71=>(.ask ((decide ((c71.toNat:Int)≤(57:Int)))) (.done (.inl (v.1,v.2.1,(IntKind.i64.wrap (v.2.2.1+(1:Int))),v.2.2.2.1,v.2.2.2.2.1,v.2.2.2.2.2))) (.ask (decide (0≤v.2.2.1)) (.opt (v.2.1.toList[(v.2.2.1).toNat]?) fun c72=>(.ask (((c72.toNat:Int)==(36:Int))) (.done (.inl (v.1,v.2.1,(IntKind.i64.wrap (v.2.2.1+(1:Int))),v.2.2.2.1,v.2.2.2.2.1,v.2.2.2.2.2))) (.done (.inr ((v.1,v.2.1,v.2.2.1,v.2.2.2.1,v.2.2.2.2.1,v.2.2.2.2.2)))))) .fail))) .fail) (.ask (decide (0≤v.2.2.1)) (.opt (v.2.1.toList[(v.2.2.1).toNat]?) fun c73=>(.ask (((c73.toNat:Int)==(36:Int))) (.done (.inl (v.1,v.2.1,(IntKind.i64.wrap (v.2.2.1+(1:Int))),v.2.2.2.1,v.2.2.2.2.1,v.2.2.2.2.2))) (.done (.inr ((v.1,v.2.1,v.2.2.1,v.2.2.2.1,v.2.2.2.2.1,v.2.2.2.2.2)))))) .fail))) .fail))) .fail) (.ask (decide (0≤v.2.2.1)) (.opt (v.2.1.toList[(v.2.2.1).toNat]?) fun c74=>(.ask ((decide ((c74.toNat:Int)≥(48:Int)))) (.ask (decide (0≤v.2.2.1)) (.opt (v.2.1.toList[(v.2.2.1).toNat]?) fun c75=>(.ask ((decide ((c75.toNat:Int)≤(57:Int)))) (.done (.inl (v.1,v.2.1,(IntKind.i64.wrap (v.2.2.1+(1:Int))),v.2.2.2.1,v.2.2.2.2.1,v.2.2.2.2.2))) (.ask (decide (0≤v.2.2.1)) (.opt (v.2.1.toList[(v.2.2.1).toNat]?) fun c76=>(.ask (((c76.toNat:Int)==(36:Int))) (.done (.inl (v.1,v.2.1,(IntKind.i64.wrap (v.2.2.1+(1:Int))),v.2.2.2.1,v.2.2.2.2.1,v.2.2.2.2.2))) (.done (.inr ((v.1,v.2.1,v.2.2.1,v.2.2.2.1,v.2.2.2.2.1,v.2.2.2.2.2)))))) .fail))) .fail) (.ask (decide (0≤v.2.2.1)) (.opt (v.2.1.toList[(v.2.2.1).toNat]?) fun c77=>(.ask (((c77.toNat:Int)==(36:Int))) (.done (.inl (v.1,v.2.1,(IntKind.i64.wrap (v.2.2.1+(1:Int))),v.2.2.2.1,v.2.2.2.2.1,v.2.2.2.2.2))) (.done (.inr ((v.1,v.2.1,v.2.2.1,v.2.2.2.1,v.2.2.2.2.1,v.2.2.2.2.2)))))) .fail))) .fail))) .fail) (.done (.inr ((v.1,v.2.1,v.2.2.1,v.2.2.2.1,v.2.2.2.2.1,v.2.2.2.2.2)))))
def qG0 (n:Nat) (x0:BA) (x1:Int) (x2:Bool) (x3:Nat) (x4:RW):Tr (BA×BA×Int×Bool×Nat×RW):=(.opt (zC (qBn n) n (x1,x0,x1,x2,x3,x4)) fun r78=>(.ask (decide (0≤r78.1∧r78.1≤r78.2.2.1∧r78.2.2.1≤r78.2.1.size)) (.done ((r78.2.1.extract (r78.1).toNat (r78.2.2.1).toNat),r78.2.1,r78.2.2.1,r78.2.2.2.1,r78.2.2.2.2.1,r78.2.2.2.2.2)) .fail))
def qCh:Nat→BA→Int→Bool→Nat→RW→Option (BA×BA×Int×Bool×Nat×RW)
 |0,_,_,_,_,_=>none
 |n+1,x0,x1,x2,x3,x4=>(qG0 n x0 x1 x2 x3 x4).run
def qJN (n:Nat):LEnt (KB 211) (Rn n) n:=lok (zR 211) 14 ⟨⟨[(0,(.c (.ptr 0 0 0 0 0))),(3,aI)],[],[[(0,⟨0,4,175,(.box [qS,qI,qB,(.own 0 1 1 0)])⟩),(1,⟨1,14,162,(.row [])⟩)]]⟩,[(.exit 0,⟨[(0,(.c (.ptr 0 0 0 0 0))),(3,aI)],[],[[(0,⟨0,4,175,(.box [qS,qI,qB,(.own 0 1 1 0)])⟩),(1,⟨1,14,162,(.row [])⟩)]]⟩)]⟩ (qBn n) [] [] fun _=>(by kernel_rfl)
theorem qGD:∀n,Ok (Rn n) qLJ (qCh n)
 |0=>ok0 fun _=>rfl
 |n+1=>stO (T:=qG0 n) (by kernel_rfl) [] [qJN n] (fun _=>(by kernel_rfl)) fun _=>(by kernel_rfl)
def qPX:Sg:=⟨182,[aI],[],⟨aS,[],[]⟩⟩
def qIP (n:Nat) (x0:Int):Tr (BA):=(.ask (decide (11=([[(.s (⟨#[]⟩:BA))],[(.s (⟨#[83,85,77]⟩:BA))],[(.s (⟨#[77,73,78]⟩:BA))],[(.s (⟨#[77,65,88]⟩:BA))],[(.s (⟨#[67,79,85,78,84]⟩:BA))],[(.s (⟨#[73,70]⟩:BA))],[(.s (⟨#[65,78,68]⟩:BA))],[(.s (⟨#[79,82]⟩:BA))],[(.s (⟨#[78,79,84]⟩:BA))],[(.s (⟨#[65,66,83]⟩:BA))],[(.s (⟨#[76,69,78]⟩:BA))]]:RW).length∧0≤x0∧x0<((11:Nat):Int))) (.opt (([[(.s (⟨#[]⟩:BA))],[(.s (⟨#[83,85,77]⟩:BA))],[(.s (⟨#[77,73,78]⟩:BA))],[(.s (⟨#[77,65,88]⟩:BA))],[(.s (⟨#[67,79,85,78,84]⟩:BA))],[(.s (⟨#[73,70]⟩:BA))],[(.s (⟨#[65,78,68]⟩:BA))],[(.s (⟨#[79,82]⟩:BA))],[(.s (⟨#[78,79,84]⟩:BA))],[(.s (⟨#[65,66,83]⟩:BA))],[(.s (⟨#[76,69,78]⟩:BA))]]:RW)[(x0).toNat]?) fun e80=>(.opt (zX e80 0) fun y81=>(.done y81))) .fail)
def qCF:Nat→Int→Option (BA)
 |0,_=>none
 |n+1,x0=>(qIP n x0).run
theorem qKf:∀n,Ok (Rn n) qPX (qCF n)
 |0=>ok0 fun _=>rfl
 |n+1=>stO (T:=qIP n) (by kernel_rfl) [] [] (fun _=>(by kernel_rfl)) fun _=>(by kernel_rfl)
def qNG:Sg:=⟨99,[aI],[],⟨aS,[],[]⟩⟩
def qBH (n:Nat) (v:Int×BA):Tr ((Int×BA)⊕((BA))):=(.ask ((decide (v.1>(0:Int)))) (.ask (decide (1=([[(.i .u8 (IntKind.u8.wrap (IntKind.i64.wrap ((65:Int)+(Int.tmod (IntKind.i64.wrap (v.1-(1:Int))) (26:Int))))))]]:RW).length)) (.opt (bytesOf ([[(.i .u8 (IntKind.u8.wrap (IntKind.i64.wrap ((65:Int)+(Int.tmod (IntKind.i64.wrap (v.1-(1:Int))) (26:Int))))))]]:RW)) fun l91=>(.ask (decide ((⟨l91.toArray⟩:BA).size+v.2.size≤9223372036854775807)) (.done (.inl ((IntKind.i64.wrap (Int.tdiv (IntKind.i64.wrap (v.1-(1:Int))) (26:Int))),((⟨l91.toArray⟩:BA)++v.2)))) .fail)) .fail) (.done (.inr (v.2))))
def qDy (n:Nat) (x0:Int):Tr (BA):=(.opt (qA9 n x0 (1:Int) (52:Int)) fun r90=>(.ask ((!r90)) (.done (⟨#[]⟩:BA)) (.opt (zC (qBH n) n (x0,(⟨#[]⟩:BA))) fun r92=>(.done r92))))
def qCi:Nat→Int→Option (BA)
 |0,_=>none
 |n+1,x0=>(qDy n x0).run
abbrev qIQ (n:Nat):List (Ent (Rn n)):= [en (qDx n)]
def qKg (n:Nat):LEnt (KB 99) (Rn n) n:=lok (zR 99) 30 ⟨⟨[(0,aI),(3,aS)],[],[]⟩,[(.exit 0,⟨[(3,aS)],[],[]⟩)]⟩ (qBH n) (qIQ n) [] fun _=>(by kernel_rfl)
theorem qHm:∀n,Ok (Rn n) qNG (qCi n)
 |0=>ok0 fun _=>rfl
 |n+1=>stO (T:=qDy n) (by kernel_rfl) (qIQ n) [qKg n] (fun _=>(by kernel_rfl)) fun _=>(by kernel_rfl)
def qNH:Sg:=⟨233,[aS],[],⟨aI,[],[]⟩⟩
def qCG (n:Nat) (v:BA×Int):Tr ((BA×Int)⊕((Int)⊕(Unit))):=(.ask ((decide (v.2≤(52:Int)))) (.opt (qCi n v.2) fun r90=>(.ask ((r90.toList==v.1.toList)) (.done (.inr (.inl (v.2)))) (.done (.inl (v.1,(IntKind.i64.wrap (v.2+(1:Int)))))))) (.done (.inr (.inr (())))))
def qFV (n:Nat) (x0:BA):Tr (Int):=(.opt (zC (qCG n) n (x0,(1:Int))) fun r91=>(.alt r91 (fun r92=>(.done r92)) (fun r93=>(.done (0:Int)))))
def qB0:Nat→BA→Option (Int)
 |0,_=>none
 |n+1,x0=>(qFV n x0).run
abbrev qIR (n:Nat):List (Ent (Rn n)):= [en (qHm n)]
def qKh (n:Nat):LEnt (KB 233) (Rn n) n:=lok (zR 233) 13 ⟨⟨[(0,aS),(3,aI)],[],[]⟩,[(.ret,⟨[(2,aI)],[],[]⟩),(.exit 0,⟨[],[],[]⟩)]⟩ (qCG n) (qIR n) [] fun _=>(by kernel_rfl)
theorem qMN:∀n,Ok (Rn n) qNH (qB0 n)
 |0=>ok0 fun _=>rfl
 |n+1=>stO (T:=qFV n) (by kernel_rfl) (qIR n) [qKh n] (fun _=>(by kernel_rfl)) fun _=>(by kernel_rfl)
def qO1:Sg:=⟨138,[aS,aI],[],⟨(.tup [(false,[qI]),(false,[qB])]),[],[]⟩⟩
def qBP (n:Nat) (v:BA×Int×Int):Tr ((BA×Int×Int)⊕((Int×Bool)⊕(Int))):=(.ask ((decide (v.2.2<(v.1.size:Int)))) (.ask (decide (0≤v.2.2)) (.opt (v.1.toList[(v.2.2).toNat]?) fun c97=>(.ask ((decide ((c97.toNat:Int)<(48:Int)))) (.done (.inr (.inl (((0:Int),false))))) (.ask (decide (0≤v.2.2)) (.opt (v.1.toList[(v.2.2).toNat]?) fun c98=>(.ask ((decide ((c98.toNat:Int)>(57:Int)))) (.done (.inr (.inl (((0:Int),false))))) (.ask (decide (0≤v.2.2)) (.opt (v.1.toList[(v.2.2).toNat]?) fun c99=>(.done (.inl (v.1,(IntKind.i64.wrap ((IntKind.i64.wrap (v.2.1*(10:Int)))+(IntKind.i64.wrap (IntKind.u8.wrap ((c99.toNat:Int)-(48:Int)))))),(IntKind.i64.wrap (v.2.2+(1:Int))))))) .fail))) .fail))) .fail) (.done (.inr (.inr (v.2.1)))))
def qDz (n:Nat) (x0:BA) (x1:Int):Tr (Int×Bool):=(.ask ((decide ((x0.size:Int)<(1:Int)))) (.done ((0:Int),false)) (.ask ((decide ((x0.size:Int)>x1))) (.done ((0:Int),false)) (.ask (decide (0≤(0:Int))) (.opt (x0.toList[((0:Int)).toNat]?) fun c96=>(.ask (((c96.toNat:Int)==(48:Int))) (.ask ((decide ((x0.size:Int)>(1:Int)))) (.done ((0:Int),false)) (.opt (zC (qBP n) n (x0,(0:Int),(0:Int))) fun r100=>(.alt r100 (fun r101=>(.done (r101.1,r101.2))) (fun r102=>(.done (r102,true)))))) (.opt (zC (qBP n) n (x0,(0:Int),(0:Int))) fun r103=>(.alt r103 (fun r104=>(.done (r104.1,r104.2))) (fun r105=>(.done (r105,true))))))) .fail)))
def qq:Nat→BA→Int→Option (Int×Bool)
 |0,_,_=>none
 |n+1,x0,x1=>(qDz n x0 x1).run
def qMO (n:Nat):LEnt (KB 138) (Rn n) n:=lok (zR 138) 61 ⟨⟨[(0,aS),(6,aI),(7,aI)],[],[]⟩,[(.ret,⟨[(4,aI),(5,aB)],[],[]⟩),(.exit 0,⟨[(6,aI)],[],[]⟩)]⟩ (qBP n) [] [] fun _=>(by kernel_rfl)
theorem qGb:∀n,Ok (Rn n) qO1 (qq n)
 |0=>ok0 fun _=>rfl
 |n+1=>stO (T:=qDz n) (by kernel_rfl) [] [qMO n] (fun _=>(by kernel_rfl)) fun _=>(by kernel_rfl)
def qLK:Sg:=⟨213,[aS],[],⟨(.tup [(true,[qI,qI,qB,qB]),(false,[qB])]),[],[]⟩⟩
def qAF (n:Nat) (v:BA×Int×Int×Int×Bool×Bool×Int×Int×Bool×Bool):Tr ((BA×Int×Int×Int×Bool×Bool×Int×Int×Bool×Bool)⊕((BA×Int×Int×Int×Bool×Bool×Int×Int×Bool×Bool))):=(.ask ((decide (v.2.1<(v.1.size:Int)))) (.ask (decide (0≤v.2.1)) (.opt (v.1.toList[(v.2.1).toNat]?) fun c87=>(.ask ((decide ((c87.toNat:Int)≥(65:Int)))) (.ask (decide (0≤v.2.1)) (.opt (v.1.toList[(v.2.1).toNat]?) fun c88=>(.ask ((decide ((c88.toNat:Int)≤(90:Int)))) (.done (.inl (v.1,(IntKind.i64.wrap (v.2.1+(1:Int))),v.2.2.1,v.2.2.2.1,v.2.2.2.2.1,v.2.2.2.2.2.1,v.2.2.2.2.2.2.1,v.2.2.2.2.2.2.2.1,v.2.2.2.2.2.2.2.2.1,v.2.2.2.2.2.2.2.2.2))) (.done (.inr ((v.1,v.2.1,v.2.2.1,v.2.2.2.1,v.2.2.2.2.1,v.2.2.2.2.2.1,v.2.2.2.2.2.2.1,v.2.2.2.2.2.2.2.1,v.2.2.2.2.2.2.2.2.1,v.2.2.2.2.2.2.2.2.2)))))) .fail) (.done (.inr ((v.1,v.2.1,v.2.2.1,v.2.2.2.1,v.2.2.2.2.1,v.2.2.2.2.2.1,v.2.2.2.2.2.2.1,v.2.2.2.2.2.2.2.1,v.2.2.2.2.2.2.2.2.1,v.2.2.2.2.2.2.2.2.2)))))) .fail) (.done (.inr ((v.1,v.2.1,v.2.2.1,v.2.2.2.1,v.2.2.2.2.1,v.2.2.2.2.2.1,v.2.2.2.2.2.2.1,v.2.2.2.2.2.2.2.1,v.2.2.2.2.2.2.2.2.1,v.2.2.2.2.2.2.2.2.2)))))
def qBy (n:Nat) (x0:BA):Tr (Int×Int×Bool×Bool×Bool):=(.ask ((decide ((x0.size:Int)>(0:Int)))) (.ask (decide (0≤(0:Int))) (.opt (x0.toList[((0:Int)).toNat]?) fun c86=>(.ask (((c86.toNat:Int)==(36:Int))) (.ask (decide (0≤(1:Int)∧(1:Int)≤(x0.size:Int)∧(x0.size:Int)≤x0.size)) (.opt (zC (qAF n) n ((x0.extract ((1:Int)).toNat ((x0.size:Int)).toNat),(0:Int),(0:Int),(0:Int),false,false,(0:Int),(0:Int),true,false)) fun r89=>(.ask (decide (0≤(0:Int)∧(0:Int)≤r89.2.1∧r89.2.1≤r89.1.size)) (.opt (qB0 n (r89.1.extract ((0:Int)).toNat (r89.2.1).toNat)) fun r94=>(.ask (decide (0≤r89.2.1∧r89.2.1≤(r89.1.size:Int)∧(r89.1.size:Int)≤r89.1.size)) (.ask ((decide (((r89.1.extract (r89.2.1).toNat ((r89.1.size:Int)).toNat).size:Int)>(0:Int)))) (.ask (decide (0≤(0:Int))) (.opt ((r89.1.extract (r89.2.1).toNat ((r89.1.size:Int)).toNat).toList[((0:Int)).toNat]?) fun c95=>(.ask (((c95.toNat:Int)==(36:Int))) (.ask (decide (0≤(1:Int)∧(1:Int)≤((r89.1.extract (r89.2.1).toNat ((r89.1.size:Int)).toNat).size:Int)∧((r89.1.extract (r89.2.1).toNat ((r89.1.size:Int)).toNat).size:Int)≤(r89.1.extract (r89.2.1).toNat ((r89.1.size:Int)).toNat).size)) (.opt (qq n ((r89.1.extract (r89.2.1).toNat ((r89.1.size:Int)).toNat).extract ((1:Int)).toNat (((r89.1.extract (r89.2.1).toNat ((r89.1.size:Int)).toNat).size:Int)).toNat) (2:Int)) fun r106=>(.ask ((!r106.2)) (.done ((0:Int),(0:Int),false,false,false)) (.opt (qAD n r94 r106.1) fun r107=>(.ask ((!r107)) (.done ((0:Int),(0:Int),false,false,false)) (.done (r94,r106.1,r89.2.2.2.2.2.2.2.2.1,true,true)))))) .fail) (.opt (qq n (r89.1.extract (r89.2.1).toNat ((r89.1.size:Int)).toNat) (2:Int)) fun r108=>(.ask ((!r108.2)) (.done ((0:Int),(0:Int),false,false,false)) (.opt (qAD n r94 r108.1) fun r109=>(.ask ((!r109)) (.done ((0:Int),(0:Int),false,false,false)) (.done (r94,r108.1,r89.2.2.2.2.2.2.2.2.1,r89.2.2.2.2.2.2.2.2.2,true)))))))) .fail) (.opt (qq n (r89.1.extract (r89.2.1).toNat ((r89.1.size:Int)).toNat) (2:Int)) fun r110=>(.ask ((!r110.2)) (.done ((0:Int),(0:Int),false,false,false)) (.opt (qAD n r94 r110.1) fun r111=>(.ask ((!r111)) (.done ((0:Int),(0:Int),false,false,false)) (.done (r94,r110.1,r89.2.2.2.2.2.2.2.2.1,r89.2.2.2.2.2.2.2.2.2,true))))))) .fail)) .fail)) .fail) (.opt (zC (qAF n) n (x0,(0:Int),(0:Int),(0:Int),false,false,(0:Int),(0:Int),false,false)) fun r112=>(.ask (decide (0≤(0:Int)∧(0:Int)≤r112.2.1∧r112.2.1≤r112.1.size)) (.opt (qB0 n (r112.1.extract ((0:Int)).toNat (r112.2.1).toNat)) fun r113=>(.ask (decide (0≤r112.2.1∧r112.2.1≤(r112.1.size:Int)∧(r112.1.size:Int)≤r112.1.size)) (.ask ((decide (((r112.1.extract (r112.2.1).toNat ((r112.1.size:Int)).toNat).size:Int)>(0:Int)))) (.ask (decide (0≤(0:Int))) (.opt ((r112.1.extract (r112.2.1).toNat ((r112.1.size:Int)).toNat).toList[((0:Int)).toNat]?) fun c114=>(.ask (((c114.toNat:Int)==(36:Int))) (.ask (decide (0≤(1:Int)∧(1:Int)≤((r112.1.extract (r112.2.1).toNat ((r112.1.size:Int)).toNat).size:Int)∧((r112.1.extract (r112.2.1).toNat ((r112.1.size:Int)).toNat).size:Int)≤(r112.1.extract (r112.2.1).toNat ((r112.1.size:Int)).toNat).size)) (.opt (qq n ((r112.1.extract (r112.2.1).toNat ((r112.1.size:Int)).toNat).extract ((1:Int)).toNat (((r112.1.extract (r112.2.1).toNat ((r112.1.size:Int)).toNat).size:Int)).toNat) (2:Int)) fun r115=>(.ask ((!r115.2)) (.done ((0:Int),(0:Int),false,false,false)) (.opt (qAD n r113 r115.1) fun r116=>(.ask ((!r116)) (.done ((0:Int),(0:Int),false,false,false)) (.done (r113,r115.1,r112.2.2.2.2.2.2.2.2.1,true,true)))))) .fail) (.opt (qq n (r112.1.extract (r112.2.1).toNat ((r112.1.size:Int)).toNat) (2:Int)) fun r117=>(.ask ((!r117.2)) (.done ((0:Int),(0:Int),false,false,false)) (.opt (qAD n r113 r117.1) fun r118=>(.ask ((!r118)) (.done ((0:Int),(0:Int),false,false,false)) (.done (r113,r117.1,r112.2.2.2.2.2.2.2.2.1,r112.2.2.2.2.2.2.2.2.2,true)))))))) .fail) (.opt (qq n (r112.1.extract (r112.2.1).toNat ((r112.1.size:Int)).toNat) (2:Int)) fun r119=>(.ask ((!r119.2)) (.done ((0:Int),(0:Int),false,false,false)) (.opt (qAD n r113 r119.1) fun r120=>(.ask ((!r120)) (.done ((0:Int),(0:Int),false,false,false)) (.done (r113,r119.1,r112.2.2.2.2.2.2.2.2.1,r112.2.2.2.2.2.2.2.2.2,true))))))) .fail)) .fail)))) .fail) (.opt (zC (qAF n) n (x0,(0:Int),(0:Int),(0:Int),false,false,(0:Int),(0:Int),false,false)) fun r121=>(.ask (decide (0≤(0:Int)∧(0:Int)≤r121.2.1∧r121.2.1≤r121.1.size)) (.opt (qB0 n (r121.1.extract ((0:Int)).toNat (r121.2.1).toNat)) fun r122=>(.ask (decide (0≤r121.2.1∧r121.2.1≤(r121.1.size:Int)∧(r121.1.size:Int)≤r121.1.size)) (.ask ((decide (((r121.1.extract (r121.2.1).toNat ((r121.1.size:Int)).toNat).size:Int)>(0:Int)))) (.ask (decide (0≤(0:Int))) (.opt ((r121.1.extract (r121.2.1).toNat ((r121.1.size:Int)).toNat).toList[((0:Int)).toNat]?) fun c123=>(.ask (((c123.toNat:Int)==(36:Int))) (.ask (decide (0≤(1:Int)∧(1:Int)≤((r121.1.extract (r121.2.1).toNat ((r121.1.size:Int)).toNat).size:Int)∧((r121.1.extract (r121.2.1).toNat ((r121.1.size:Int)).toNat).size:Int)≤(r121.1.extract (r121.2.1).toNat ((r121.1.size:Int)).toNat).size)) (.opt (qq n ((r121.1.extract (r121.2.1).toNat ((r121.1.size:Int)).toNat).extract ((1:Int)).toNat (((r121.1.extract (r121.2.1).toNat ((r121.1.size:Int)).toNat).size:Int)).toNat) (2:Int)) fun r124=>(.ask ((!r124.2)) (.done ((0:Int),(0:Int),false,false,false)) (.opt (qAD n r122 r124.1) fun r125=>(.ask ((!r125)) (.done ((0:Int),(0:Int),false,false,false)) (.done (r122,r124.1,r121.2.2.2.2.2.2.2.2.1,true,true)))))) .fail) (.opt (qq n (r121.1.extract (r121.2.1).toNat ((r121.1.size:Int)).toNat) (2:Int)) fun r126=>(.ask ((!r126.2)) (.done ((0:Int),(0:Int),false,false,false)) (.opt (qAD n r122 r126.1) fun r127=>(.ask ((!r127)) (.done ((0:Int),(0:Int),false,false,false)) (.done (r122,r126.1,r121.2.2.2.2.2.2.2.2.1,r121.2.2.2.2.2.2.2.2.2,true)))))))) .fail) (.opt (qq n (r121.1.extract (r121.2.1).toNat ((r121.1.size:Int)).toNat) (2:Int)) fun r128=>(.ask ((!r128.2)) (.done ((0:Int),(0:Int),false,false,false)) (.opt (qAD n r122 r128.1) fun r129=>(.ask ((!r129)) (.done ((0:Int),(0:Int),false,false,false)) (.done (r122,r128.1,r121.2.2.2.2.2.2.2.2.1,r121.2.2.2.2.2.2.2.2.2,true))))))) .fail)) .fail)))
def qAh:Nat→BA→Option (Int×Int×Bool×Bool×Bool)
 |0,_=>none
 |n+1,x0=>(qBy n x0).run
abbrev qG1 (n:Nat):List (Ent (Rn n)):= [en (qMN n),en (qGb n),en (qDY n)]
def qJO (n:Nat):LEnt (KB 213) (Rn n) n:=lok (zR 213) 62 ⟨⟨[(0,aS),(2,(.c (.ptr 0 128 0 0 0))),(4,(.c (.ptr 0 256 0 0 0))),(5,aI)],[(128,⟨0,4,90,(.box [qI,qI,qB,qB])⟩),(256,⟨0,4,90,(.box [qI,qI,qB,qB])⟩)],[]⟩,[(.exit 0,⟨[(0,aS),(2,(.c (.ptr 0 128 0 0 0))),(4,(.c (.ptr 0 256 0 0 0))),(5,aI)],[(128,⟨0,4,90,(.box [qI,qI,qB,qB])⟩),(256,⟨0,4,90,(.box [qI,qI,qB,qB])⟩)],[]⟩)]⟩ (qAF n) (qG1 n) [] fun _=>(by kernel_rfl)
theorem qGE:∀n,Ok (Rn n) qLK (qAh n)
 |0=>ok0 fun _=>rfl
 |n+1=>stO (T:=qBy n) (by kernel_rfl) (qG1 n) [qJO n] (fun _=>(by kernel_rfl)) fun _=>(by kernel_rfl)
def qLL:Sg:=⟨97,[aS],[],⟨(.tup [(true,[qI,qI,qS]),(false,[qB])]),[],[]⟩⟩
def qBI (n:Nat) (v:BA×Int×Int×Int×BA×Int×Int×BA):Tr ((BA×Int×Int×Int×BA×Int×Int×BA)⊕((Int×Int×BA×Int×Int×BA))):=(.ask ((decide (v.2.1≤(5:Int)))) (.opt (qBE n v.2.1) fun r93=>(.ask ((r93.toList==v.1.toList)) (.done (.inl (v.1,(IntKind.i64.wrap (v.2.1+(1:Int))),v.2.2.1,v.2.2.2.1,v.2.2.2.2.1,v.2.2.2.2.2.1,v.2.1,v.2.2.2.2.2.2.2))) (.done (.inl (v.1,(IntKind.i64.wrap (v.2.1+(1:Int))),v.2.2.1,v.2.2.2.1,v.2.2.2.2.1,v.2.2.2.2.2.1,v.2.2.2.2.2.2.1,v.2.2.2.2.2.2.2))))) (.done (.inr ((v.2.2.1,v.2.2.2.1,v.2.2.2.2.1,v.2.2.2.2.2.1,v.2.2.2.2.2.2.1,v.2.2.2.2.2.2.2)))))
def qAt (n:Nat) (x0:BA):Tr (Int×Int×BA×Bool):=(.ask ((x0.toList==(⟨#[]⟩:BA).toList)) (.done ((0:Int),(0:Int),(⟨#[]⟩:BA),true)) (.ask (decide (0≤(0:Int))) (.opt (x0.toList[((0:Int)).toNat]?) fun c86=>(.ask (((c86.toNat:Int)==(39:Int))) (.ask (decide (0≤(1:Int)∧(1:Int)≤(x0.size:Int)∧(x0.size:Int)≤x0.size)) (.opt (qX n (2:Int) (0:Int) (x0.extract ((1:Int)).toNat ((x0.size:Int)).toNat)) fun r87=>(.ask ((!r87)) (.done ((0:Int),(0:Int),(⟨#[]⟩:BA),false)) (.done ((2:Int),(0:Int),(x0.extract ((1:Int)).toNat ((x0.size:Int)).toNat),true)))) .fail) (.ask ((x0.toList==(⟨#[84,82,85,69]⟩:BA).toList)) (.ask ((x0.toList==(⟨#[84,82,85,69]⟩:BA).toList)) (.opt (qX n (3:Int) (1:Int) (⟨#[]⟩:BA)) fun r88=>(.ask ((!r88)) (.done ((0:Int),(0:Int),(⟨#[]⟩:BA),false)) (.done ((3:Int),(1:Int),(⟨#[]⟩:BA),true)))) (.opt (qX n (3:Int) (0:Int) (⟨#[]⟩:BA)) fun r89=>(.ask ((!r89)) (.done ((0:Int),(0:Int),(⟨#[]⟩:BA),false)) (.done ((3:Int),(0:Int),(⟨#[]⟩:BA),true))))) (.ask ((x0.toList==(⟨#[70,65,76,83,69]⟩:BA).toList)) (.ask ((x0.toList==(⟨#[84,82,85,69]⟩:BA).toList)) (.opt (qX n (3:Int) (1:Int) (⟨#[]⟩:BA)) fun r90=>(.ask ((!r90)) (.done ((0:Int),(0:Int),(⟨#[]⟩:BA),false)) (.done ((3:Int),(1:Int),(⟨#[]⟩:BA),true)))) (.opt (qX n (3:Int) (0:Int) (⟨#[]⟩:BA)) fun r91=>(.ask ((!r91)) (.done ((0:Int),(0:Int),(⟨#[]⟩:BA),false)) (.done ((3:Int),(0:Int),(⟨#[]⟩:BA),true))))) (.ask (decide (0≤(0:Int))) (.opt (x0.toList[((0:Int)).toNat]?) fun c92=>(.ask (((c92.toNat:Int)==(35:Int))) (.opt (zC (qBI n) n (x0,(1:Int),(0:Int),(0:Int),(⟨#[]⟩:BA),(4:Int),(0:Int),(⟨#[]⟩:BA))) fun r94=>(.opt (qX n r94.2.2.2.1 r94.2.2.2.2.1 r94.2.2.2.2.2) fun r95=>(.ask ((!r95)) (.done ((0:Int),(0:Int),(⟨#[]⟩:BA),false)) (.done (r94.2.2.2.1,r94.2.2.2.2.1,r94.2.2.2.2.2,true))))) (.ask (decide (0≤(0:Int))) (.opt (x0.toList[((0:Int)).toNat]?) fun c96=>(.ask (((c96.toNat:Int)==(45:Int))) (.ask (decide (0≤(1:Int)∧(1:Int)≤(x0.size:Int)∧(x0.size:Int)≤x0.size)) (.opt (qq n (x0.extract ((1:Int)).toNat ((x0.size:Int)).toNat) (16:Int)) fun r97=>(.ask ((!r97.2)) (.done ((0:Int),(0:Int),(⟨#[]⟩:BA),false)) (.ask (((c96.toNat:Int)==(45:Int))) (.ask ((r97.1==(0:Int))) (.done ((0:Int),(0:Int),(⟨#[]⟩:BA),false)) (.ask (((c96.toNat:Int)==(45:Int))) (.opt (qX n (1:Int) (IntKind.i64.wrap (0-r97.1)) (⟨#[]⟩:BA)) fun r98=>(.ask ((!r98)) (.done ((0:Int),(0:Int),(⟨#[]⟩:BA),false)) (.done ((1:Int),(IntKind.i64.wrap (0-r97.1)),(⟨#[]⟩:BA),true)))) (.opt (qX n (1:Int) r97.1 (⟨#[]⟩:BA)) fun r99=>(.ask ((!r99)) (.done ((0:Int),(0:Int),(⟨#[]⟩:BA),false)) (.done ((1:Int),r97.1,(⟨#[]⟩:BA),true)))))) (.ask (((c96.toNat:Int)==(45:Int))) (.opt (qX n (1:Int) (IntKind.i64.wrap (0-r97.1)) (⟨#[]⟩:BA)) fun r100=>(.ask ((!r100)) (.done ((0:Int),(0:Int),(⟨#[]⟩:BA),false)) (.done ((1:Int),(IntKind.i64.wrap (0-r97.1)),(⟨#[]⟩:BA),true)))) (.opt (qX n (1:Int) r97.1 (⟨#[]⟩:BA)) fun r101=>(.ask ((!r101)) (.done ((0:Int),(0:Int),(⟨#[]⟩:BA),false)) (.done ((1:Int),r97.1,(⟨#[]⟩:BA),true)))))))) .fail) (.opt (qq n x0 (16:Int)) fun r102=>(.ask ((!r102.2)) (.done ((0:Int),(0:Int),(⟨#[]⟩:BA),false)) (.ask (((c96.toNat:Int)==(45:Int))) (.ask ((r102.1==(0:Int))) (.done ((0:Int),(0:Int),(⟨#[]⟩:BA),false)) (.ask (((c96.toNat:Int)==(45:Int))) (.opt (qX n (1:Int) (IntKind.i64.wrap (0-r102.1)) (⟨#[]⟩:BA)) fun r103=>(.ask ((!r103)) (.done ((0:Int),(0:Int),(⟨#[]⟩:BA),false)) (.done ((1:Int),(IntKind.i64.wrap (0-r102.1)),(⟨#[]⟩:BA),true)))) (.opt (qX n (1:Int) r102.1 (⟨#[]⟩:BA)) fun r104=>(.ask ((!r104)) (.done ((0:Int),(0:Int),(⟨#[]⟩:BA),false)) (.done ((1:Int),r102.1,(⟨#[]⟩:BA),true)))))) (.ask (((c96.toNat:Int)==(45:Int))) (.opt (qX n (1:Int) (IntKind.i64.wrap (0-r102.1)) (⟨#[]⟩:BA)) fun r105=>(.ask ((!r105)) (.done ((0:Int),(0:Int),(⟨#[]⟩:BA),false)) (.done ((1:Int),(IntKind.i64.wrap (0-r102.1)),(⟨#[]⟩:BA),true)))) (.opt (qX n (1:Int) r102.1 (⟨#[]⟩:BA)) fun r106=>(.ask ((!r106)) (.done ((0:Int),(0:Int),(⟨#[]⟩:BA),false)) (.done ((1:Int),r102.1,(⟨#[]⟩:BA),true)))))))))) .fail))) .fail))))) .fail))
def qAC:Nat→BA→Option (Int×Int×BA×Bool)
 |0,_=>none
 |n+1,x0=>(qAt n x0).run
abbrev qG2 (n:Nat):List (Ent (Rn n)):= [en (qDd n),en (qFT n),en (qGb n)]
def qHL (n:Nat):LEnt (KB 97) (Rn n) n:=lok (zR 97) 15355 ⟨⟨[(0,aS),(2,(.c (.ptr 0 128 0 0 0))),(4,(.c (.ptr 0 256 0 0 0))),(5,aI)],[(128,⟨0,3,128,(.box [qI,qI,qS])⟩),(256,⟨0,3,128,(.box [qI,qI,qS])⟩)],[]⟩,[(.exit 1,⟨[(2,(.c (.ptr 0 128 0 0 0))),(4,(.c (.ptr 0 256 0 0 0)))],[(128,⟨0,3,128,(.box [qI,qI,qS])⟩),(256,⟨0,3,128,(.box [qI,qI,qS])⟩)],[]⟩)]⟩ (qBI n) (qG2 n) [] fun _=>(by kernel_rfl)
theorem qGF:∀n,Ok (Rn n) qLL (qAC n)
 |0=>ok0 fun _=>rfl
 |n+1=>stO (T:=qAt n) (by kernel_rfl) (qG2 n) [qHL n] (fun _=>(by kernel_rfl)) fun _=>(by kernel_rfl)
def qNI:Sg:=⟨180,[aI],[],⟨aI,[],[]⟩⟩
def qFW (n:Nat) (x0:Int):Tr (Int):=(.ask ((decide (x0≥(6:Int)))) (.done (1:Int)) (.ask ((x0==(5:Int))) (.done (2:Int)) (.ask ((decide (x0≥(3:Int)))) (.done (4:Int)) (.done (3:Int)))))
def qB1:Nat→Int→Option (Int)
 |0,_=>none
 |n+1,x0=>(qFW n x0).run
theorem qHn:∀n,Ok (Rn n) qNI (qB1 n)
 |0=>ok0 fun _=>rfl
 |n+1=>stO (T:=qFW n) (by kernel_rfl) [] [] (fun _=>(by kernel_rfl)) fun _=>(by kernel_rfl)
def qOF:Sg:=⟨181,[aI],[],⟨aS,[],[]⟩⟩
def qGc (n:Nat) (x0:Int):Tr (BA):=(.ask (decide (12=([[(.s (⟨#[]⟩:BA))],[(.s (⟨#[43]⟩:BA))],[(.s (⟨#[45]⟩:BA))],[(.s (⟨#[42]⟩:BA))],[(.s (⟨#[47]⟩:BA))],[(.s (⟨#[38]⟩:BA))],[(.s (⟨#[61]⟩:BA))],[(.s (⟨#[60,62]⟩:BA))],[(.s (⟨#[60]⟩:BA))],[(.s (⟨#[60,61]⟩:BA))],[(.s (⟨#[62]⟩:BA))],[(.s (⟨#[62,61]⟩:BA))]]:RW).length∧0≤x0∧x0<((12:Nat):Int))) (.opt (([[(.s (⟨#[]⟩:BA))],[(.s (⟨#[43]⟩:BA))],[(.s (⟨#[45]⟩:BA))],[(.s (⟨#[42]⟩:BA))],[(.s (⟨#[47]⟩:BA))],[(.s (⟨#[38]⟩:BA))],[(.s (⟨#[61]⟩:BA))],[(.s (⟨#[60,62]⟩:BA))],[(.s (⟨#[60]⟩:BA))],[(.s (⟨#[60,61]⟩:BA))],[(.s (⟨#[62]⟩:BA))],[(.s (⟨#[62,61]⟩:BA))]]:RW)[(x0).toNat]?) fun e120=>(.opt (zX e120 0) fun y121=>(.done y121))) .fail)
def qCU:Nat→Int→Option (BA)
 |0,_=>none
 |n+1,x0=>(qGc n x0).run
theorem qIS:∀n,Ok (Rn n) qOF (qCU n)
 |0=>ok0 fun _=>rfl
 |n+1=>stO (T:=qGc n) (by kernel_rfl) [] [] (fun _=>(by kernel_rfl)) fun _=>(by kernel_rfl)
def qNJ:Sg:=⟨174,[(.c (.ptr 0 0 0 0 0)),aI],[[(0,⟨0,4,175,(.box [qS,qI,qB,(.own 0 1 1 0)])⟩),(1,⟨1,14,162,(.row [])⟩)]],⟨aI,[[(0,⟨0,4,175,(.box [qS,qI,qB,(.own 0 1 1 0)])⟩),(1,⟨1,14,162,(.row [])⟩)]],[]⟩⟩
def qD0 (n:Nat) (v:Int×Nat×Int×RW×BA×Int×Bool×Nat×RW):Tr ((Int×Nat×Int×RW×BA×Int×Bool×Nat×RW)⊕((Int×BA×Int×Bool×Nat×RW)⊕(BA×Int×Bool×Nat×RW))):=(.ask ((decide (v.2.2.1<((v.2.1:Nat):Int)))) (.ask (decide (v.2.1=v.2.2.2.1.length∧0≤v.2.2.1∧v.2.2.1<((v.2.1:Nat):Int))) (.opt (v.2.2.2.1[(v.2.2.1).toNat]?) fun e115=>(.opt (zD .i64 e115 0) fun y116=>(.opt (qB1 n y116) fun r117=>(.ask ((r117==v.1)) (.ask (decide (v.2.1=v.2.2.2.1.length∧0≤v.2.2.1∧v.2.2.1<((v.2.1:Nat):Int))) (.opt (v.2.2.2.1[(v.2.2.1).toNat]?) fun e118=>(.opt (zD .i64 e118 0) fun y119=>(.opt (qCU n y119) fun r120=>(.opt (q9 n r120 v.2.2.2.2.1 v.2.2.2.2.2.1 v.2.2.2.2.2.2.1 v.2.2.2.2.2.2.2.1 v.2.2.2.2.2.2.2.2) fun r121=>(.ask (r121.1) (.ask (decide (v.2.1=v.2.2.2.1.length∧0≤v.2.2.1∧v.2.2.1<((v.2.1:Nat):Int))) (.opt (v.2.2.2.1[(v.2.2.1).toNat]?) fun e122=>(.opt (zD .i64 e122 0) fun y123=>(.done (.inr (.inl ((y123,r121.2.1,r121.2.2.1,r121.2.2.2.1,r121.2.2.2.2.1,r121.2.2.2.2.2))))))) .fail) (.done (.inl (v.1,v.2.1,(IntKind.i64.wrap (v.2.2.1+(1:Int))),v.2.2.2.1,r121.2.1,r121.2.2.1,r121.2.2.2.1,r121.2.2.2.2.1,r121.2.2.2.2.2)))))))) .fail) (.done (.inl (v.1,v.2.1,(IntKind.i64.wrap (v.2.2.1+(1:Int))),v.2.2.2.1,v.2.2.2.2.1,v.2.2.2.2.2.1,v.2.2.2.2.2.2.1,v.2.2.2.2.2.2.2.1,v.2.2.2.2.2.2.2.2))))))) .fail) (.done (.inr (.inr ((v.2.2.2.2.1,v.2.2.2.2.2.1,v.2.2.2.2.2.2.1,v.2.2.2.2.2.2.2.1,v.2.2.2.2.2.2.2.2))))))
def qIT (n:Nat) (x0:Int) (x1:BA) (x2:Int) (x3:Bool) (x4:Nat) (x5:RW):Tr (Int×BA×Int×Bool×Nat×RW):=(.opt (zC (qD0 n) n (x0,(11:Nat),(0:Int),([[(.i .i64 (7:Int))],[(.i .i64 (9:Int))],[(.i .i64 (11:Int))],[(.i .i64 (6:Int))],[(.i .i64 (8:Int))],[(.i .i64 (10:Int))],[(.i .i64 (1:Int))],[(.i .i64 (2:Int))],[(.i .i64 (3:Int))],[(.i .i64 (4:Int))],[(.i .i64 (5:Int))]]:RW),x1,x2,x3,x4,x5)) fun r124=>(.alt r124 (fun r125=>(.done (r125.1,r125.2.1,r125.2.2.1,r125.2.2.2.1,r125.2.2.2.2.1,r125.2.2.2.2.2))) (fun r126=>(.done ((0:Int),r126.1,r126.2.1,r126.2.2.1,r126.2.2.2.1,r126.2.2.2.2)))))
def qD1:Nat→Int→BA→Int→Bool→Nat→RW→Option (Int×BA×Int×Bool×Nat×RW)
 |0,_,_,_,_,_,_=>none
 |n+1,x0,x1,x2,x3,x4,x5=>(qIT n x0 x1 x2 x3 x4 x5).run
abbrev qIU (n:Nat):List (Ent (Rn n)):= [en (qHn n),en (qIS n),en (qDc n)]
def qKi (n:Nat):LEnt (KB 174) (Rn n) n:=lok (zR 174) 29 ⟨⟨[(0,(.c (.ptr 0 0 0 0 0))),(1,aI),(5,(.c (.own 1 448 0 0))),(6,aI)],[(448,⟨0,1,2,(.row [])⟩)],[[(0,⟨0,4,175,(.box [qS,qI,qB,(.own 0 1 1 0)])⟩),(1,⟨1,14,162,(.row [])⟩)]]⟩,[(.ret,⟨[(4,aI)],[],[[(0,⟨0,4,175,(.box [qS,qI,qB,(.own 0 1 1 0)])⟩),(1,⟨1,14,162,(.row [])⟩)]]⟩),(.exit 0,⟨[],[],[[(0,⟨0,4,175,(.box [qS,qI,qB,(.own 0 1 1 0)])⟩),(1,⟨1,14,162,(.row [])⟩)]]⟩)]⟩ (qD0 n) (qIU n) [] fun _=>(by kernel_rfl)
theorem qMP:∀n,Ok (Rn n) qNJ (qD1 n)
 |0=>ok0 fun _=>rfl
 |n+1=>stO (T:=qIT n) (by kernel_rfl) (qIU n) [qKi n] (fun _=>(by kernel_rfl)) fun _=>(by kernel_rfl)
def qHo:Sg:=⟨134,[(.c (.ptr 0 0 0 0 0)),aI],[[(0,⟨0,4,175,(.box [qS,qI,qB,(.own 0 1 1 0)])⟩),(1,⟨1,14,162,(.row [])⟩)]],⟨aI,[[(0,⟨0,4,175,(.box [qS,qI,qB,(.own 0 1 1 0)])⟩),(1,⟨1,14,162,(.row [])⟩)]],[]⟩⟩
def qMQ:Sg:=⟨173,[(.c (.ptr 0 0 0 0 0))],[[(0,⟨0,4,175,(.box [qS,qI,qB,(.own 0 1 1 0)])⟩),(1,⟨1,14,162,(.row [])⟩)]],⟨aI,[[(0,⟨0,4,175,(.box [qS,qI,qB,(.own 0 1 1 0)])⟩),(1,⟨1,14,162,(.row [])⟩)]],[]⟩⟩
def qLM:Sg:=⟨212,[(.c (.ptr 0 0 0 0 0)),aI],[[(0,⟨0,4,175,(.box [qS,qI,qB,(.own 0 1 1 0)])⟩),(1,⟨1,14,162,(.row [])⟩)]],⟨aI,[[(0,⟨0,4,175,(.box [qS,qI,qB,(.own 0 1 1 0)])⟩),(1,⟨1,14,162,(.row [])⟩)]],[]⟩⟩
def qMR:Sg:=⟨232,[(.c (.ptr 0 0 0 0 0))],[[(0,⟨0,4,175,(.box [qS,qI,qB,(.own 0 1 1 0)])⟩),(1,⟨1,14,162,(.row [])⟩)]],⟨aI,[[(0,⟨0,4,175,(.box [qS,qI,qB,(.own 0 1 1 0)])⟩),(1,⟨1,14,162,(.row [])⟩)]],[]⟩⟩
structure G_spec_l3Rd_row where
 spec_l3Rd_row:Int→BA→Int→Bool→Nat→RW→Option (Int×BA×Int×Bool×Nat×RW)
 spec_l3Rd_one:BA→Int→Bool→Nat→RW→Option (Int×BA×Int×Bool×Nat×RW)
 spec_l3Rd_call:Int→BA→Int→Bool→Nat→RW→Option (Int×BA×Int×Bool×Nat×RW)
 spec_l3Rd_arg:BA→Int→Bool→Nat→RW→Option (Int×BA×Int×Bool×Nat×RW)
def qDg (rec:G_spec_l3Rd_row) (n:Nat) (v:Int×Int×BA×Int×Bool×Nat×RW):Tr ((Int×Int×BA×Int×Bool×Nat×RW)⊕((Int×BA×Int×Bool×Nat×RW)⊕(Int×BA×Int×Bool×Nat×RW))):=(.ask ((!v.2.2.2.2.1)) (.opt (qD1 n v.1 v.2.2.1 v.2.2.2.1 v.2.2.2.2.1 v.2.2.2.2.2.1 v.2.2.2.2.2.2) fun r115=>(.ask ((r115.1==(0:Int))) (.done (.inr (.inl ((v.2.1,r115.2.1,r115.2.2.1,r115.2.2.2.1,r115.2.2.2.2.1,r115.2.2.2.2.2))))) (.opt (rec.spec_l3Rd_row (IntKind.i64.wrap (v.1+(1:Int))) r115.2.1 r115.2.2.1 r115.2.2.2.1 r115.2.2.2.2.1 r115.2.2.2.2.2) fun r116=>(.ask (decide (2=([[(.i .i64 v.2.1)],[(.i .i64 r116.1)]]:RW).length)) (.opt (qo n (5:Int) r115.1 (0:Int) (0:Int) (⟨#[]⟩:BA) (0:Int) (0:Int) false false (0:Int) (0:Int) false false ([[(.i .i64 v.2.1)],[(.i .i64 r116.1)]]:RW) r116.2.1 r116.2.2.1 r116.2.2.2.1 r116.2.2.2.2.1 r116.2.2.2.2.2) fun r117=>(.done (.inl (v.1,r117.1,r117.2.1,r117.2.2.1,r117.2.2.2.1,r117.2.2.2.2.1,r117.2.2.2.2.2)))) .fail)))) (.done (.inr (.inr ((v.2.1,v.2.2.1,v.2.2.2.1,v.2.2.2.2.1,v.2.2.2.2.2.1,v.2.2.2.2.2.2))))))
def qHp (rec:G_spec_l3Rd_row) (n:Nat) (x0:Int) (x1:BA) (x2:Int) (x3:Bool) (x4:Nat) (x5:RW):Tr (Int×BA×Int×Bool×Nat×RW):=(.ask (x3) (.done ((0:Int),x1,x2,x3,x4,x5)) (.ask ((x0==(5:Int))) (.opt (rec.spec_l3Rd_one x1 x2 x3 x4 x5) fun r113=>(.done (r113.1,r113.2.1,r113.2.2.1,r113.2.2.2.1,r113.2.2.2.2.1,r113.2.2.2.2.2))) (.opt (rec.spec_l3Rd_row (IntKind.i64.wrap (x0+(1:Int))) x1 x2 x3 x4 x5) fun r114=>(.opt (zC (qDg rec n) n (x0,r114.1,r114.2.1,r114.2.2.1,r114.2.2.2.1,r114.2.2.2.2.1,r114.2.2.2.2.2)) fun r118=>(.alt r118 (fun r119=>(.done (r119.1,r119.2.1,r119.2.2.1,r119.2.2.2.1,r119.2.2.2.2.1,r119.2.2.2.2.2))) (fun r120=>(.done (r120.1,r120.2.1,r120.2.2.1,r120.2.2.2.1,r120.2.2.2.2.1,r120.2.2.2.2.2))))))))
def qCH (n:Nat) (v:Int×BA×Int×Bool×Nat×RW):Tr ((Int×BA×Int×Bool×Nat×RW)⊕((Int×BA×Int×Bool×Nat×RW)⊕(BA×Int×Bool×Nat×RW))):=(.ask ((decide (v.1≤(5:Int)))) (.opt (qBE n v.1) fun r62=>(.ask (decide (0≤(1:Int)∧(1:Int)≤(r62.size:Int)∧(r62.size:Int)≤r62.size)) (.ask ((decide ((IntKind.i64.wrap (v.2.2.1+((r62.extract ((1:Int)).toNat ((r62.size:Int)).toNat).size:Int)))≤(v.2.1.size:Int)))) (.ask (decide (0≤v.2.2.1∧v.2.2.1≤(IntKind.i64.wrap (v.2.2.1+((r62.extract ((1:Int)).toNat ((r62.size:Int)).toNat).size:Int)))∧(IntKind.i64.wrap (v.2.2.1+((r62.extract ((1:Int)).toNat ((r62.size:Int)).toNat).size:Int)))≤v.2.1.size)) (.ask (((v.2.1.extract (v.2.2.1).toNat ((IntKind.i64.wrap (v.2.2.1+((r62.extract ((1:Int)).toNat ((r62.size:Int)).toNat).size:Int)))).toNat).toList==(r62.extract ((1:Int)).toNat ((r62.size:Int)).toNat).toList)) (.opt (qCg n v.1) fun r63=>(.opt (qo n (1:Int) (0:Int) r63.1 r63.2.1 r63.2.2 (0:Int) (0:Int) false false (0:Int) (0:Int) false false ([]:RW) v.2.1 (IntKind.i64.wrap (v.2.2.1+((r62.extract ((1:Int)).toNat ((r62.size:Int)).toNat).size:Int))) v.2.2.2.1 v.2.2.2.2.1 v.2.2.2.2.2) fun r64=>(.done (.inr (.inl ((r64.1,r64.2.1,r64.2.2.1,r64.2.2.2.1,r64.2.2.2.2.1,r64.2.2.2.2.2))))))) (.done (.inl ((IntKind.i64.wrap (v.1+(1:Int))),v.2.1,v.2.2.1,v.2.2.2.1,v.2.2.2.2.1,v.2.2.2.2.2)))) .fail) (.done (.inl ((IntKind.i64.wrap (v.1+(1:Int))),v.2.1,v.2.2.1,v.2.2.2.1,v.2.2.2.2.1,v.2.2.2.2.2)))) .fail)) (.done (.inr (.inr ((v.2.1,v.2.2.1,v.2.2.2.1,v.2.2.2.2.1,v.2.2.2.2.2))))))
def qCq (rec:G_spec_l3Rd_row) (n:Nat) (v:BA×Int×BA×Int×Bool×Nat×RW):Tr ((BA×Int×BA×Int×Bool×Nat×RW)⊕((Int×BA×Int×Bool×Nat×RW)⊕(BA×BA×Int×Bool×Nat×RW))):=(.ask ((decide (v.2.1≤(10:Int)))) (.opt (qCF n v.2.1) fun r80=>(.ask ((r80.toList==v.1.toList)) (.opt (q9 n (⟨#[40]⟩:BA) v.2.2.1 v.2.2.2.1 v.2.2.2.2.1 v.2.2.2.2.2.1 v.2.2.2.2.2.2) fun r81=>(.ask (r81.1) (.opt (rec.spec_l3Rd_call v.2.1 r81.2.1 r81.2.2.1 r81.2.2.2.1 r81.2.2.2.2.1 r81.2.2.2.2.2) fun r82=>(.done (.inr (.inl ((r82.1,r82.2.1,r82.2.2.1,r82.2.2.2.1,r82.2.2.2.2.1,r82.2.2.2.2.2)))))) (.done (.inl (v.1,(IntKind.i64.wrap (v.2.1+(1:Int))),r81.2.1,r81.2.2.1,r81.2.2.2.1,r81.2.2.2.2.1,r81.2.2.2.2.2))))) (.done (.inl (v.1,(IntKind.i64.wrap (v.2.1+(1:Int))),v.2.2.1,v.2.2.2.1,v.2.2.2.2.1,v.2.2.2.2.2.1,v.2.2.2.2.2.2))))) (.done (.inr (.inr ((v.1,v.2.2.1,v.2.2.2.1,v.2.2.2.2.1,v.2.2.2.2.2.1,v.2.2.2.2.2.2))))))
def qHq (rec:G_spec_l3Rd_row) (n:Nat) (x0:BA) (x1:Int) (x2:Bool) (x3:Nat) (x4:RW):Tr (Int×BA×Int×Bool×Nat×RW):=(.opt (q9 n (⟨#[45]⟩:BA) x0 x1 x2 x3 x4) fun r32=>(.ask (r32.1) (.opt (rec.spec_l3Rd_row (5:Int) r32.2.1 r32.2.2.1 r32.2.2.2.1 r32.2.2.2.2.1 r32.2.2.2.2.2) fun r33=>(.ask (decide (1=([[(.i .i64 r33.1)]]:RW).length)) (.opt (qo n (4:Int) (0:Int) (0:Int) (0:Int) (⟨#[]⟩:BA) (0:Int) (0:Int) false false (0:Int) (0:Int) false false ([[(.i .i64 r33.1)]]:RW) r33.2.1 r33.2.2.1 r33.2.2.2.1 r33.2.2.2.2.1 r33.2.2.2.2.2) fun r48=>(.done (r48.1,r48.2.1,r48.2.2.1,r48.2.2.2.1,r48.2.2.2.2.1,r48.2.2.2.2.2))) .fail)) (.opt (q9 n (⟨#[40]⟩:BA) r32.2.1 r32.2.2.1 r32.2.2.2.1 r32.2.2.2.2.1 r32.2.2.2.2.2) fun r49=>(.ask (r49.1) (.opt (rec.spec_l3Rd_row (1:Int) r49.2.1 r49.2.2.1 r49.2.2.2.1 r49.2.2.2.2.1 r49.2.2.2.2.2) fun r50=>(.opt (q9 n (⟨#[41]⟩:BA) r50.2.1 r50.2.2.1 r50.2.2.2.1 r50.2.2.2.2.1 r50.2.2.2.2.2) fun r51=>(.ask ((!r51.1)) (.done (r50.1,r51.2.1,r51.2.2.1,true,r51.2.2.2.2.1,r51.2.2.2.2.2)) (.done (r50.1,r51.2.1,r51.2.2.1,r51.2.2.2.1,r51.2.2.2.2.1,r51.2.2.2.2.2))))) (.opt (q9 n (⟨#[34]⟩:BA) r49.2.1 r49.2.2.1 r49.2.2.2.1 r49.2.2.2.2.1 r49.2.2.2.2.2) fun r52=>(.ask (r52.1) (.opt (qEP n r52.2.1 r52.2.2.1 r52.2.2.2.1 r52.2.2.2.2.1 r52.2.2.2.2.2) fun r60=>(.done (r60.1,r60.2.1,r60.2.2.1,r60.2.2.2.1,r60.2.2.2.2.1,r60.2.2.2.2.2))) (.opt (q9 n (⟨#[35]⟩:BA) r52.2.1 r52.2.2.1 r52.2.2.2.1 r52.2.2.2.2.1 r52.2.2.2.2.2) fun r61=>(.ask (r61.1) (.opt (zC (qCH n) n ((1:Int),r61.2.1,r61.2.2.1,r61.2.2.2.1,r61.2.2.2.2.1,r61.2.2.2.2.2)) fun r65=>(.alt r65 (fun r66=>(.done (r66.1,r66.2.1,r66.2.2.1,r66.2.2.2.1,r66.2.2.2.2.1,r66.2.2.2.2.2))) (fun r67=>(.done ((0:Int),r67.1,r67.2.1,true,r67.2.2.2.1,r67.2.2.2.2))))) (.opt (qCh n r61.2.1 r61.2.2.1 r61.2.2.2.1 r61.2.2.2.2.1 r61.2.2.2.2.2) fun r79=>(.opt (zC (qCq rec n) n (r79.1,(1:Int),r79.2.1,r79.2.2.1,r79.2.2.2.1,r79.2.2.2.2.1,r79.2.2.2.2.2)) fun r83=>(.alt r83 (fun r84=>(.done (r84.1,r84.2.1,r84.2.2.1,r84.2.2.2.1,r84.2.2.2.2.1,r84.2.2.2.2.2))) (fun r85=>(.opt (qAC n r85.1) fun r107=>(.ask (r107.2.2.2) (.ask ((!(r85.1.toList==(⟨#[]⟩:BA).toList))) (.opt (qo n (1:Int) (0:Int) r107.1 r107.2.1 r107.2.2.1 (0:Int) (0:Int) false false (0:Int) (0:Int) false false ([]:RW) r85.2.1 r85.2.2.1 r85.2.2.2.1 r85.2.2.2.2.1 r85.2.2.2.2.2) fun r108=>(.done (r108.1,r108.2.1,r108.2.2.1,r108.2.2.2.1,r108.2.2.2.2.1,r108.2.2.2.2.2))) (.opt (qAh n r85.1) fun r109=>(.ask ((!r109.2.2.2.2)) (.done ((0:Int),r85.2.1,r85.2.2.1,true,r85.2.2.2.2.1,r85.2.2.2.2.2)) (.opt (qo n (2:Int) (0:Int) (0:Int) (0:Int) (⟨#[]⟩:BA) r109.1 r109.2.1 r109.2.2.1 r109.2.2.2.1 (0:Int) (0:Int) false false ([]:RW) r85.2.1 r85.2.2.1 r85.2.2.2.1 r85.2.2.2.2.1 r85.2.2.2.2.2) fun r110=>(.done (r110.1,r110.2.1,r110.2.2.1,r110.2.2.2.1,r110.2.2.2.2.1,r110.2.2.2.2.2)))))) (.opt (qAh n r85.1) fun r111=>(.ask ((!r111.2.2.2.2)) (.done ((0:Int),r85.2.1,r85.2.2.1,true,r85.2.2.2.2.1,r85.2.2.2.2.2)) (.opt (qo n (2:Int) (0:Int) (0:Int) (0:Int) (⟨#[]⟩:BA) r111.1 r111.2.1 r111.2.2.1 r111.2.2.2.1 (0:Int) (0:Int) false false ([]:RW) r85.2.1 r85.2.2.1 r85.2.2.2.1 r85.2.2.2.2.1 r85.2.2.2.2.2) fun r112=>(.done (r112.1,r112.2.1,r112.2.2.1,r112.2.2.2.1,r112.2.2.2.2.1,r112.2.2.2.2.2)))))))))))))))))))
def qDR (rec:G_spec_l3Rd_row) (n:Nat) (v:Int×Nat×RW×BA×Int×Bool×Nat×RW):Tr ((Int×Nat×RW×BA×Int×Bool×Nat×RW)⊕((Int×BA×Int×Bool×Nat×RW)⊕(BA×Int×Bool×Nat×RW))):=(.ask ((!v.2.2.2.2.2.1)) (.opt (rec.spec_l3Rd_arg v.2.2.2.1 v.2.2.2.2.1 v.2.2.2.2.2.1 v.2.2.2.2.2.2.1 v.2.2.2.2.2.2.2) fun r84=>(.ask (decide (1=([[(.i .i64 r84.1)]]:RW).length)) (.ask (decide (v.2.1=v.2.2.1.length∧0<1∧0<8∧(v.2.1+([[(.i .i64 r84.1)]]:RW).length)*8≤140737488355328∧([[(.i .i64 r84.1)]]:RW).all (fun e=>e.length==1)=true)) (.opt (q9 n (⟨#[41]⟩:BA) r84.2.1 r84.2.2.1 r84.2.2.2.1 r84.2.2.2.2.1 r84.2.2.2.2.2) fun r85=>(.ask (r85.1) (.ask (decide ((v.2.1+1)=(v.2.2.1++([[(.i .i64 r84.1)]]:RW)).length)) (.opt (qo n (6:Int) v.1 (0:Int) (0:Int) (⟨#[]⟩:BA) (0:Int) (0:Int) false false (0:Int) (0:Int) false false (v.2.2.1++([[(.i .i64 r84.1)]]:RW)) r85.2.1 r85.2.2.1 r85.2.2.2.1 r85.2.2.2.2.1 r85.2.2.2.2.2) fun r86=>(.done (.inr (.inl ((r86.1,r86.2.1,r86.2.2.1,r86.2.2.2.1,r86.2.2.2.2.1,r86.2.2.2.2.2)))))) .fail) (.opt (q9 n (⟨#[44]⟩:BA) r85.2.1 r85.2.2.1 r85.2.2.2.1 r85.2.2.2.2.1 r85.2.2.2.2.2) fun r87=>(.ask ((!r87.1)) (.done (.inl (v.1,(v.2.1+1),(v.2.2.1++([[(.i .i64 r84.1)]]:RW)),r87.2.1,r87.2.2.1,true,r87.2.2.2.2.1,r87.2.2.2.2.2))) (.done (.inl (v.1,(v.2.1+1),(v.2.2.1++([[(.i .i64 r84.1)]]:RW)),r87.2.1,r87.2.2.1,r87.2.2.2.1,r87.2.2.2.2.1,r87.2.2.2.2.2))))))) .fail) .fail)) (.done (.inr (.inr ((v.2.2.2.1,v.2.2.2.2.1,v.2.2.2.2.2.1,v.2.2.2.2.2.2.1,v.2.2.2.2.2.2.2))))))
def qG3 (rec:G_spec_l3Rd_row) (n:Nat) (x0:Int) (x1:BA) (x2:Int) (x3:Bool) (x4:Nat) (x5:RW):Tr (Int×BA×Int×Bool×Nat×RW):=(.opt (zC (qDR rec n) n (x0,(0:Nat),([]:RW),x1,x2,x3,x4,x5)) fun r88=>(.alt r88 (fun r89=>(.done (r89.1,r89.2.1,r89.2.2.1,r89.2.2.2.1,r89.2.2.2.2.1,r89.2.2.2.2.2))) (fun r90=>(.done ((0:Int),r90.1,r90.2.1,r90.2.2.1,r90.2.2.2.1,r90.2.2.2.2)))))
def qHr (rec:G_spec_l3Rd_row) (n:Nat) (x0:BA) (x1:Int) (x2:Bool) (x3:Nat) (x4:RW):Tr (Int×BA×Int×Bool×Nat×RW):=(.opt (qBS n x0 x1 x2 x3 x4) fun r84=>(.opt (qCh n r84.1 r84.2.1 r84.2.2.1 r84.2.2.2.1 r84.2.2.2.2) fun r85=>(.opt (qAh n r85.1) fun r130=>(.ask (r130.2.2.2.2) (.opt (q9 n (⟨#[58]⟩:BA) r85.2.1 r85.2.2.1 r85.2.2.2.1 r85.2.2.2.2.1 r85.2.2.2.2.2) fun r131=>(.ask (r131.1) (.opt (qBS n r131.2.1 r131.2.2.1 r131.2.2.2.1 r131.2.2.2.2.1 r131.2.2.2.2.2) fun r132=>(.opt (qCh n r132.1 r132.2.1 r132.2.2.1 r132.2.2.2.1 r132.2.2.2.2) fun r133=>(.opt (qAh n r133.1) fun r134=>(.ask ((!r134.2.2.2.2)) (.done ((0:Int),r133.2.1,r133.2.2.1,true,r133.2.2.2.2.1,r133.2.2.2.2.2)) (.opt (qo n (3:Int) (0:Int) (0:Int) (0:Int) (⟨#[]⟩:BA) r130.1 r130.2.1 r130.2.2.1 r130.2.2.2.1 r134.1 r134.2.1 r134.2.2.1 r134.2.2.2.1 ([]:RW) r133.2.1 r133.2.2.1 r133.2.2.2.1 r133.2.2.2.2.1 r133.2.2.2.2.2) fun r135=>(.done (r135.1,r135.2.1,r135.2.2.1,r135.2.2.2.1,r135.2.2.2.2.1,r135.2.2.2.2.2))))))) (.opt (rec.spec_l3Rd_row (1:Int) r131.2.1 r84.2.1 r131.2.2.2.1 r131.2.2.2.2.1 r131.2.2.2.2.2) fun r136=>(.done (r136.1,r136.2.1,r136.2.2.1,r136.2.2.2.1,r136.2.2.2.2.1,r136.2.2.2.2.2))))) (.opt (rec.spec_l3Rd_row (1:Int) r85.2.1 r84.2.1 r85.2.2.2.1 r85.2.2.2.2.1 r85.2.2.2.2.2) fun r137=>(.done (r137.1,r137.2.1,r137.2.2.1,r137.2.2.2.1,r137.2.2.2.2.1,r137.2.2.2.2.2)))))))
def qc:Nat→G_spec_l3Rd_row
 |0=>⟨fun _ _ _ _ _ _=>none,fun _ _ _ _ _=>none,fun _ _ _ _ _ _=>none,fun _ _ _ _ _=>none⟩
 |n+1=>⟨fun x0 x1 x2 x3 x4 x5=>(qHp (qc n) n x0 x1 x2 x3 x4 x5).run,fun x0 x1 x2 x3 x4=>(qHq (qc n) n x0 x1 x2 x3 x4).run,fun x0 x1 x2 x3 x4 x5=>(qG3 (qc n) n x0 x1 x2 x3 x4 x5).run,fun x0 x1 x2 x3 x4=>(qHr (qc n) n x0 x1 x2 x3 x4).run⟩
def qDe (n:Nat) (x0:Int) (x1:BA) (x2:Int) (x3:Bool) (x4:Nat) (x5:RW):Option (Int×BA×Int×Bool×Nat×RW):=(qc n).spec_l3Rd_row x0 x1 x2 x3 x4 x5
def qHs (n:Nat) (x0:BA) (x1:Int) (x2:Bool) (x3:Nat) (x4:RW):Option (Int×BA×Int×Bool×Nat×RW):=(qc n).spec_l3Rd_one x0 x1 x2 x3 x4
def qG4 (n:Nat) (x0:Int) (x1:BA) (x2:Int) (x3:Bool) (x4:Nat) (x5:RW):Option (Int×BA×Int×Bool×Nat×RW):=(qc n).spec_l3Rd_call x0 x1 x2 x3 x4 x5
def qHt (n:Nat) (x0:BA) (x1:Int) (x2:Bool) (x3:Nat) (x4:RW):Option (Int×BA×Int×Bool×Nat×RW):=(qc n).spec_l3Rd_arg x0 x1 x2 x3 x4
def qAu (n:Nat):Prop:=
 Ok (Rn n) qHo (qDe n)∧
 Ok (Rn n) qMQ (qHs n)∧
 Ok (Rn n) qLM (qG4 n)∧
 Ok (Rn n) qMR (qHt n)
abbrev qHu (n:Nat) (ih:qAu n):List (Ent (Rn n)):= [en ih.2.1,en ih.1,en (qMP n),en (qCf n)]
def qJ2 (n:Nat) (ih:qAu n):LEnt (KB 134) (Rn n) n:=lok (zR 134) 62 ⟨⟨[(0,(.c (.ptr 0 0 0 0 0))),(1,aI),(5,aI)],[],[[(0,⟨0,4,175,(.box [qS,qI,qB,(.own 0 1 1 0)])⟩),(1,⟨1,14,162,(.row [])⟩)]]⟩,[(.ret,⟨[(4,aI)],[],[[(0,⟨0,4,175,(.box [qS,qI,qB,(.own 0 1 1 0)])⟩),(1,⟨1,14,162,(.row [])⟩)]]⟩),(.exit 0,⟨[(5,aI)],[],[[(0,⟨0,4,175,(.box [qS,qI,qB,(.own 0 1 1 0)])⟩),(1,⟨1,14,162,(.row [])⟩)]]⟩)]⟩ (qDg (qc n) n) (qHu n ih) [] fun _=>(by kernel_rfl)
abbrev qEt (n:Nat) (ih:qAu n):List (Ent (Rn n)):= [en (qDc n),en ih.1,en (qCf n),en (qKe n),en (qFT n),en (qMM n),en (qGD n),en (qKf n),en ih.2.2.1,en (qGF n),en (qGE n)]
def qIV (n:Nat) (ih:qAu n):LEnt (KB 173) (Rn n) n:=lok (zR 173) 7161 ⟨⟨[(0,(.c (.ptr 0 0 0 0 0))),(5,aI)],[],[[(0,⟨0,4,175,(.box [qS,qI,qB,(.own 0 1 1 0)])⟩),(1,⟨1,14,162,(.row [])⟩)]]⟩,[(.ret,⟨[(2,aI)],[],[[(0,⟨0,4,175,(.box [qS,qI,qB,(.own 0 1 1 0)])⟩),(1,⟨1,14,162,(.row [])⟩)]]⟩),(.exit 1,⟨[(0,(.c (.ptr 0 0 0 0 0)))],[],[[(0,⟨0,4,175,(.box [qS,qI,qB,(.own 0 1 1 0)])⟩),(1,⟨1,14,162,(.row [])⟩)]]⟩)]⟩ (qCH n) (qEt n ih) [] fun _=>(by kernel_rfl)
def qJ3 (n:Nat) (ih:qAu n):LEnt (KB 173) (Rn n) n:=lok (zR 173) 61 ⟨⟨[(0,(.c (.ptr 0 0 0 0 0))),(7,aS),(8,aI)],[],[[(0,⟨0,4,175,(.box [qS,qI,qB,(.own 0 1 1 0)])⟩),(1,⟨1,14,162,(.row [])⟩)]]⟩,[(.ret,⟨[(2,aI)],[],[[(0,⟨0,4,175,(.box [qS,qI,qB,(.own 0 1 1 0)])⟩),(1,⟨1,14,162,(.row [])⟩)]]⟩),(.exit 3,⟨[(0,(.c (.ptr 0 0 0 0 0))),(7,aS)],[],[[(0,⟨0,4,175,(.box [qS,qI,qB,(.own 0 1 1 0)])⟩),(1,⟨1,14,162,(.row [])⟩)]]⟩)]⟩ (qCq (qc n) n) (qEt n ih) [] fun _=>(by kernel_rfl)
abbrev qG5 (n:Nat) (ih:qAu n):List (Ent (Rn n)):= [en ih.2.2.2,en (qDc n),en (qCf n)]
def qJP (n:Nat) (ih:qAu n):LEnt (KB 212) (Rn n) n:=lok (zR 212) 14 ⟨⟨[(0,(.c (.ptr 0 0 0 0 0))),(1,aI),(5,(.c (.own 1 384 0 0)))],[(384,⟨0,1,2,(.row [])⟩)],[[(0,⟨0,4,175,(.box [qS,qI,qB,(.own 0 1 1 0)])⟩),(1,⟨1,14,162,(.row [])⟩)]]⟩,[(.ret,⟨[(4,aI)],[],[[(0,⟨0,4,175,(.box [qS,qI,qB,(.own 0 1 1 0)])⟩),(1,⟨1,14,162,(.row [])⟩)]]⟩),(.exit 0,⟨[],[],[[(0,⟨0,4,175,(.box [qS,qI,qB,(.own 0 1 1 0)])⟩),(1,⟨1,14,162,(.row [])⟩)]]⟩)]⟩ (qDR (qc n) n) (qG5 n ih) [] fun _=>(by kernel_rfl)
abbrev qMS (n:Nat) (ih:qAu n):List (Ent (Rn n)):= [en (qDP n),en (qGD n),en (qGE n),en (qDc n),en (qCf n),en ih.1]
theorem qAv:∀n,qAu n
 |0=>⟨ok0 fun _=>rfl,ok0 fun _=>rfl,ok0 fun _=>rfl,ok0 fun _=>rfl⟩
 |n+1=>⟨stO (T:=qHp (qc n) n) (by kernel_rfl) (qHu n (qAv n)) [qJ2 n (qAv n)] (fun _=>(by kernel_rfl)) fun _=>(by kernel_rfl),stO (T:=qHq (qc n) n) (by kernel_rfl) (qEt n (qAv n)) [qIV n (qAv n),qJ3 n (qAv n)] (fun _=>(by kernel_rfl)) fun _=>(by kernel_rfl),stO (T:=qG3 (qc n) n) (by kernel_rfl) (qG5 n (qAv n)) [qJP n (qAv n)] (fun _=>(by kernel_rfl)) fun _=>(by kernel_rfl),stO (T:=qHr (qc n) n) (by kernel_rfl) (qMS n (qAv n)) [] (fun _=>(by kernel_rfl)) fun _=>(by kernel_rfl)⟩
theorem qLN (n:Nat):Ok (Rn n) qHo (qDe n):=(qAv n).1
def qGd:Sg:=⟨177,[aL,aI],[],⟨aI,[],[]⟩⟩
def qAw (rec:RW→Int→Option (Int)) (n:Nat) (v:RW×Int×Int×Int):Tr ((RW×Int×Int×Int)⊕((Int)⊕(Int))):=(.ask ((decide (v.2.2.2≥(0:Int)))) (.ask ((decide (v.2.2.1<(0:Int)))) (.done (.inr (.inl ((-1:Int))))) (.ask (decide (0≤v.2.1∧v.2.1<v.1.length)) (.opt (v.1[(v.2.1).toNat]?) fun e158=>(.ask (decide (e158.length=14)) (.opt (zAf e158 13) fun y159=>(.ask (decide (0≤v.2.2.2∧v.2.2.2<y159.length)) (.opt (y159[(v.2.2.2).toNat]?) fun e160=>(.ask (decide (e160.length=1)) (.opt (zD .i64 e160 0) fun y161=>(.ask ((y161 !=v.2.2.1)) (.done (.inr (.inl ((-1:Int))))) (.opt (rec v.1 v.2.2.1) fun r162=>(.ask ((decide (r162<(0:Int)))) (.done (.inr (.inl ((-1:Int))))) (.done (.inl (v.1,v.2.1,(IntKind.i64.wrap (r162-(1:Int))),(IntKind.i64.wrap (v.2.2.2-(1:Int)))))))))) .fail)) .fail)) .fail)) .fail)) (.done (.inr (.inr (v.2.2.1)))))
def qGe (rec:RW→Int→Option (Int)) (n:Nat) (x0:RW) (x1:Int):Tr (Int):=(.ask (decide (0≤x1∧x1<x0.length)) (.opt (x0[(x1).toNat]?) fun e156=>(.ask (decide (e156.length=14)) (.opt (zAf e156 13) fun y157=>(.opt (zC (qAw rec n) n (x0,x1,(IntKind.i64.wrap (x1-(1:Int))),(IntKind.i64.wrap ((y157.length:Int)-(1:Int))))) fun r163=>(.alt r163 (fun r164=>(.done r164)) (fun r165=>(.done (IntKind.i64.wrap (r165+(1:Int)))))))) .fail)) .fail)
def qAi:Nat→RW→Int→Option (Int)
 |0,_,_=>none
 |n+1,x0,x1=>(qGe (qAi n) n x0 x1).run
abbrev qJn (n:Nat) (ih:Ok (Rn n) qGd (qAi n)):List (Ent (Rn n)):= [en ih]
def qLO (n:Nat) (ih:Ok (Rn n) qGd (qAi n)):LEnt (KB 177) (Rn n) n:=lok (zR 177) 29 ⟨⟨[(0,aL),(1,aI),(5,aI),(6,aI)],[],[]⟩,[(.ret,⟨[(4,aI)],[],[]⟩),(.exit 0,⟨[(5,aI)],[],[]⟩)]⟩ (qAw (qAi n) n) (qJn n ih) [] fun _=>(by kernel_rfl)
theorem qFX:∀n,Ok (Rn n) qGd (qAi n)
 |0=>ok0 fun _=>rfl
 |n+1=>stO (T:=qGe (qAi n) n) (by kernel_rfl) (qJn n (qFX n)) [qLO n (qFX n)] (fun _=>(by kernel_rfl)) fun _=>(by kernel_rfl)
def qGf:Sg:=⟨178,[aL,aI],[],⟨aI,[],[]⟩⟩
def qCj (rec:RW→Int→Option (Int)) (n:Nat) (v:RW×Int×Int×Int):Tr ((RW×Int×Int×Int)⊕((Int))):=(.ask (decide (0≤v.2.1∧v.2.1<v.1.length)) (.opt (v.1[(v.2.1).toNat]?) fun e169=>(.ask (decide (e169.length=14)) (.opt (zAf e169 13) fun y170=>(.ask ((decide (v.2.2.2<(y170.length:Int)))) (.ask (decide (0≤v.2.1∧v.2.1<v.1.length)) (.opt (v.1[(v.2.1).toNat]?) fun e171=>(.ask (decide (e171.length=14)) (.opt (zAf e171 13) fun y172=>(.ask (decide (0≤v.2.2.2∧v.2.2.2<y172.length)) (.opt (y172[(v.2.2.2).toNat]?) fun e173=>(.ask (decide (e173.length=1)) (.opt (zD .i64 e173 0) fun y174=>(.opt (rec v.1 y174) fun r175=>(.done (.inl (v.1,v.2.1,(if r175>v.2.2.1 then r175 else v.2.2.1),(IntKind.i64.wrap (v.2.2.2+(1:Int)))))))) .fail)) .fail)) .fail)) .fail) (.done (.inr (v.2.2.1))))) .fail)) .fail)
def qGg (rec:RW→Int→Option (Int)) (n:Nat) (x0:RW) (x1:Int):Tr (Int):=(.opt (zC (qCj rec n) n (x0,x1,(0:Int),(0:Int))) fun r176=>(.done (IntKind.i64.wrap (r176+(1:Int)))))
def qAj:Nat→RW→Int→Option (Int)
 |0,_,_=>none
 |n+1,x0,x1=>(qGg (qAj n) n x0 x1).run
abbrev qJo (n:Nat) (ih:Ok (Rn n) qGf (qAj n)):List (Ent (Rn n)):= [en ih]
def qLP (n:Nat) (ih:Ok (Rn n) qGf (qAj n)):LEnt (KB 178) (Rn n) n:=lok (zR 178) 29 ⟨⟨[(0,aL),(1,aI),(5,aI),(6,aI)],[],[]⟩,[(.exit 0,⟨[(5,aI)],[],[]⟩)]⟩ (qCj (qAj n) n) (qJo n ih) [] fun _=>(by kernel_rfl)
theorem qFY:∀n,Ok (Rn n) qGf (qAj n)
 |0=>ok0 fun _=>rfl
 |n+1=>stO (T:=qGg (qAj n) n) (by kernel_rfl) (qJo n (qFY n)) [qLP n (qFY n)] (fun _=>(by kernel_rfl)) fun _=>(by kernel_rfl)
def qLQ:Sg:=⟨136,[aL],[],⟨aB,[],[]⟩⟩
def qAc (n:Nat) (v:RW×Int×Int):Tr ((RW×Int×Int)⊕((Bool)⊕(RW×Int))):=(.ask (decide (0≤v.2.1∧v.2.1<v.1.length)) (.opt (v.1[(v.2.1).toNat]?) fun e139=>(.ask (decide (e139.length=14)) (.opt (zAf e139 13) fun y140=>(.ask ((decide (v.2.2<(y140.length:Int)))) (.ask (decide (0≤v.2.1∧v.2.1<v.1.length)) (.opt (v.1[(v.2.1).toNat]?) fun e141=>(.ask (decide (e141.length=14)) (.opt (zAf e141 13) fun y142=>(.ask (decide (0≤v.2.2∧v.2.2<y142.length)) (.opt (y142[(v.2.2).toNat]?) fun e143=>(.ask (decide (e143.length=1)) (.opt (zD .i64 e143 0) fun y144=>(.opt (qA9 n y144 (0:Int) (IntKind.i64.wrap (v.2.1-(1:Int)))) fun r145=>(.ask ((!r145)) (.done (.inr (.inl (false)))) (.ask (decide (0≤y144∧y144<v.1.length)) (.opt (v.1[(y144).toNat]?) fun e146=>(.ask (decide (e146.length=14)) (.opt (zD .i64 e146 0) fun y147=>(.ask ((y147==(3:Int))) (.ask (decide (0≤v.2.1∧v.2.1<v.1.length)) (.opt (v.1[(v.2.1).toNat]?) fun e148=>(.ask (decide (e148.length=14)) (.opt (zD .i64 e148 0) fun y149=>(.ask ((y149 !=(6:Int))) (.done (.inr (.inl (false)))) (.done (.inl (v.1,v.2.1,(IntKind.i64.wrap (v.2.2+(1:Int)))))))) .fail)) .fail) (.done (.inl (v.1,v.2.1,(IntKind.i64.wrap (v.2.2+(1:Int)))))))) .fail)) .fail)))) .fail)) .fail)) .fail)) .fail) (.done (.inr (.inr ((v.1,v.2.1))))))) .fail)) .fail)
def qA0 (n:Nat) (v:RW×Int):Tr ((RW×Int)⊕((Bool)⊕(RW))):=(.ask ((decide (v.2<(v.1.length:Int)))) (.ask (decide (0≤v.2∧v.2<v.1.length)) (.opt (v.1[(v.2).toNat]?) fun e123=>(.ask (decide (e123.length=14)) (.opt (zD .i64 e123 0) fun y124=>(.opt (zD .i64 e123 1) fun y125=>(.opt (zD .i64 e123 2) fun y126=>(.opt (zD .i64 e123 3) fun y127=>(.opt (zX e123 4) fun y128=>(.opt (zD .i64 e123 5) fun y129=>(.opt (zD .i64 e123 6) fun y130=>(.opt (zAC e123 7) fun y131=>(.opt (zAC e123 8) fun y132=>(.opt (zD .i64 e123 9) fun y133=>(.opt (zD .i64 e123 10) fun y134=>(.opt (zAC e123 11) fun y135=>(.opt (zAC e123 12) fun y136=>(.opt (zAf e123 13) fun y137=>(.opt (qBm n y124 y125 y126 y127 y128 y129 y130 y131 y132 y133 y134 y135 y136 y137) fun r138=>(.ask ((!r138)) (.done (.inr (.inl (false)))) (.opt (zC (qAc n) n (v.1,v.2,(0:Int))) fun r150=>(.alt r150 (fun r151=>(.done (.inr (.inl (r151))))) (fun r152=>(.done (.inl (r152.1,(IntKind.i64.wrap (r152.2+(1:Int))))))))))))))))))))))))) .fail)) .fail) (.done (.inr (.inr (v.1)))))
def qCk (n:Nat) (x0:RW):Tr (Bool):=(.ask ((decide ((x0.length:Int)<(1:Int)))) (.done false) (.ask ((decide ((x0.length:Int)>(60:Int)))) (.done false) (.opt (zC (qA0 n) n (x0,(0:Int))) fun r153=>(.alt r153 (fun r154=>(.done r154)) (fun r155=>(.opt (qAi n r155 (IntKind.i64.wrap ((r155.length:Int)-(1:Int)))) fun r166=>(.ask ((r166==(0:Int))) (.ask (decide (0≤(IntKind.i64.wrap ((r155.length:Int)-(1:Int)))∧(IntKind.i64.wrap ((r155.length:Int)-(1:Int)))<r155.length)) (.opt (r155[((IntKind.i64.wrap ((r155.length:Int)-(1:Int)))).toNat]?) fun e167=>(.ask (decide (e167.length=14)) (.opt (zD .i64 e167 0) fun y168=>(.ask ((y168 !=(3:Int))) (.opt (qAj n r155 (IntKind.i64.wrap ((r155.length:Int)-(1:Int)))) fun r177=>(.done (decide (r177≤(12:Int))))) (.done false))) .fail)) .fail) (.done false))))))))
def qBT:Nat→RW→Option (Bool)
 |0,_=>none
 |n+1,x0=>(qCk n x0).run
abbrev qEQ (n:Nat):List (Ent (Rn n)):= [en (qGx n),en (qDx n),en (qFX n),en (qFY n)]
def qIW (n:Nat):LEnt (lb 29 (KB 136)) (Rn n) n:=lok (Uniq.pick (zR 136) 29) 475 ⟨⟨[(0,aL),(3,aI),(4,aI)],[],[]⟩,[(.ret,⟨[(2,aB)],[],[]⟩),(.exit 2,⟨[(0,aL),(3,aI)],[],[]⟩)]⟩ (qAc n) (qEQ n) [] fun _=>(by kernel_rfl)
def qJQ (n:Nat):LEnt (KB 136) (Rn n) n:=lok (zR 136) 29 ⟨⟨[(0,aL),(3,aI)],[],[]⟩,[(.ret,⟨[(2,aB)],[],[]⟩),(.exit 0,⟨[(0,aL)],[],[]⟩)]⟩ (qA0 n) (qEQ n) [qIW n] fun _=>(by kernel_rfl)
theorem qGG:∀n,Ok (Rn n) qLQ (qBT n)
 |0=>ok0 fun _=>rfl
 |n+1=>stO (T:=qCk n) (by kernel_rfl) (qEQ n) [qJQ n] (fun _=>(by kernel_rfl)) fun _=>(by kernel_rfl)
def qJ4:Sg:=⟨93,[aS],[],⟨(.tup [(false,[qL]),(false,[qB])]),[],[]⟩⟩
def qFZ (n:Nat) (x0:BA):Tr (RW×Bool):=(.opt (qBz n x0) fun r28=>(.ask ((!r28)) (.ask (decide (0=([]:RW).length)) (.done (([]:RW),false)) .fail) (.opt (qDe n (1:Int) x0 (0:Int) false (0:Nat) ([]:RW)) fun r121=>(.opt (qBS n r121.2.1 r121.2.2.1 r121.2.2.2.1 r121.2.2.2.2.1 r121.2.2.2.2.2) fun r122=>(.ask (r122.2.2.1) (.ask (decide (0=([]:RW).length)) (.done (([]:RW),false)) .fail) (.ask ((decide (r122.2.1<(x0.size:Int)))) (.ask (decide (0=([]:RW).length)) (.done (([]:RW),false)) .fail) (.ask (decide (r122.2.2.2.1=r122.2.2.2.2.length)) (.opt (qBT n r122.2.2.2.2) fun r178=>(.ask (zAT (⟨(.c (.p (.b r178))),[],[]⟩:Res)) (.ask ((!r178)) (.ask (decide (0=([]:RW).length)) (.done (([]:RW),false)) .fail) (.ask (decide (r122.2.2.2.1=r122.2.2.2.2.length)) (.done (r122.2.2.2.2,true)) .fail)) .fail)) .fail)))))))
def qDh:Nat→BA→Option (RW×Bool)
 |0,_=>none
 |n+1,x0=>(qFZ n x0).run
abbrev qJ5 (n:Nat):List (Ent (Rn n)):= [en (qEr n),en (qLN n),en (qDP n),en (qGG n)]
theorem qJR:∀n,Ok (Rn n) qJ4 (qDh n)
 |0=>ok0 fun _=>rfl
 |n+1=>stO (T:=qFZ n) (by kernel_rfl) (qJ5 n) [] (fun _=>(by kernel_rfl)) fun _=>(by kernel_rfl)
def qNK:Sg:=⟨179,[aS],[],⟨aS,[],[]⟩⟩
def qBJ (n:Nat) (v:BA×BA×Int):Tr ((BA×BA×Int)⊕((BA))):=(.ask ((decide (v.2.2<(v.1.size:Int)))) (.ask (decide (0≤v.2.2)) (.opt (v.1.toList[(v.2.2).toNat]?) fun c196=>(.ask (((c196.toNat:Int)==(34:Int))) (.ask (decide (v.2.1.size+(⟨#[34]⟩:BA).size≤9223372036854775807)) (.ask (decide (0≤v.2.2∧v.2.2≤(IntKind.i64.wrap (v.2.2+(1:Int)))∧(IntKind.i64.wrap (v.2.2+(1:Int)))≤v.1.size)) (.ask (decide ((v.2.1++(⟨#[34]⟩:BA)).size+(v.1.extract (v.2.2).toNat ((IntKind.i64.wrap (v.2.2+(1:Int)))).toNat).size≤9223372036854775807)) (.done (.inl (v.1,((v.2.1++(⟨#[34]⟩:BA))++(v.1.extract (v.2.2).toNat ((IntKind.i64.wrap (v.2.2+(1:Int)))).toNat)),(IntKind.i64.wrap (v.2.2+(1:Int)))))) .fail) .fail) .fail) (.ask (decide (0≤v.2.2∧v.2.2≤(IntKind.i64.wrap (v.2.2+(1:Int)))∧(IntKind.i64.wrap (v.2.2+(1:Int)))≤v.1.size)) (.ask (decide (v.2.1.size+(v.1.extract (v.2.2).toNat ((IntKind.i64.wrap (v.2.2+(1:Int)))).toNat).size≤9223372036854775807)) (.done (.inl (v.1,(v.2.1++(v.1.extract (v.2.2).toNat ((IntKind.i64.wrap (v.2.2+(1:Int)))).toNat)),(IntKind.i64.wrap (v.2.2+(1:Int)))))) .fail) .fail))) .fail) (.done (.inr (v.2.1))))
def qFa (n:Nat) (x0:BA):Tr (BA):=(.opt (zC (qBJ n) n (x0,(⟨#[34]⟩:BA),(0:Int))) fun r197=>(.ask (decide (r197.size+(⟨#[34]⟩:BA).size≤9223372036854775807)) (.done (r197++(⟨#[34]⟩:BA))) .fail))
def qD2:Nat→BA→Option (BA)
 |0,_=>none
 |n+1,x0=>(qFa n x0).run
def qKj (n:Nat):LEnt (KB 179) (Rn n) n:=lok (zR 179) 29 ⟨⟨[(0,aS),(3,aS),(4,aI)],[],[]⟩,[(.exit 0,⟨[(3,aS)],[],[]⟩)]⟩ (qBJ n) [] [] fun _=>(by kernel_rfl)
theorem qMT:∀n,Ok (Rn n) qNK (qD2 n)
 |0=>ok0 fun _=>rfl
 |n+1=>stO (T:=qFa n) (by kernel_rfl) [] [qKj n] (fun _=>(by kernel_rfl)) fun _=>(by kernel_rfl)
def qHM:Sg:=⟨59,[aI],[],⟨aS,[],[]⟩⟩
def qCy (n:Nat) (v:Int×BA):Tr ((Int×BA)⊕((Int×BA))):=(.ask ((decide (v.1≥(10:Int)))) (.ask (decide (1=([[(.i .u8 (IntKind.u8.wrap (IntKind.i64.wrap ((48:Int)+(Int.tmod v.1 (10:Int))))))]]:RW).length)) (.opt (bytesOf ([[(.i .u8 (IntKind.u8.wrap (IntKind.i64.wrap ((48:Int)+(Int.tmod v.1 (10:Int))))))]]:RW)) fun l201=>(.ask (decide ((⟨l201.toArray⟩:BA).size+v.2.size≤9223372036854775807)) (.done (.inl ((IntKind.i64.wrap (Int.tdiv v.1 (10:Int))),((⟨l201.toArray⟩:BA)++v.2)))) .fail)) .fail) (.done (.inr ((v.1,v.2)))))
def qFH (rec:Int→Option (BA)) (n:Nat) (x0:Int):Tr (BA):=(.ask ((decide (x0<(0:Int)))) (.opt (rec (IntKind.i64.wrap (0-x0))) fun r200=>(.ask (decide ((⟨#[45]⟩:BA).size+r200.size≤9223372036854775807)) (.done ((⟨#[45]⟩:BA)++r200)) .fail)) (.opt (zC (qCy n) n (x0,(⟨#[]⟩:BA))) fun r202=>(.ask (decide (1=([[(.i .u8 (IntKind.u8.wrap (IntKind.i64.wrap ((48:Int)+r202.1))))]]:RW).length)) (.opt (bytesOf ([[(.i .u8 (IntKind.u8.wrap (IntKind.i64.wrap ((48:Int)+r202.1))))]]:RW)) fun l203=>(.ask (decide ((⟨l203.toArray⟩:BA).size+r202.2.size≤9223372036854775807)) (.done ((⟨l203.toArray⟩:BA)++r202.2)) .fail)) .fail)))
def qAl:Nat→Int→Option (BA)
 |0,_=>none
 |n+1,x0=>(qFH (qAl n) n x0).run
abbrev qKk (n:Nat) (ih:Ok (Rn n) qHM (qAl n)):List (Ent (Rn n)):= [en ih]
def qMU (n:Nat) (ih:Ok (Rn n) qHM (qAl n)):LEnt (KB 59) (Rn n) n:=lok (zR 59) 30 ⟨⟨[(0,aI),(3,aS)],[],[]⟩,[(.exit 0,⟨[(0,aI),(3,aS)],[],[]⟩)]⟩ (qCy n) (qKk n ih) [] fun _=>(by kernel_rfl)
theorem qEa:∀n,Ok (Rn n) qHM (qAl n)
 |0=>ok0 fun _=>rfl
 |n+1=>stO (T:=qFH (qAl n) n) (by kernel_rfl) (qKk n (qEa n)) [qMU n (qEa n)] (fun _=>(by kernel_rfl)) fun _=>(by kernel_rfl)
def qOG:Sg:=⟨140,[aI],[],⟨aS,[],[]⟩⟩
def qGh (n:Nat) (x0:Int):Tr (BA):=(.ask ((x0==(1:Int))) (.done (⟨#[84,82,85,69]⟩:BA)) (.done (⟨#[70,65,76,83,69]⟩:BA)))
def qEb:Nat→Int→Option (BA)
 |0,_=>none
 |n+1,x0=>(qGh n x0).run
theorem qNL:∀n,Ok (Rn n) qOG (qEb n)
 |0=>ok0 fun _=>rfl
 |n+1=>stO (T:=qGh n) (by kernel_rfl) [] [] (fun _=>(by kernel_rfl)) fun _=>(by kernel_rfl)
def qLR:Sg:=⟨96,[(.agg [qI,qI,qS])],[],⟨aS,[],[]⟩⟩
def qBA (n:Nat) (x0 x1:Int) (x2:BA):Tr (BA):=(.opt (qX n x0 x1 x2) fun r199=>(.ask ((!r199)) (.done (⟨#[]⟩:BA)) (.ask ((x0==(1:Int))) (.opt (qAl n x1) fun r204=>(.done r204)) (.ask ((x0==(2:Int))) (.ask (decide ((⟨#[39]⟩:BA).size+x2.size≤9223372036854775807)) (.done ((⟨#[39]⟩:BA)++x2)) .fail) (.ask ((x0==(3:Int))) (.opt (qEb n x1) fun r205=>(.done r205)) (.ask ((x0==(4:Int))) (.opt (qBE n x1) fun r206=>(.done r206)) (.done (⟨#[]⟩:BA))))))))
def qAJ:Nat→Int→Int→BA→Option (BA)
 |0,_,_,_=>none
 |n+1,x0,x1,x2=>(qBA n x0 x1 x2).run
abbrev qLS (n:Nat):List (Ent (Rn n)):= [en (qDd n),en (qEa n),en (qNL n),en (qFT n)]
theorem qGH:∀n,Ok (Rn n) qLR (qAJ n)
 |0=>ok0 fun _=>rfl
 |n+1=>stO (T:=qBA n) (by kernel_rfl) (qLS n) [] (fun _=>(by kernel_rfl)) fun _=>(by kernel_rfl)
def qLT:Sg:=⟨58,[(.agg [qI,qI,qB,qB])],[],⟨aS,[],[]⟩⟩
def qDJ (n:Nat) (x0 x1:Int) (x2 x3:Bool):Tr (BA):=(.opt (qAD n x0 x1) fun r208=>(.ask ((!r208)) (.done (⟨#[]⟩:BA)) (.opt (qCi n x0) fun r209=>(.ask (x2) (.ask (decide ((⟨#[36]⟩:BA).size+r209.size≤9223372036854775807)) (.ask (x3) (.ask (decide (((⟨#[36]⟩:BA)++r209).size+(⟨#[36]⟩:BA).size≤9223372036854775807)) (.opt (qAl n x1) fun r210=>(.ask (decide ((((⟨#[36]⟩:BA)++r209)++(⟨#[36]⟩:BA)).size+r210.size≤9223372036854775807)) (.done ((((⟨#[36]⟩:BA)++r209)++(⟨#[36]⟩:BA))++r210)) .fail)) .fail) (.opt (qAl n x1) fun r211=>(.ask (decide (((⟨#[36]⟩:BA)++r209).size+r211.size≤9223372036854775807)) (.done (((⟨#[36]⟩:BA)++r209)++r211)) .fail))) .fail) (.ask (x3) (.ask (decide (r209.size+(⟨#[36]⟩:BA).size≤9223372036854775807)) (.opt (qAl n x1) fun r212=>(.ask (decide ((r209++(⟨#[36]⟩:BA)).size+r212.size≤9223372036854775807)) (.done ((r209++(⟨#[36]⟩:BA))++r212)) .fail)) .fail) (.opt (qAl n x1) fun r213=>(.ask (decide (r209.size+r213.size≤9223372036854775807)) (.done (r209++r213)) .fail)))))))
def qBU:Nat→Int→Int→Bool→Bool→Option (BA)
 |0,_,_,_,_=>none
 |n+1,x0,x1,x2,x3=>(qDJ n x0 x1 x2 x3).run
abbrev qLU (n:Nat):List (Ent (Rn n)):= [en (qDY n),en (qHm n),en (qEa n)]
theorem qKl:∀n,Ok (Rn n) qLT (qBU n)
 |0=>ok0 fun _=>rfl
 |n+1=>stO (T:=qDJ n) (by kernel_rfl) (qLU n) [] (fun _=>(by kernel_rfl)) fun _=>(by kernel_rfl)
def qGi:Sg:=⟨137,[aL,aI,aI],[],⟨aS,[],[]⟩⟩
def qBK (rec:RW→Int→Int→Option (BA)) (n:Nat) (v:RW×BA×Int×Int×Int×Int×Int×BA×Int×Int×Bool×Bool×Int×Int×Bool×Bool×RW):Tr ((RW×BA×Int×Int×Int×Int×Int×BA×Int×Int×Bool×Bool×Int×Int×Bool×Bool×RW)⊕((BA))):=(.ask ((decide (v.2.2.1<(v.2.2.2.2.2.2.2.2.2.2.2.2.2.2.2.2.length:Int)))) (.ask ((decide (v.2.2.1>(0:Int)))) (.ask (decide (v.2.1.size+(⟨#[44]⟩:BA).size≤9223372036854775807)) (.ask (decide (0≤v.2.2.1∧v.2.2.1<v.2.2.2.2.2.2.2.2.2.2.2.2.2.2.2.2.length)) (.opt (v.2.2.2.2.2.2.2.2.2.2.2.2.2.2.2.2[(v.2.2.1).toNat]?) fun e229=>(.ask (decide (e229.length=1)) (.opt (zD .i64 e229 0) fun y230=>(.opt (rec v.1 y230 (0:Int)) fun r231=>(.ask (decide ((v.2.1++(⟨#[44]⟩:BA)).size+r231.size≤9223372036854775807)) (.done (.inl (v.1,((v.2.1++(⟨#[44]⟩:BA))++r231),(IntKind.i64.wrap (v.2.2.1+(1:Int))),v.2.2.2.1,v.2.2.2.2.1,v.2.2.2.2.2.1,v.2.2.2.2.2.2.1,v.2.2.2.2.2.2.2.1,v.2.2.2.2.2.2.2.2.1,v.2.2.2.2.2.2.2.2.2.1,v.2.2.2.2.2.2.2.2.2.2.1,v.2.2.2.2.2.2.2.2.2.2.2.1,v.2.2.2.2.2.2.2.2.2.2.2.2.1,v.2.2.2.2.2.2.2.2.2.2.2.2.2.1,v.2.2.2.2.2.2.2.2.2.2.2.2.2.2.1,v.2.2.2.2.2.2.2.2.2.2.2.2.2.2.2.1,v.2.2.2.2.2.2.2.2.2.2.2.2.2.2.2.2))) .fail))) .fail)) .fail) .fail) (.ask (decide (0≤v.2.2.1∧v.2.2.1<v.2.2.2.2.2.2.2.2.2.2.2.2.2.2.2.2.length)) (.opt (v.2.2.2.2.2.2.2.2.2.2.2.2.2.2.2.2[(v.2.2.1).toNat]?) fun e232=>(.ask (decide (e232.length=1)) (.opt (zD .i64 e232 0) fun y233=>(.opt (rec v.1 y233 (0:Int)) fun r234=>(.ask (decide (v.2.1.size+r234.size≤9223372036854775807)) (.done (.inl (v.1,(v.2.1++r234),(IntKind.i64.wrap (v.2.2.1+(1:Int))),v.2.2.2.1,v.2.2.2.2.1,v.2.2.2.2.2.1,v.2.2.2.2.2.2.1,v.2.2.2.2.2.2.2.1,v.2.2.2.2.2.2.2.2.1,v.2.2.2.2.2.2.2.2.2.1,v.2.2.2.2.2.2.2.2.2.2.1,v.2.2.2.2.2.2.2.2.2.2.2.1,v.2.2.2.2.2.2.2.2.2.2.2.2.1,v.2.2.2.2.2.2.2.2.2.2.2.2.2.1,v.2.2.2.2.2.2.2.2.2.2.2.2.2.2.1,v.2.2.2.2.2.2.2.2.2.2.2.2.2.2.2.1,v.2.2.2.2.2.2.2.2.2.2.2.2.2.2.2.2))) .fail))) .fail)) .fail)) (.done (.inr (v.2.1))))
def qBe (rec:RW→Int→Int→Option (BA)) (n:Nat) (x0:RW) (x1 x2:Int):Tr (BA):=(.ask (decide (0≤x1∧x1<x0.length)) (.opt (x0[(x1).toNat]?) fun e181=>(.ask (decide (e181.length=14)) (.opt (zD .i64 e181 0) fun y182=>(.opt (zD .i64 e181 1) fun y183=>(.opt (zD .i64 e181 2) fun y184=>(.opt (zD .i64 e181 3) fun y185=>(.opt (zX e181 4) fun y186=>(.opt (zD .i64 e181 5) fun y187=>(.opt (zD .i64 e181 6) fun y188=>(.opt (zAC e181 7) fun y189=>(.opt (zAC e181 8) fun y190=>(.opt (zD .i64 e181 9) fun y191=>(.opt (zD .i64 e181 10) fun y192=>(.opt (zAC e181 11) fun y193=>(.opt (zAC e181 12) fun y194=>(.opt (zAf e181 13) fun y195=>(.ask ((y182==(1:Int))) (.ask ((y184==(2:Int))) (.opt (qD2 n y186) fun r198=>(.done r198)) (.opt (qAJ n y184 y185 y186) fun r207=>(.done r207))) (.ask ((y182==(2:Int))) (.opt (qBU n y187 y188 y189 y190) fun r214=>(.done r214)) (.ask ((y182==(3:Int))) (.opt (qBU n y187 y188 y189 y190) fun r215=>(.ask (decide (r215.size+(⟨#[58]⟩:BA).size≤9223372036854775807)) (.opt (qBU n y191 y192 y193 y194) fun r216=>(.ask (decide ((r215++(⟨#[58]⟩:BA)).size+r216.size≤9223372036854775807)) (.done ((r215++(⟨#[58]⟩:BA))++r216)) .fail)) .fail)) (.ask ((y182==(4:Int))) (.ask (decide (0≤(0:Int)∧(0:Int)<y195.length)) (.opt (y195[((0:Int)).toNat]?) fun e217=>(.ask (decide (e217.length=1)) (.opt (zD .i64 e217 0) fun y218=>(.opt (rec x0 y218 (5:Int)) fun r219=>(.ask (decide ((⟨#[45]⟩:BA).size+r219.size≤9223372036854775807)) (.done ((⟨#[45]⟩:BA)++r219)) .fail))) .fail)) .fail) (.ask ((y182==(5:Int))) (.opt (qB1 n y183) fun r220=>(.ask (decide (0≤(0:Int)∧(0:Int)<y195.length)) (.opt (y195[((0:Int)).toNat]?) fun e221=>(.ask (decide (e221.length=1)) (.opt (zD .i64 e221 0) fun y222=>(.ask (decide (0≤(1:Int)∧(1:Int)<y195.length)) (.opt (y195[((1:Int)).toNat]?) fun e223=>(.ask (decide (e223.length=1)) (.opt (zD .i64 e223 0) fun y224=>(.opt (rec x0 y222 r220) fun r225=>(.opt (qCU n y183) fun r226=>(.ask (decide (r225.size+r226.size≤9223372036854775807)) (.opt (rec x0 y224 (IntKind.i64.wrap (r220+(1:Int)))) fun r227=>(.ask (decide ((r225++r226).size+r227.size≤9223372036854775807)) (.ask ((decide (r220<x2))) (.ask (decide ((⟨#[40]⟩:BA).size+((r225++r226)++r227).size≤9223372036854775807)) (.ask (decide (((⟨#[40]⟩:BA)++((r225++r226)++r227)).size+(⟨#[41]⟩:BA).size≤9223372036854775807)) (.done (((⟨#[40]⟩:BA)++((r225++r226)++r227))++(⟨#[41]⟩:BA))) .fail) .fail) (.done ((r225++r226)++r227))) .fail)) .fail)))) .fail)) .fail)) .fail)) .fail)) (.opt (qCF n y183) fun r228=>(.ask (decide (r228.size+(⟨#[40]⟩:BA).size≤9223372036854775807)) (.opt (zC (qBK rec n) n (x0,(r228++(⟨#[40]⟩:BA)),(0:Int),y182,y183,y184,y185,y186,y187,y188,y189,y190,y191,y192,y193,y194,y195)) fun r235=>(.ask (decide (r235.size+(⟨#[41]⟩:BA).size≤9223372036854775807)) (.done (r235++(⟨#[41]⟩:BA))) .fail)) .fail))))))))))))))))))))) .fail)) .fail)
def qk:Nat→RW→Int→Int→Option (BA)
 |0,_,_,_=>none
 |n+1,x0,x1,x2=>(qBe (qk n) n x0 x1 x2).run
abbrev qJp (n:Nat) (ih:Ok (Rn n) qGi (qk n)):List (Ent (Rn n)):= [en (qMT n),en (qGH n),en (qKl n),en ih,en (qHn n),en (qIS n),en (qKf n)]
def qKm (n:Nat) (ih:Ok (Rn n) qGi (qk n)):LEnt (KB 137) (Rn n) n:=lok (zR 137) 125 ⟨⟨[(0,aL),(7,(.c (.ptr 0 448 0 0 0))),(10,aS),(11,aI)],[(448,⟨0,14,162,(.box [qI,qI,qI,qI,qS,qI,qI,qB,qB,qI,qI,qB,qB,qL])⟩)],[]⟩,[(.exit 1,⟨[(10,aS)],[],[]⟩)]⟩ (qBK (qk n) n) (qJp n ih) [] fun _=>(by kernel_rfl)
theorem qFb:∀n,Ok (Rn n) qGi (qk n)
 |0=>ok0 fun _=>rfl
 |n+1=>stO (T:=qBe (qk n) n) (by kernel_rfl) (qJp n (qFb n)) [qKm n (qFb n)] (fun _=>(by kernel_rfl)) fun _=>(by kernel_rfl)
def qJ6:Sg:=⟨94,[aL],[],⟨aS,[],[]⟩⟩
def qCr (n:Nat) (x0:RW):Tr (BA):=(.opt (qBT n x0) fun r180=>(.ask ((!r180)) (.done (⟨#[]⟩:BA)) (.opt (qk n x0 (IntKind.i64.wrap ((x0.length:Int)-(1:Int))) (0:Int)) fun r236=>(.ask ((decide ((r236.size:Int)>(200:Int)))) (.done (⟨#[]⟩:BA)) (.done r236)))))
def qBV:Nat→RW→Option (BA)
 |0,_=>none
 |n+1,x0=>(qCr n x0).run
abbrev qJ7 (n:Nat):List (Ent (Rn n)):= [en (qGG n),en (qFb n)]
theorem qJS:∀n,Ok (Rn n) qJ6 (qBV n)
 |0=>ok0 fun _=>rfl
 |n+1=>stO (T:=qCr n) (by kernel_rfl) (qJ7 n) [] (fun _=>(by kernel_rfl)) fun _=>(by kernel_rfl)
def qMV:Sg:=⟨95,[aS],[],⟨(.tup [(true,[qI,qI,qS]),(false,[qB])]),[],[]⟩⟩
def qBW (n:Nat) (v:BA×Bool×Int×Int×BA):Tr ((BA×Bool×Int×Int×BA)⊕((BA×Bool×Int×Int×BA))):=(.ask ((decide ((v.1.size:Int)>(1:Int)))) (.ask (decide (0≤(0:Int))) (.opt (v.1.toList[((0:Int)).toNat]?) fun c239=>(.ask (((c239.toNat:Int)==(48:Int))) (.ask (decide (0≤(1:Int)∧(1:Int)≤(v.1.size:Int)∧(v.1.size:Int)≤v.1.size)) (.done (.inl ((v.1.extract ((1:Int)).toNat ((v.1.size:Int)).toNat),v.2.1,v.2.2.1,v.2.2.2.1,v.2.2.2.2))) .fail) (.done (.inr ((v.1,v.2.1,v.2.2.1,v.2.2.2.1,v.2.2.2.2)))))) .fail) (.done (.inr ((v.1,v.2.1,v.2.2.1,v.2.2.2.1,v.2.2.2.2)))))
def qHv (n:Nat) (x0:BA):Tr (Int×Int×BA×Bool):=(.ask ((decide ((x0.size:Int)>(0:Int)))) (.ask (decide (0≤(0:Int))) (.opt (x0.toList[((0:Int)).toNat]?) fun c238=>(.ask (((c238.toNat:Int)==(45:Int))) (.ask (decide (0≤(1:Int)∧(1:Int)≤(x0.size:Int)∧(x0.size:Int)≤x0.size)) (.ask (((x0.extract ((1:Int)).toNat ((x0.size:Int)).toNat).toList==(⟨#[]⟩:BA).toList)) (.done ((0:Int),(0:Int),(⟨#[]⟩:BA),false)) (.opt (zC (qBW n) n ((x0.extract ((1:Int)).toNat ((x0.size:Int)).toNat),((c238.toNat:Int)==(45:Int)),(0:Int),(0:Int),(⟨#[]⟩:BA))) fun r240=>(.opt (qq n r240.1 (16:Int)) fun r241=>(.ask (r240.2.1) (.ask (r241.2) (.opt (qX n (1:Int) (IntKind.i64.wrap (0-r241.1)) (⟨#[]⟩:BA)) fun r242=>(.done ((1:Int),(IntKind.i64.wrap (0-r241.1)),(⟨#[]⟩:BA),r242))) (.done ((1:Int),(IntKind.i64.wrap (0-r241.1)),(⟨#[]⟩:BA),false))) (.ask (r241.2) (.opt (qX n (1:Int) r241.1 (⟨#[]⟩:BA)) fun r243=>(.done ((1:Int),r241.1,(⟨#[]⟩:BA),r243))) (.done ((1:Int),r241.1,(⟨#[]⟩:BA),false))))))) .fail) (.ask ((x0.toList==(⟨#[]⟩:BA).toList)) (.done ((0:Int),(0:Int),(⟨#[]⟩:BA),false)) (.opt (zC (qBW n) n (x0,((c238.toNat:Int)==(45:Int)),(0:Int),(0:Int),(⟨#[]⟩:BA))) fun r244=>(.opt (qq n r244.1 (16:Int)) fun r245=>(.ask (r244.2.1) (.ask (r245.2) (.opt (qX n (1:Int) (IntKind.i64.wrap (0-r245.1)) (⟨#[]⟩:BA)) fun r246=>(.done ((1:Int),(IntKind.i64.wrap (0-r245.1)),(⟨#[]⟩:BA),r246))) (.done ((1:Int),(IntKind.i64.wrap (0-r245.1)),(⟨#[]⟩:BA),false))) (.ask (r245.2) (.opt (qX n (1:Int) r245.1 (⟨#[]⟩:BA)) fun r247=>(.done ((1:Int),r245.1,(⟨#[]⟩:BA),r247))) (.done ((1:Int),r245.1,(⟨#[]⟩:BA),false))))))))) .fail) (.ask ((x0.toList==(⟨#[]⟩:BA).toList)) (.done ((0:Int),(0:Int),(⟨#[]⟩:BA),false)) (.opt (zC (qBW n) n (x0,false,(0:Int),(0:Int),(⟨#[]⟩:BA))) fun r248=>(.opt (qq n r248.1 (16:Int)) fun r249=>(.ask (r248.2.1) (.ask (r249.2) (.opt (qX n (1:Int) (IntKind.i64.wrap (0-r249.1)) (⟨#[]⟩:BA)) fun r250=>(.done ((1:Int),(IntKind.i64.wrap (0-r249.1)),(⟨#[]⟩:BA),r250))) (.done ((1:Int),(IntKind.i64.wrap (0-r249.1)),(⟨#[]⟩:BA),false))) (.ask (r249.2) (.opt (qX n (1:Int) r249.1 (⟨#[]⟩:BA)) fun r251=>(.done ((1:Int),r249.1,(⟨#[]⟩:BA),r251))) (.done ((1:Int),r249.1,(⟨#[]⟩:BA),false))))))))
def qEu:Nat→BA→Option (Int×Int×BA×Bool)
 |0,_=>none
 |n+1,x0=>(qHv n x0).run
abbrev qHw (n:Nat):List (Ent (Rn n)):= [en (qGb n),en (qDd n)]
def qJ8 (n:Nat):LEnt (KB 95) (Rn n) n:=lok (zR 95) 62 ⟨⟨[(0,aS),(2,(.c (.ptr 0 128 0 0 0))),(4,aB)],[(128,⟨0,3,128,(.box [qI,qI,qS])⟩)],[]⟩,[(.exit 0,⟨[(0,aS),(2,(.c (.ptr 0 128 0 0 0))),(4,aB)],[(128,⟨0,3,128,(.box [qI,qI,qS])⟩)],[]⟩)]⟩ (qBW n) (qHw n) [] fun _=>(by kernel_rfl)
theorem qLV:∀n,Ok (Rn n) qMV (qEu n)
 |0=>ok0 fun _=>rfl
 |n+1=>stO (T:=qHv n) (by kernel_rfl) (qHw n) [qJ8 n] (fun _=>(by kernel_rfl)) fun _=>(by kernel_rfl)
def qNM:Sg:=⟨53,[aS],[],⟨(.tup [(false,[qS]),(false,[qB])]),[],[]⟩⟩
def qIX (n:Nat) (x0:BA):Tr (BA×Bool):=(.opt (qBz n x0) fun r26=>(.ask ((!r26)) (.done ((⟨#[]⟩:BA),false)) (.ask ((x0.toList==(⟨#[]⟩:BA).toList)) (.done ((⟨#[]⟩:BA),true)) (.ask (decide (0≤(0:Int))) (.opt (x0.toList[((0:Int)).toNat]?) fun c27=>(.ask (((c27.toNat:Int)==(61:Int))) (.ask (decide (0≤(1:Int)∧(1:Int)≤(x0.size:Int)∧(x0.size:Int)≤x0.size)) (.opt (qDh n (x0.extract ((1:Int)).toNat ((x0.size:Int)).toNat)) fun r179=>(.opt (qBV n r179.1) fun r237=>(.ask ((!r179.2)) (.done ((⟨#[]⟩:BA),false)) (.ask ((r237.toList==(⟨#[]⟩:BA).toList)) (.done ((⟨#[]⟩:BA),false)) (.ask ((decide ((IntKind.i64.wrap ((r237.size:Int)+(1:Int)))>(200:Int)))) (.done ((⟨#[]⟩:BA),false)) (.ask (decide ((⟨#[61]⟩:BA).size+r237.size≤9223372036854775807)) (.done (((⟨#[61]⟩:BA)++r237),true)) .fail)))))) .fail) (.opt (qEu n x0) fun r252=>(.ask (r252.2.2.2) (.opt (qAJ n r252.1 r252.2.1 r252.2.2.1) fun r253=>(.done (r253,true))) (.opt (qAC n x0) fun r254=>(.ask ((!r254.2.2.2)) (.opt (qAJ n (2:Int) (0:Int) x0) fun r255=>(.ask ((decide ((r255.size:Int)>(200:Int)))) (.done ((⟨#[]⟩:BA),false)) (.done (r255,true)))) (.opt (qAJ n r254.1 r254.2.1 r254.2.2.1) fun r256=>(.ask ((decide ((r256.size:Int)>(200:Int)))) (.done ((⟨#[]⟩:BA),false)) (.done (r256,true)))))))))) .fail))))
def qD3:Nat→BA→Option (BA×Bool)
 |0,_=>none
 |n+1,x0=>(qIX n x0).run
abbrev qNN (n:Nat):List (Ent (Rn n)):= [en (qEr n),en (qJR n),en (qJS n),en (qLV n),en (qGH n),en (qGF n)]
theorem qMW:∀n,Ok (Rn n) qNM (qD3 n)
 |0=>ok0 fun _=>rfl
 |n+1=>stO (T:=qIX n) (by kernel_rfl) (qNN n) [] (fun _=>(by kernel_rfl)) fun _=>(by kernel_rfl)
def qNO:Sg:=⟨88,[(.agg [qI,qI]),(.agg [qI,qI])],[],⟨aB,[],[]⟩⟩
def qFc (n:Nat) (x0 x1 x2 x3:Int):Tr (Bool):=(.ask ((decide (x1<x3))) (.done true) (.ask ((x1==x3)) (.done (decide (x0<x2))) (.done false)))
def qC8:Nat→Int→Int→Int→Int→Option (Bool)
 |0,_,_,_,_=>none
 |n+1,x0,x1,x2,x3=>(qFc n x0 x1 x2 x3).run
theorem qMX:∀n,Ok (Rn n) qNO (qC8 n)
 |0=>ok0 fun _=>rfl
 |n+1=>stO (T:=qFc n) (by kernel_rfl) [] [] (fun _=>(by kernel_rfl)) fun _=>(by kernel_rfl)
def qNP:Sg:=⟨44,[aL],[],⟨aB,[],[]⟩⟩
def qD4 (n:Nat) (v:RW×Int):Tr ((RW×Int)⊕((Bool)⊕(Unit))):=(.ask ((decide (v.2<(v.1.length:Int)))) (.ask (decide (0≤v.2∧v.2<v.1.length)) (.opt (v.1[(v.2).toNat]?) fun e19=>(.ask (decide (e19.length=3)) (.opt (zX e19 2) fun y20=>(.opt (qD3 n y20) fun r21=>(.ask (decide (0≤v.2∧v.2<v.1.length)) (.opt (v.1[(v.2).toNat]?) fun e22=>(.ask (decide (e22.length=3)) (.opt (zD .i64 e22 0) fun y23=>(.opt (zD .i64 e22 1) fun y24=>(.opt (qAD n y23 y24) fun r25=>(.ask ((!r25)) (.done (.inr (.inl (false)))) (.ask ((!r21.2)) (.done (.inr (.inl (false)))) (.ask (decide (0≤v.2∧v.2<v.1.length)) (.opt (v.1[(v.2).toNat]?) fun e26=>(.ask (decide (e26.length=3)) (.opt (zX e26 2) fun y27=>(.ask ((y27.toList==(⟨#[]⟩:BA).toList)) (.done (.inr (.inl (false)))) (.ask (decide (0≤v.2∧v.2<v.1.length)) (.opt (v.1[(v.2).toNat]?) fun e28=>(.ask (decide (e28.length=3)) (.opt (zX e28 2) fun y29=>(.ask ((!(r21.1.toList==y29.toList))) (.done (.inr (.inl (false)))) (.ask ((decide (v.2>(0:Int)))) (.ask (decide (0≤(IntKind.i64.wrap (v.2-(1:Int)))∧(IntKind.i64.wrap (v.2-(1:Int)))<v.1.length)) (.opt (v.1[((IntKind.i64.wrap (v.2-(1:Int)))).toNat]?) fun e30=>(.ask (decide (e30.length=3)) (.opt (zD .i64 e30 0) fun y31=>(.opt (zD .i64 e30 1) fun y32=>(.ask (decide (0≤v.2∧v.2<v.1.length)) (.opt (v.1[(v.2).toNat]?) fun e33=>(.ask (decide (e33.length=3)) (.opt (zD .i64 e33 0) fun y34=>(.opt (zD .i64 e33 1) fun y35=>(.opt (qC8 n y31 y32 y34 y35) fun r36=>(.ask ((!r36)) (.done (.inr (.inl (false)))) (.done (.inl (v.1,(IntKind.i64.wrap (v.2+(1:Int)))))))))) .fail)) .fail))) .fail)) .fail) (.done (.inl (v.1,(IntKind.i64.wrap (v.2+(1:Int))))))))) .fail)) .fail))) .fail)) .fail)))))) .fail)) .fail))) .fail)) .fail) (.done (.inr (.inr (())))))
def qIY (n:Nat) (x0:RW):Tr (Bool):=(.ask ((decide ((x0.length:Int)>(120:Int)))) (.done false) (.opt (zC (qD4 n) n (x0,(0:Int))) fun r37=>(.alt r37 (fun r38=>(.done r38)) (fun r39=>(.done true)))))
def qFd:Nat→RW→Option (Bool)
 |0,_=>none
 |n+1,x0=>(qIY n x0).run
abbrev qIZ (n:Nat):List (Ent (Rn n)):= [en (qMW n),en (qDY n),en (qMX n)]
def qKn (n:Nat):LEnt (KB 44) (Rn n) n:=lok (zR 44) 29 ⟨⟨[(0,aL),(3,aI)],[],[]⟩,[(.ret,⟨[(2,aB)],[],[]⟩),(.exit 0,⟨[],[],[]⟩)]⟩ (qD4 n) (qIZ n) [] fun _=>(by kernel_rfl)
theorem qMY:∀n,Ok (Rn n) qNP (qFd n)
 |0=>ok0 fun _=>rfl
 |n+1=>stO (T:=qIY n) (by kernel_rfl) (qIZ n) [qKn n] (fun _=>(by kernel_rfl)) fun _=>(by kernel_rfl)
def qPY:Sg:=⟨45,[aL,(.agg [qI,qI])],[],⟨aS,[],[]⟩⟩
def qFe (n:Nat) (v:RW×Int×Int×Int):Tr ((RW×Int×Int×Int)⊕((BA)⊕(Unit))):=(.ask ((decide (v.2.1<(v.1.length:Int)))) (.ask (decide (0≤v.2.1∧v.2.1<v.1.length)) (.opt (v.1[(v.2.1).toNat]?) fun e41=>(.ask (decide (e41.length=3)) (.opt (zD .i64 e41 0) fun y42=>(.opt (zD .i64 e41 1) fun y43=>(.ask (((y42==v.2.2.1)&&((y43==v.2.2.2)&&true))) (.ask (decide (0≤v.2.1∧v.2.1<v.1.length)) (.opt (v.1[(v.2.1).toNat]?) fun e44=>(.ask (decide (e44.length=3)) (.opt (zX e44 2) fun y45=>(.done (.inr (.inl (y45))))) .fail)) .fail) (.done (.inl (v.1,(IntKind.i64.wrap (v.2.1+(1:Int))),v.2.2.1,v.2.2.2)))))) .fail)) .fail) (.done (.inr (.inr (())))))
def qL7 (n:Nat) (x0:RW) (x1 x2:Int):Tr (BA):=(.opt (zC (qFe n) n (x0,(0:Int),x1,x2)) fun r46=>(.alt r46 (fun r47=>(.done r47)) (fun r48=>(.done (⟨#[]⟩:BA)))))
def qIa:Nat→RW→Int→Int→Option (BA)
 |0,_,_,_=>none
 |n+1,x0,x1,x2=>(qL7 n x0 x1 x2).run
def qNQ (n:Nat):LEnt (KB 45) (Rn n) n:=lok (zR 45) 13 ⟨⟨[(0,aL),(3,(.c (.ptr 0 192 0 0 0))),(5,aI)],[(192,⟨0,2,29,(.box [qI,qI])⟩)],[]⟩,[(.ret,⟨[(4,aS)],[],[]⟩),(.exit 0,⟨[],[],[]⟩)]⟩ (qFe n) [] [] fun _=>(by kernel_rfl)
theorem qO2:∀n,Ok (Rn n) qPY (qIa n)
 |0=>ok0 fun _=>rfl
 |n+1=>stO (T:=qL7 n) (by kernel_rfl) [] [qNQ n] (fun _=>(by kernel_rfl)) fun _=>(by kernel_rfl)
def qMZ:Sg:=⟨12,[aL,(.agg [qI,qI])],[],⟨aS,[],[]⟩⟩
def qEv (n:Nat) (x0:RW) (x1 x2:Int):Tr (BA):=(.opt (qFd n x0) fun r40=>(.ask ((!r40)) (.done (⟨#[]⟩:BA)) (.opt (qIa n x0 x1 x2) fun r49=>(.done r49))))
def qEw:Nat→RW→Int→Int→Option (BA)
 |0,_,_,_=>none
 |n+1,x0,x1,x2=>(qEv n x0 x1 x2).run
abbrev qMa (n:Nat):List (Ent (Rn n)):= [en (qMY n),en (qO2 n)]
theorem qLW:∀n,Ok (Rn n) qMZ (qEw n)
 |0=>ok0 fun _=>rfl
 |n+1=>stO (T:=qEv n) (by kernel_rfl) (qMa n) [] (fun _=>(by kernel_rfl)) fun _=>(by kernel_rfl)
def qOH:Sg:=⟨67,[aI,aI,aI],[],⟨aB,[],[]⟩⟩
def qGj (n:Nat) (x0 x1 x2:Int):Tr (Bool):=(.ask ((decide (x0≥x1))) (.done (decide (x0≤x2))) (.done false))
def qAb:Nat→Int→Int→Int→Option (Bool)
 |0,_,_,_=>none
 |n+1,x0,x1,x2=>(qGj n x0 x1 x2).run
theorem qC9:∀n,Ok (Rn n) qOH (qAb n)
 |0=>ok0 fun _=>rfl
 |n+1=>stO (T:=qGj n) (by kernel_rfl) [] [] (fun _=>(by kernel_rfl)) fun _=>(by kernel_rfl)
def qO3:Sg:=⟨89,[(.agg [qI,qI])],[],⟨aB,[],[]⟩⟩
def qHN (n:Nat) (x0 x1:Int):Tr (Bool):=(.opt (qAb n x0 (1:Int) (52:Int)) fun r57=>(.ask (r57) (.opt (qAb n x1 (1:Int) (99:Int)) fun r58=>(.done r58)) (.done false)))
def qBf:Nat→Int→Int→Option (Bool)
 |0,_,_=>none
 |n+1,x0,x1=>(qHN n x0 x1).run
abbrev qO4 (n:Nat):List (Ent (Rn n)):= [en (qC9 n)]
theorem qEc:∀n,Ok (Rn n) qO3 (qBf n)
 |0=>ok0 fun _=>rfl
 |n+1=>stO (T:=qHN n) (by kernel_rfl) (qO4 n) [] (fun _=>(by kernel_rfl)) fun _=>(by kernel_rfl)
def qKo:Sg:=⟨166,[aI],[],⟨aB,[],[]⟩⟩
def qD5 (n:Nat) (x0:Int):Tr (Bool):=(.done (x0 !=x0))
def qCI:Nat→Int→Option (Bool)
 |0,_=>none
 |n+1,x0=>(qD5 n x0).run
theorem qJ9:∀n,Ok (Rn n) qKo (qCI n)
 |0=>ok0 fun _=>rfl
 |n+1=>stO (T:=qD5 n) (by kernel_rfl) [] [] (fun _=>(by kernel_rfl)) fun _=>(by kernel_rfl)
def qJT:Sg:=⟨132,[aI,aI],[],⟨aI,[],[]⟩⟩
def qDS (n:Nat) (x0 x1:Int):Tr (Int):=(.opt (qCI n x0) fun r63=>(.opt (qCI n x1) fun r64=>(.ask (r63) (.ask (r64) (.done (0:Int)) (.done (-1:Int))) (.ask (r64) (.done (1:Int)) (.ask ((decide (x0<x1))) (.done (-1:Int)) (.ask ((decide (x0>x1))) (.done (1:Int)) (.done (0:Int))))))))
def qBo:Nat→Int→Int→Option (Int)
 |0,_,_=>none
 |n+1,x0,x1=>(qDS n x0 x1).run
abbrev qJU (n:Nat):List (Ent (Rn n)):= [en (qJ9 n)]
theorem qIb:∀n,Ok (Rn n) qJT (qBo n)
 |0=>ok0 fun _=>rfl
 |n+1=>stO (T:=qDS n) (by kernel_rfl) (qJU n) [] (fun _=>(by kernel_rfl)) fun _=>(by kernel_rfl)
def qO5:Sg:=⟨131,[aL],[],⟨aI,[],[]⟩⟩
def qCD (n:Nat) (v:Int×RW×Int×Int):Tr ((Int×RW×Int×Int)⊕((Int)⊕(Int))):=(.ask ((decide (v.2.2.2<v.2.2.1))) (.ask (decide (0≤v.2.2.2∧v.2.2.2<v.2.1.length)) (.opt (v.2.1[(v.2.2.2).toNat]?) fun e67=>(.ask (decide (e67.length=1)) (.opt (zD .i64 e67 0) fun y68=>(.ask ((y68 !=v.1)) (.done (.inr (.inl (y68)))) (.done (.inl (v.1,v.2.1,v.2.2.1,(IntKind.i64.wrap (v.2.2.2+(1:Int)))))))) .fail)) .fail) (.done (.inr (.inr (v.1)))))
def qHO (n:Nat) (x0:RW):Tr (Int):=(.opt (zC (qCD n) n ((0:Int),x0,(x0.length:Int),(0:Int))) fun r69=>(.alt r69 (fun r70=>(.done r70)) (fun r71=>(.done r71))))
def qFI:Nat→RW→Option (Int)
 |0,_=>none
 |n+1,x0=>(qHO n x0).run
def qMb (n:Nat):LEnt (KB 131) (Rn n) n:=lok (zR 131) 29 ⟨⟨[(3,aI),(6,aL),(7,aI),(8,aI)],[],[]⟩,[(.ret,⟨[(2,aI)],[],[]⟩),(.exit 0,⟨[(3,aI)],[],[]⟩)]⟩ (qCD n) [] [] fun _=>(by kernel_rfl)
theorem qOI:∀n,Ok (Rn n) qO5 (qFI n)
 |0=>ok0 fun _=>rfl
 |n+1=>stO (T:=qHO n) (by kernel_rfl) [] [qMb n] (fun _=>(by kernel_rfl)) fun _=>(by kernel_rfl)
def qKA:Sg:=⟨90,[(.agg [qI,qI]),(.agg [qI,qI])],[],⟨aI,[],[]⟩⟩
def qDi (n:Nat) (x0 x1 x2 x3:Int):Tr (Int):=(.opt (qBo n x1 x3) fun r65=>(.opt (qBo n x0 x2) fun r66=>(.ask (decide (2=([[(.i .i64 r65)],[(.i .i64 r66)]]:RW).length)) (.opt (qFI n ([[(.i .i64 r65)],[(.i .i64 r66)]]:RW)) fun r72=>(.ask (zAT (⟨(.c (.p (.i .i64 r72))),[],[]⟩:Res)) (.done r72) .fail)) .fail)))
def qBX:Nat→Int→Int→Int→Int→Option (Int)
 |0,_,_,_,_=>none
 |n+1,x0,x1,x2,x3=>(qDi n x0 x1 x2 x3).run
abbrev qKB (n:Nat):List (Ent (Rn n)):= [en (qIb n),en (qOI n)]
theorem qJV:∀n,Ok (Rn n) qKA (qBX n)
 |0=>ok0 fun _=>rfl
 |n+1=>stO (T:=qDi n) (by kernel_rfl) (qKB n) [] (fun _=>(by kernel_rfl)) fun _=>(by kernel_rfl)
def qOJ:Sg:=⟨158,[aS,aI],[],⟨aB,[],[]⟩⟩
def qBY (n:Nat) (v:BA×Int×Int×Int):Tr ((BA×Int×Int×Int)⊕((Bool)⊕(BA×Int))):=(.ask ((decide (v.2.2.2<v.2.2.1))) (.ask (decide (0≤v.2.2.2)) (.opt (v.1.toList[(v.2.2.2).toNat]?) fun c74=>(.ask ((decide ((c74.toNat:Int)<(32:Int)))) (.done (.inr (.inl (false)))) (.ask (decide (0≤v.2.2.2)) (.opt (v.1.toList[(v.2.2.2).toNat]?) fun c75=>(.ask ((decide ((c75.toNat:Int)>(126:Int)))) (.done (.inr (.inl (false)))) (.done (.inl (v.1,v.2.1,v.2.2.1,(IntKind.i64.wrap (v.2.2.2+(1:Int)))))))) .fail))) .fail) (.done (.inr (.inr ((v.1,v.2.1))))))
def qGk (n:Nat) (x0:BA) (x1:Int):Tr (Bool):=(.opt (zC (qBY n) n (x0,x1,(x0.size:Int),(0:Int))) fun r76=>(.alt r76 (fun r77=>(.done r77)) (fun r78=>(.done (decide ((r78.1.size:Int)≤r78.2))))))
def qCV:Nat→BA→Int→Option (Bool)
 |0,_,_=>none
 |n+1,x0,x1=>(qGk n x0 x1).run
def qLX (n:Nat):LEnt (KB 158) (Rn n) n:=lok (zR 158) 13 ⟨⟨[(0,aS),(1,aI),(7,aI),(8,aI)],[],[]⟩,[(.ret,⟨[(4,aB)],[],[]⟩),(.exit 0,⟨[(0,aS),(1,aI)],[],[]⟩)]⟩ (qBY n) [] [] fun _=>(by kernel_rfl)
theorem qFf:∀n,Ok (Rn n) qOJ (qCV n)
 |0=>ok0 fun _=>rfl
 |n+1=>stO (T:=qGk n) (by kernel_rfl) [] [qLX n] (fun _=>(by kernel_rfl)) fun _=>(by kernel_rfl)
def qE7:Sg:=⟨118,[aS,aS],[],⟨(.tup [(false,[qS]),(false,[qB])]),[],[]⟩⟩
def qAA:Nat→BA→BA→Option ((BA×Bool))
 |0,_,_=>none
 |n+1,x0,x1=>zU x0 x1
theorem qCJ:∀n,Ok (Rn n) qE7 (qAA n)
 |0=>ok0 fun _=>rfl
 |n+1=>stL (by kernel_rfl) (fun a r e=>congrArg (Option.map fun r=>(qE7.Of r).v) e) rfl rfl rfl
def qFg:Sg:=⟨197,[aS,aS],[],⟨aS,[],[]⟩⟩
def qA7:Nat→BA→BA→Option ((BA))
 |0,_,_=>none
 |n+1,x0,x1=>zL x0 x1
theorem qDT:∀n,Ok (Rn n) qFg (qA7 n)
 |0=>ok0 fun _=>rfl
 |n+1=>stL (by kernel_rfl) (fun a r e=>congrArg (Option.map fun r=>(qFg.Of r).v) e) rfl rfl rfl
def qIc:Sg:=⟨160,[(.c (.ptr 0 0 0 0 0))],[[(0,⟨0,3,198,(.box [qS,(.own 0 1 1 0),qB])⟩),(1,⟨1,14,162,(.row [])⟩)]],⟨(.tup []),[[(0,⟨0,3,198,(.box [qS,(.own 0 1 1 0),qB])⟩),(1,⟨1,14,162,(.row [])⟩)]],[]⟩⟩
def qDA (n:Nat) (x0:BA) (x1:Nat) (x2:Bool) (x3:RW):Tr (BA×Nat×Bool×RW):=(.opt (qA7 n x0 (⟨#[32]⟩:BA)) fun r82=>(.done (r82,x1,x2,x3)))
def qAo:Nat→BA→Nat→Bool→RW→Option (BA×Nat×Bool×RW)
 |0,_,_,_,_=>none
 |n+1,x0,x1,x2,x3=>(qDA n x0 x1 x2 x3).run
abbrev qId (n:Nat):List (Ent (Rn n)):= [en (qDT n)]
theorem qB5:∀n,Ok (Rn n) qIc (qAo n)
 |0=>ok0 fun _=>rfl
 |n+1=>stO (T:=qDA n) (by kernel_rfl) (qId n) [] (fun _=>(by kernel_rfl)) fun _=>(by kernel_rfl)
def qD6:Sg:=⟨190,[aS,aS],[],⟨aB,[],[]⟩⟩
def qAm (n:Nat) (x0 x1:BA):Tr (Bool):=(.ask ((decide ((x0.size:Int)≥(x1.size:Int)))) (.ask (decide (0≤(0:Int)∧(0:Int)≤(x1.size:Int)∧(x1.size:Int)≤x0.size)) (.done ((x0.extract ((0:Int)).toNat ((x1.size:Int)).toNat).toList==x1.toList)) .fail) (.done false))
def qy:Nat→BA→BA→Option (Bool)
 |0,_,_=>none
 |n+1,x0,x1=>(qAm n x0 x1).run
theorem qB9:∀n,Ok (Rn n) qD6 (qy n)
 |0=>ok0 fun _=>rfl
 |n+1=>stO (T:=qAm n) (by kernel_rfl) [] [] (fun _=>(by kernel_rfl)) fun _=>(by kernel_rfl)
def qJW:Sg:=⟨204,[aS,aS],[],⟨aB,[],[]⟩⟩
def qBp (n:Nat) (x0 x1:BA):Tr (Bool):=(.opt (qy n x0 x1) fun r86=>(.done r86))
def qj:Nat→BA→BA→Option (Bool)
 |0,_,_=>none
 |n+1,x0,x1=>(qBp n x0 x1).run
abbrev qJX (n:Nat):List (Ent (Rn n)):= [en (qB9 n)]
theorem qCK:∀n,Ok (Rn n) qJW (qj n)
 |0=>ok0 fun _=>rfl
 |n+1=>stO (T:=qBp n) (by kernel_rfl) (qJX n) [] (fun _=>(by kernel_rfl)) fun _=>(by kernel_rfl)
def qKC:Sg:=⟨192,[(.c (.ptr 0 0 0 0 0))],[[(0,⟨0,3,198,(.box [qS,(.own 0 1 1 0),qB])⟩),(1,⟨1,14,162,(.row [])⟩)]],⟨aS,[[(0,⟨0,3,198,(.box [qS,(.own 0 1 1 0),qB])⟩),(1,⟨1,14,162,(.row [])⟩)]],[]⟩⟩
def qB6 (n:Nat) (v:Nat×Int×Int×RW×BA×Nat×Bool×RW):Tr ((Nat×Int×Int×RW×BA×Nat×Bool×RW)⊕((BA×BA×Nat×Bool×RW)⊕(BA×Nat×Bool×RW))):=(.ask ((decide (v.2.2.1<v.2.1))) (.ask (decide (v.1=v.2.2.2.1.length∧0≤v.2.2.1∧v.2.2.1<((v.1:Nat):Int))) (.opt (v.2.2.2.1[(v.2.2.1).toNat]?) fun e84=>(.opt (zX e84 0) fun y85=>(.opt (qj n v.2.2.2.2.1 y85) fun r86=>(.ask (r86) (.done (.inr (.inl ((y85,v.2.2.2.2.1,v.2.2.2.2.2.1,v.2.2.2.2.2.2.1,v.2.2.2.2.2.2.2))))) (.done (.inl (v.1,v.2.1,(IntKind.i64.wrap (v.2.2.1+(1:Int))),v.2.2.2.1,v.2.2.2.2.1,v.2.2.2.2.2.1,v.2.2.2.2.2.2.1,v.2.2.2.2.2.2.2))))))) .fail) (.done (.inr (.inr ((v.2.2.2.2.1,v.2.2.2.2.2.1,v.2.2.2.2.2.2.1,v.2.2.2.2.2.2.2))))))
def qFh (n:Nat) (x0:BA) (x1:Nat) (x2:Bool) (x3:RW):Tr (BA×BA×Nat×Bool×RW):=(.opt (qAo n x0 x1 x2 x3) fun r83=>(.opt (zC (qB6 n) n ((15:Nat),(15:Int),(0:Int),([[(.s (⟨#[60,62]⟩:BA))],[(.s (⟨#[60,61]⟩:BA))],[(.s (⟨#[62,61]⟩:BA))],[(.s (⟨#[60]⟩:BA))],[(.s (⟨#[62]⟩:BA))],[(.s (⟨#[61]⟩:BA))],[(.s (⟨#[38]⟩:BA))],[(.s (⟨#[43]⟩:BA))],[(.s (⟨#[45]⟩:BA))],[(.s (⟨#[42]⟩:BA))],[(.s (⟨#[47]⟩:BA))],[(.s (⟨#[40]⟩:BA))],[(.s (⟨#[41]⟩:BA))],[(.s (⟨#[44]⟩:BA))],[(.s (⟨#[58]⟩:BA))]]:RW),r83.1,r83.2.1,r83.2.2.1,r83.2.2.2)) fun r87=>(.alt r87 (fun r88=>(.done (r88.1,r88.2.1,r88.2.2.1,r88.2.2.2.1,r88.2.2.2.2))) (fun r89=>(.done ((⟨#[]⟩:BA),r89.1,r89.2.1,r89.2.2.1,r89.2.2.2))))))
def qBZ:Nat→BA→Nat→Bool→RW→Option (BA×BA×Nat×Bool×RW)
 |0,_,_,_,_=>none
 |n+1,x0,x1,x2,x3=>(qFh n x0 x1 x2 x3).run
abbrev qFi (n:Nat):List (Ent (Rn n)):= [en (qB5 n),en (qCK n)]
def qIB (n:Nat):LEnt (KB 192) (Rn n) n:=lok (zR 192) 29 ⟨⟨[(0,(.c (.ptr 0 0 0 0 0))),(7,(.c (.own 1 448 0 0))),(8,aI),(9,aI)],[(448,⟨0,1,9,(.row [])⟩)],[[(0,⟨0,3,198,(.box [qS,(.own 0 1 1 0),qB])⟩),(1,⟨1,14,162,(.row [])⟩)]]⟩,[(.ret,⟨[(2,aS)],[],[[(0,⟨0,3,198,(.box [qS,(.own 0 1 1 0),qB])⟩),(1,⟨1,14,162,(.row [])⟩)]]⟩),(.exit 0,⟨[],[],[[(0,⟨0,3,198,(.box [qS,(.own 0 1 1 0),qB])⟩),(1,⟨1,14,162,(.row [])⟩)]]⟩)]⟩ (qB6 n) (qFi n) [] fun _=>(by kernel_rfl)
theorem qE8:∀n,Ok (Rn n) qKC (qBZ n)
 |0=>ok0 fun _=>rfl
 |n+1=>stO (T:=qFh n) (by kernel_rfl) (qFi n) [qIB n] (fun _=>(by kernel_rfl)) fun _=>(by kernel_rfl)
def qKD:Sg:=⟨195,[(.c (.ptr 0 0 0 0 0)),aS],[[(0,⟨0,3,198,(.box [qS,(.own 0 1 1 0),qB])⟩),(1,⟨1,14,162,(.row [])⟩)]],⟨aB,[[(0,⟨0,3,198,(.box [qS,(.own 0 1 1 0),qB])⟩),(1,⟨1,14,162,(.row [])⟩)]],[]⟩⟩
def qFj (n:Nat) (x0 x1:BA) (x2:Nat) (x3:Bool) (x4:RW):Tr (Bool×BA×Nat×Bool×RW):=(.opt (qBZ n x1 x2 x3 x4) fun r90=>(.ask ((!(r90.1.toList==x0.toList))) (.done (false,r90.2.1,r90.2.2.1,r90.2.2.2.1,r90.2.2.2.2)) (.ask (decide (0≤(x0.size:Int)∧(x0.size:Int)≤(r90.2.1.size:Int)∧(r90.2.1.size:Int)≤r90.2.1.size)) (.done (true,(r90.2.1.extract ((x0.size:Int)).toNat ((r90.2.1.size:Int)).toNat),r90.2.2.1,r90.2.2.2.1,r90.2.2.2.2)) .fail)))
def ql:Nat→BA→BA→Nat→Bool→RW→Option (Bool×BA×Nat×Bool×RW)
 |0,_,_,_,_,_=>none
 |n+1,x0,x1,x2,x3,x4=>(qFj n x0 x1 x2 x3 x4).run
abbrev qKE (n:Nat):List (Ent (Rn n)):= [en (qE8 n)]
theorem qBq:∀n,Ok (Rn n) qKD (ql n)
 |0=>ok0 fun _=>rfl
 |n+1=>stO (T:=qFj n) (by kernel_rfl) (qKE n) [] (fun _=>(by kernel_rfl)) fun _=>(by kernel_rfl)
def qKp:Sg:=⟨196,[(.c (.ptr 0 0 0 0 0)),(.agg [qI,qI,qI,qI,qS,qI,qI,qB,qB,qI,qI,qB,qB,qL])],[[(0,⟨0,3,198,(.box [qS,(.own 0 1 1 0),qB])⟩),(1,⟨1,14,162,(.row [])⟩)]],⟨aI,[[(0,⟨0,3,198,(.box [qS,(.own 0 1 1 0),qB])⟩),(1,⟨1,14,162,(.row [])⟩)]],[]⟩⟩
def qGI (n:Nat) (x0 x1 x2 x3:Int) (x4:BA) (x5 x6:Int) (x7 x8:Bool) (x9 x10:Int) (x11 x12:Bool) (x13:RW) (x14:BA) (x15:Nat) (x16:Bool) (x17:RW):Tr (Int×BA×Nat×Bool×RW):=(.ask (x16) (.ask (false) (.ask (decide (1=([[(.i .i64 x0),(.i .i64 x1),(.i .i64 x2),(.i .i64 x3),(.s x4),(.i .i64 x5),(.i .i64 x6),(.b x7),(.b x8),(.i .i64 x9),(.i .i64 x10),(.b x11),(.b x12),(.ls x13)]]:RW).length)) (.ask (decide (x15=x17.length∧0<14∧0<120∧(x15+([[(.i .i64 x0),(.i .i64 x1),(.i .i64 x2),(.i .i64 x3),(.s x4),(.i .i64 x5),(.i .i64 x6),(.b x7),(.b x8),(.i .i64 x9),(.i .i64 x10),(.b x11),(.b x12),(.ls x13)]]:RW).length)*120≤140737488355328∧([[(.i .i64 x0),(.i .i64 x1),(.i .i64 x2),(.i .i64 x3),(.s x4),(.i .i64 x5),(.i .i64 x6),(.b x7),(.b x8),(.i .i64 x9),(.i .i64 x10),(.b x11),(.b x12),(.ls x13)]]:RW).all (fun e=>e.length==14)=true)) (.done ((IntKind.i64.wrap ((((x15+1):Nat):Int)-(1:Int))),x14,(x15+1),true,(x17++([[(.i .i64 x0),(.i .i64 x1),(.i .i64 x2),(.i .i64 x3),(.s x4),(.i .i64 x5),(.i .i64 x6),(.b x7),(.b x8),(.i .i64 x9),(.i .i64 x10),(.b x11),(.b x12),(.ls x13)]]:RW)))) .fail) .fail) (.done ((IntKind.i64.wrap (((x15:Nat):Int)-(1:Int))),x14,x15,true,x17))) (.ask ((!(decide (((x15:Nat):Int)≥(60:Int))))) (.ask (decide (1=([[(.i .i64 x0),(.i .i64 x1),(.i .i64 x2),(.i .i64 x3),(.s x4),(.i .i64 x5),(.i .i64 x6),(.b x7),(.b x8),(.i .i64 x9),(.i .i64 x10),(.b x11),(.b x12),(.ls x13)]]:RW).length)) (.ask (decide (x15=x17.length∧0<14∧0<120∧(x15+([[(.i .i64 x0),(.i .i64 x1),(.i .i64 x2),(.i .i64 x3),(.s x4),(.i .i64 x5),(.i .i64 x6),(.b x7),(.b x8),(.i .i64 x9),(.i .i64 x10),(.b x11),(.b x12),(.ls x13)]]:RW).length)*120≤140737488355328∧([[(.i .i64 x0),(.i .i64 x1),(.i .i64 x2),(.i .i64 x3),(.s x4),(.i .i64 x5),(.i .i64 x6),(.b x7),(.b x8),(.i .i64 x9),(.i .i64 x10),(.b x11),(.b x12),(.ls x13)]]:RW).all (fun e=>e.length==14)=true)) (.done ((IntKind.i64.wrap ((((x15+1):Nat):Int)-(1:Int))),x14,(x15+1),(decide (((x15:Nat):Int)≥(60:Int))),(x17++([[(.i .i64 x0),(.i .i64 x1),(.i .i64 x2),(.i .i64 x3),(.s x4),(.i .i64 x5),(.i .i64 x6),(.b x7),(.b x8),(.i .i64 x9),(.i .i64 x10),(.b x11),(.b x12),(.ls x13)]]:RW)))) .fail) .fail) (.done ((IntKind.i64.wrap (((x15:Nat):Int)-(1:Int))),x14,x15,(decide (((x15:Nat):Int)≥(60:Int))),x17))))
def qm:Nat→Int→Int→Int→Int→BA→Int→Int→Bool→Bool→Int→Int→Bool→Bool→RW→BA→Nat→Bool→RW→Option (Int×BA×Nat×Bool×RW)
 |0,_,_,_,_,_,_,_,_,_,_,_,_,_,_,_,_,_,_=>none
 |n+1,x0,x1,x2,x3,x4,x5,x6,x7,x8,x9,x10,x11,x12,x13,x14,x15,x16,x17=>(qGI n x0 x1 x2 x3 x4 x5 x6 x7 x8 x9 x10 x11 x12 x13 x14 x15 x16 x17).run
theorem qB2:∀n,Ok (Rn n) qKp (qm n)
 |0=>ok0 fun _=>rfl
 |n+1=>stO (T:=qGI n) (by kernel_rfl) [] [] (fun _=>(by kernel_rfl)) fun _=>(by kernel_rfl)
def qJq:Sg:=⟨261,[aS,aS],[],⟨(.tup [(false,[qS]),(false,[qS]),(false,[qB])]),[],[]⟩⟩
def qGl:Nat→BA→BA→Option ((BA×BA×Bool))
 |0,_,_=>none
 |n+1,x0,x1=>zAK x0 x1
theorem qNR:∀n,Ok (Rn n) qJq (qGl n)
 |0=>ok0 fun _=>rfl
 |n+1=>stL (by kernel_rfl) (fun a r e=>congrArg (Option.map fun r=>(qJq.Of r).v) e) rfl rfl rfl
def qHP:Sg:=⟨244,[(.c (.ptr 0 0 0 0 0)),(.agg [qI,qI,qS])],[[(0,⟨0,3,198,(.box [qS,(.own 0 1 1 0),qB])⟩),(1,⟨1,14,162,(.row [])⟩)]],⟨aI,[[(0,⟨0,3,198,(.box [qS,(.own 0 1 1 0),qB])⟩),(1,⟨1,14,162,(.row [])⟩)]],[]⟩⟩
def qD7 (n:Nat) (x0 x1:Int) (x2 x3:BA) (x4:Nat) (x5:Bool) (x6:RW):Tr (Int×BA×Nat×Bool×RW):=(.opt (qm n (1:Int) (0:Int) x0 x1 x2 (0:Int) (0:Int) false false (0:Int) (0:Int) false false ([]:RW) x3 x4 x5 x6) fun r101=>(.done (r101.1,r101.2.1,r101.2.2.1,r101.2.2.2.1,r101.2.2.2.2)))
def qh:Nat→Int→Int→BA→BA→Nat→Bool→RW→Option (Int×BA×Nat×Bool×RW)
 |0,_,_,_,_,_,_,_=>none
 |n+1,x0,x1,x2,x3,x4,x5,x6=>(qD7 n x0 x1 x2 x3 x4 x5 x6).run
abbrev qHQ (n:Nat):List (Ent (Rn n)):= [en (qB2 n)]
theorem qDr:∀n,Ok (Rn n) qHP (qh n)
 |0=>ok0 fun _=>rfl
 |n+1=>stO (T:=qD7 n) (by kernel_rfl) (qHQ n) [] (fun _=>(by kernel_rfl)) fun _=>(by kernel_rfl)
def qIe:Sg:=⟨243,[(.c (.ptr 0 0 0 0 0))],[[(0,⟨0,3,198,(.box [qS,(.own 0 1 1 0),qB])⟩),(1,⟨1,14,162,(.row [])⟩)]],⟨aI,[[(0,⟨0,3,198,(.box [qS,(.own 0 1 1 0),qB])⟩),(1,⟨1,14,162,(.row [])⟩)]],[]⟩⟩
def qCl (n:Nat) (v:BA×BA×BA×Nat×Bool×RW):Tr ((BA×BA×BA×Nat×Bool×RW)⊕((Int×BA×Nat×Bool×RW)⊕(BA×BA×BA×Nat×Bool×RW))):=(.opt (qGl n v.2.1 (⟨#[34]⟩:BA)) fun r96=>(.ask ((!r96.2.2)) (.done (.inr (.inl (((-1:Int),v.2.2.1,v.2.2.2.1,true,v.2.2.2.2.2))))) (.ask (decide (v.1.size+r96.1.size≤9223372036854775807)) (.opt (qj n r96.2.1 (⟨#[34]⟩:BA)) fun r97=>(.ask ((!r97)) (.done (.inr (.inr (((v.1++r96.1),r96.2.1,v.2.2.1,v.2.2.2.1,v.2.2.2.2.1,v.2.2.2.2.2))))) (.ask (decide ((v.1++r96.1).size+(⟨#[34]⟩:BA).size≤9223372036854775807)) (.ask (decide (0≤(1:Int)∧(1:Int)≤(r96.2.1.size:Int)∧(r96.2.1.size:Int)≤r96.2.1.size)) (.done (.inl (((v.1++r96.1)++(⟨#[34]⟩:BA)),(r96.2.1.extract ((1:Int)).toNat ((r96.2.1.size:Int)).toNat),v.2.2.1,v.2.2.2.1,v.2.2.2.2.1,v.2.2.2.2.2))) .fail) .fail))) .fail)))
def qEf (n:Nat) (x0:BA) (x1:Nat) (x2:Bool) (x3:RW):Tr (Int×BA×Nat×Bool×RW):=(.ask (decide (0≤(1:Int)∧(1:Int)≤(x0.size:Int)∧(x0.size:Int)≤x0.size)) (.opt (zC (qCl n) n ((⟨#[]⟩:BA),(x0.extract ((1:Int)).toNat ((x0.size:Int)).toNat),x0,x1,x2,x3)) fun r98=>(.alt r98 (fun r99=>(.done (r99.1,r99.2.1,r99.2.2.1,r99.2.2.2.1,r99.2.2.2.2))) (fun r100=>(.opt (qh n (2:Int) (0:Int) r100.1 r100.2.1 r100.2.2.2.1 r100.2.2.2.2.1 r100.2.2.2.2.2) fun r102=>(.done (r102.1,r102.2.1,r102.2.2.1,r102.2.2.2.1,r102.2.2.2.2)))))) .fail)
def qDB:Nat→BA→Nat→Bool→RW→Option (Int×BA×Nat×Bool×RW)
 |0,_,_,_,_=>none
 |n+1,x0,x1,x2,x3=>(qEf n x0 x1 x2 x3).run
abbrev qEg (n:Nat):List (Ent (Rn n)):= [en (qNR n),en (qCK n),en (qDr n)]
def qG6 (n:Nat):LEnt (KB 243) (Rn n) n:=lok (zR 243) 14 ⟨⟨[(0,(.c (.ptr 0 0 0 0 0))),(3,aS),(4,aS)],[],[[(0,⟨0,3,198,(.box [qS,(.own 0 1 1 0),qB])⟩),(1,⟨1,14,162,(.row [])⟩)]]⟩,[(.ret,⟨[(2,aI)],[],[[(0,⟨0,3,198,(.box [qS,(.own 0 1 1 0),qB])⟩),(1,⟨1,14,162,(.row [])⟩)]]⟩),(.exit 0,⟨[(0,(.c (.ptr 0 0 0 0 0))),(3,aS),(4,aS)],[],[[(0,⟨0,3,198,(.box [qS,(.own 0 1 1 0),qB])⟩),(1,⟨1,14,162,(.row [])⟩)]]⟩)]⟩ (qCl n) (qEg n) [] fun _=>(by kernel_rfl)
theorem qIC:∀n,Ok (Rn n) qIe (qDB n)
 |0=>ok0 fun _=>rfl
 |n+1=>stO (T:=qEf n) (by kernel_rfl) (qEg n) [qG6 n] (fun _=>(by kernel_rfl)) fun _=>(by kernel_rfl)
def qLY:Sg:=⟨205,[aI],[],⟨aS,[],[]⟩⟩
def qER (n:Nat) (x0:Int):Tr (BA):=(.ask (decide (6=([[(.s (⟨#[]⟩:BA))],[(.s (⟨#[35,68,73,86,33]⟩:BA))],[(.s (⟨#[35,84,89,80,69,33]⟩:BA))],[(.s (⟨#[35,82,69,70,33]⟩:BA))],[(.s (⟨#[35,79,86,69,82,33]⟩:BA))],[(.s (⟨#[35,67,89,67,76,69,33]⟩:BA))]]:RW).length∧0≤x0∧x0<((6:Nat):Int))) (.opt (([[(.s (⟨#[]⟩:BA))],[(.s (⟨#[35,68,73,86,33]⟩:BA))],[(.s (⟨#[35,84,89,80,69,33]⟩:BA))],[(.s (⟨#[35,82,69,70,33]⟩:BA))],[(.s (⟨#[35,79,86,69,82,33]⟩:BA))],[(.s (⟨#[35,67,89,67,76,69,33]⟩:BA))]]:RW)[(x0).toNat]?) fun e105=>(.opt (zX e105 0) fun y106=>(.done y106))) .fail)
def qAZ:Nat→Int→Option (BA)
 |0,_=>none
 |n+1,x0=>(qER n x0).run
theorem qD8:∀n,Ok (Rn n) qLY (qAZ n)
 |0=>ok0 fun _=>rfl
 |n+1=>stO (T:=qER n) (by kernel_rfl) [] [] (fun _=>(by kernel_rfl)) fun _=>(by kernel_rfl)
def qO6:Sg:=⟨206,[aI],[],⟨(.agg [qI,qI,qS]),[],[]⟩⟩
def qHR (n:Nat) (x0:Int):Tr (Int×Int×BA):=(.done ((4:Int),x0,(⟨#[]⟩:BA)))
def qBg:Nat→Int→Option (Int×Int×BA)
 |0,_=>none
 |n+1,x0=>(qHR n x0).run
theorem qJr:∀n,Ok (Rn n) qO6 (qBg n)
 |0=>ok0 fun _=>rfl
 |n+1=>stO (T:=qHR n) (by kernel_rfl) [] [] (fun _=>(by kernel_rfl)) fun _=>(by kernel_rfl)
def qKF:Sg:=⟨245,[(.c (.ptr 0 0 0 0 0))],[[(0,⟨0,3,198,(.box [qS,(.own 0 1 1 0),qB])⟩),(1,⟨1,14,162,(.row [])⟩)]],⟨aS,[[(0,⟨0,3,198,(.box [qS,(.own 0 1 1 0),qB])⟩),(1,⟨1,14,162,(.row [])⟩)]],[]⟩⟩
def qFk (n:Nat) (x0:BA) (x1:Nat) (x2:Bool) (x3:RW):Tr (BA×BA×Nat×Bool×RW):=(.opt (qAo n x0 x1 x2 x3) fun r112=>(.opt (qA7 n r112.1 (⟨#[65,66,67,68,69,70,71,72,73,74,75,76,77,78,79,80,81,82,83,84,85,86,87,88,89,90,48,49,50,51,52,53,54,55,56,57,36]⟩:BA)) fun r113=>(.ask (decide (0≤(0:Int)∧(0:Int)≤(IntKind.i64.wrap ((r112.1.size:Int)-(r113.size:Int)))∧(IntKind.i64.wrap ((r112.1.size:Int)-(r113.size:Int)))≤r112.1.size)) (.ask (decide (0≤(IntKind.i64.wrap ((r112.1.size:Int)-(r113.size:Int)))∧(IntKind.i64.wrap ((r112.1.size:Int)-(r113.size:Int)))≤(r112.1.size:Int)∧(r112.1.size:Int)≤r112.1.size)) (.done ((r112.1.extract ((0:Int)).toNat ((IntKind.i64.wrap ((r112.1.size:Int)-(r113.size:Int)))).toNat),(r112.1.extract ((IntKind.i64.wrap ((r112.1.size:Int)-(r113.size:Int)))).toNat ((r112.1.size:Int)).toNat),r112.2.1,r112.2.2.1,r112.2.2.2)) .fail) .fail)))
def qA8:Nat→BA→Nat→Bool→RW→Option (BA×BA×Nat×Bool×RW)
 |0,_,_,_,_=>none
 |n+1,x0,x1,x2,x3=>(qFk n x0 x1 x2 x3).run
abbrev qKG (n:Nat):List (Ent (Rn n)):= [en (qB5 n),en (qDT n)]
theorem qE9:∀n,Ok (Rn n) qKF (qA8 n)
 |0=>ok0 fun _=>rfl
 |n+1=>stO (T:=qFk n) (by kernel_rfl) (qKG n) [] (fun _=>(by kernel_rfl)) fun _=>(by kernel_rfl)
def qNS:Sg:=⟨170,[(.agg [qI,qI,qS])],[],⟨aB,[],[]⟩⟩
def qFl (n:Nat) (x0 x1:Int) (x2:BA):Tr (Bool):=(.ask ((x0==(2:Int))) (.ask ((x1==(0:Int))) (.opt (qCV n x2 (200:Int)) fun r116=>(.done r116)) (.done false)) (.ask ((!(x2.toList==(⟨#[]⟩:BA).toList))) (.done false) (.ask ((x0==(0:Int))) (.done (x1==(0:Int))) (.ask ((x0==(1:Int))) (.opt (qAb n x1 (-1000000000000000:Int) (1000000000000000:Int)) fun r117=>(.done r117)) (.ask ((x0==(3:Int))) (.opt (qAb n x1 (0:Int) (1:Int)) fun r118=>(.done r118)) (.ask ((x0==(4:Int))) (.opt (qAb n x1 (1:Int) (5:Int)) fun r119=>(.done r119)) (.done false)))))))
def qAK:Nat→Int→Int→BA→Option (Bool)
 |0,_,_,_=>none
 |n+1,x0,x1,x2=>(qFl n x0 x1 x2).run
abbrev qNT (n:Nat):List (Ent (Rn n)):= [en (qFf n),en (qC9 n)]
theorem qEx:∀n,Ok (Rn n) qNS (qAK n)
 |0=>ok0 fun _=>rfl
 |n+1=>stO (T:=qFl n) (by kernel_rfl) (qNT n) [] (fun _=>(by kernel_rfl)) fun _=>(by kernel_rfl)
def qFA:Sg:=⟨144,[aI,aI],[],⟨aS,[],[]⟩⟩
def qDU:Nat→Int→Int→Option ((BA))
 |0,_,_=>none
 |n+1,x0,x1=>za x0 x1
theorem qIf:∀n,Ok (Rn n) qFA (qDU n)
 |0=>ok0 fun _=>rfl
 |n+1=>stL (by kernel_rfl) (fun a r e=>congrArg (Option.map fun r=>(qFA.Of r).v) e) rfl rfl rfl
def qNU:Sg:=⟨103,[aI],[],⟨aS,[],[]⟩⟩
def qFm (n:Nat) (x0:Int):Tr (BA):=(.opt (qDU n x0 (10:Int)) fun r121=>(.done r121))
def qA2:Nat→Int→Option (BA)
 |0,_=>none
 |n+1,x0=>(qFm n x0).run
abbrev qNV (n:Nat):List (Ent (Rn n)):= [en (qIf n)]
theorem qEy:∀n,Ok (Rn n) qNU (qA2 n)
 |0=>ok0 fun _=>rfl
 |n+1=>stO (T:=qFm n) (by kernel_rfl) (qNV n) [] (fun _=>(by kernel_rfl)) fun _=>(by kernel_rfl)
def qLZ:Sg:=⟨207,[(.agg [qI,qI,qS])],[],⟨aS,[],[]⟩⟩
def qBa (n:Nat) (x0 x1:Int) (x2:BA):Tr (BA):=(.ask ((x0==(1:Int))) (.opt (qA2 n x1) fun r122=>(.done r122)) (.ask ((x0==(2:Int))) (.ask (decide ((⟨#[39]⟩:BA).size+x2.size≤9223372036854775807)) (.done ((⟨#[39]⟩:BA)++x2)) .fail) (.ask ((x0==(3:Int))) (.ask (decide (2=([[(.s (⟨#[70,65,76,83,69]⟩:BA))],[(.s (⟨#[84,82,85,69]⟩:BA))]]:RW).length∧0≤x1∧x1<((2:Nat):Int))) (.opt (([[(.s (⟨#[70,65,76,83,69]⟩:BA))],[(.s (⟨#[84,82,85,69]⟩:BA))]]:RW)[(x1).toNat]?) fun e123=>(.opt (zX e123 0) fun y124=>(.done y124))) .fail) (.ask ((x0==(4:Int))) (.opt (qAZ n x1) fun r125=>(.done r125)) (.done (⟨#[]⟩:BA))))))
def qn:Nat→Int→Int→BA→Option (BA)
 |0,_,_,_=>none
 |n+1,x0,x1,x2=>(qBa n x0 x1 x2).run
abbrev qLa (n:Nat):List (Ent (Rn n)):= [en (qEy n),en (qD8 n)]
theorem qGJ:∀n,Ok (Rn n) qLZ (qn n)
 |0=>ok0 fun _=>rfl
 |n+1=>stO (T:=qBa n) (by kernel_rfl) (qLa n) [] (fun _=>(by kernel_rfl)) fun _=>(by kernel_rfl)
def qO7:Sg:=⟨203,[aB],[],⟨(.agg [qI,qI,qS]),[],[]⟩⟩
def qHS (n:Nat) (x0:Bool):Tr (Int×Int×BA):=(.ask (x0) (.done ((3:Int),(1:Int),(⟨#[]⟩:BA))) (.done ((3:Int),(0:Int),(⟨#[]⟩:BA))))
def qD9:Nat→Bool→Option (Int×Int×BA)
 |0,_=>none
 |n+1,x0=>(qHS n x0).run
theorem qOK:∀n,Ok (Rn n) qO7 (qD9 n)
 |0=>ok0 fun _=>rfl
 |n+1=>stO (T:=qHS n) (by kernel_rfl) [] [] (fun _=>(by kernel_rfl)) fun _=>(by kernel_rfl)
def qKH:Sg2:=⟨168,[aS,aI,aI],(.tup [(false,[qI]),(false,[(.p .nif)])]),(.tup [(false,[qI]),(false,[(.p .ifc)])])⟩
def qAp:Nat→BA→Int→Int→Option ((Int)⊕(Int))
 |0,_,_,_=>none
 |n+1,x0,x1,x2=>zK x0 x1 x2
theorem qDV:∀n,Ok2 (Rn n) qKH (qAp n)
 |0=>fun a r e=>by cases e
 |n+1=>zJv (by kernel_rfl) fun a r e=>by
  rcases r with r|r
  ·exact congrArg (Option.map z8) e
  ·exact congrArg (Option.map z8) e
def qOL:Sg:=⟨171,[aI],[],⟨(.agg [qI,qI,qS]),[],[]⟩⟩
def qGm (n:Nat) (x0:Int):Tr (Int×Int×BA):=(.done ((1:Int),x0,(⟨#[]⟩:BA)))
def qCW:Nat→Int→Option (Int×Int×BA)
 |0,_=>none
 |n+1,x0=>(qGm n x0).run
theorem qIg:∀n,Ok (Rn n) qOL (qCW n)
 |0=>ok0 fun _=>rfl
 |n+1=>stO (T:=qGm n) (by kernel_rfl) [] [] (fun _=>(by kernel_rfl)) fun _=>(by kernel_rfl)
def qLb:Sg:=⟨172,[aS],[],⟨(.tup [(true,[qI,qI,qS]),(false,[qB])]),[],[]⟩⟩
def qA1 (n:Nat) (v:BA×Int×Int×Int×BA×Int×Int×BA):Tr ((BA×Int×Int×Int×BA×Int×Int×BA)⊕((BA×Int×Int×BA×Int×Int×BA))):=(.ask ((decide (v.2.1≤(5:Int)))) (.opt (qAZ n v.2.1) fun r134=>(.ask ((r134.toList==v.1.toList)) (.opt (qBg n v.2.1) fun r135=>(.done (.inl (v.1,(IntKind.i64.wrap (v.2.1+(1:Int))),v.2.2.1,v.2.2.2.1,v.2.2.2.2.1,r135.1,r135.2.1,r135.2.2)))) (.done (.inl (v.1,(IntKind.i64.wrap (v.2.1+(1:Int))),v.2.2.1,v.2.2.2.1,v.2.2.2.2.1,v.2.2.2.2.2.1,v.2.2.2.2.2.2.1,v.2.2.2.2.2.2.2))))) (.done (.inr ((v.1,v.2.2.1,v.2.2.2.1,v.2.2.2.2.1,v.2.2.2.2.2.1,v.2.2.2.2.2.2.1,v.2.2.2.2.2.2.2)))))
def qBB (n:Nat) (x0:BA):Tr (Int×Int×BA×Bool):=(.opt (qAA n x0 (⟨#[39]⟩:BA)) fun r115=>(.ask (r115.2) (.opt (qAK n (2:Int) (0:Int) r115.1) fun r120=>(.ask ((!r120)) (.done ((0:Int),(0:Int),(⟨#[]⟩:BA),false)) (.opt (qn n (2:Int) (0:Int) r115.1) fun r126=>(.ask ((!(r126.toList==x0.toList))) (.done ((0:Int),(0:Int),(⟨#[]⟩:BA),false)) (.done ((2:Int),(0:Int),r115.1,true)))))) (.ask ((x0.toList==(⟨#[70,65,76,83,69]⟩:BA).toList)) (.opt (qD9 n (x0.toList==(⟨#[84,82,85,69]⟩:BA).toList)) fun r127=>(.opt (qAK n r127.1 r127.2.1 r127.2.2) fun r128=>(.ask ((!r128)) (.done ((0:Int),(0:Int),(⟨#[]⟩:BA),false)) (.opt (qn n r127.1 r127.2.1 r127.2.2) fun r129=>(.ask ((!(r129.toList==x0.toList))) (.done ((0:Int),(0:Int),(⟨#[]⟩:BA),false)) (.done (r127.1,r127.2.1,r127.2.2,true))))))) (.ask ((x0.toList==(⟨#[84,82,85,69]⟩:BA).toList)) (.opt (qD9 n (x0.toList==(⟨#[84,82,85,69]⟩:BA).toList)) fun r130=>(.opt (qAK n r130.1 r130.2.1 r130.2.2) fun r131=>(.ask ((!r131)) (.done ((0:Int),(0:Int),(⟨#[]⟩:BA),false)) (.opt (qn n r130.1 r130.2.1 r130.2.2) fun r132=>(.ask ((!(r132.toList==x0.toList))) (.done ((0:Int),(0:Int),(⟨#[]⟩:BA),false)) (.done (r130.1,r130.2.1,r130.2.2,true))))))) (.opt (qj n x0 (⟨#[35]⟩:BA)) fun r133=>(.ask (r133) (.opt (zC (qA1 n) n (x0,(1:Int),(0:Int),(0:Int),(⟨#[]⟩:BA),(0:Int),(0:Int),(⟨#[]⟩:BA))) fun r136=>(.opt (qAK n r136.2.2.2.2.1 r136.2.2.2.2.2.1 r136.2.2.2.2.2.2) fun r137=>(.ask ((!r137)) (.done ((0:Int),(0:Int),(⟨#[]⟩:BA),false)) (.opt (qn n r136.2.2.2.2.1 r136.2.2.2.2.2.1 r136.2.2.2.2.2.2) fun r138=>(.ask ((!(r138.toList==r136.1.toList))) (.done ((0:Int),(0:Int),(⟨#[]⟩:BA),false)) (.done (r136.2.2.2.2.1,r136.2.2.2.2.2.1,r136.2.2.2.2.2.2,true))))))) (.ask ((!(x0.toList==(⟨#[]⟩:BA).toList))) (.opt (qAp n x0 (10:Int) (64:Int)) fun r139=>(.alt r139 (fun r140=>(.opt (qCW n r140) fun r142=>(.opt (qAK n r142.1 r142.2.1 r142.2.2) fun r143=>(.ask ((!r143)) (.done ((0:Int),(0:Int),(⟨#[]⟩:BA),false)) (.opt (qn n r142.1 r142.2.1 r142.2.2) fun r144=>(.ask ((!(r144.toList==x0.toList))) (.done ((0:Int),(0:Int),(⟨#[]⟩:BA),false)) (.done (r142.1,r142.2.1,r142.2.2,true)))))))) (fun r141=>(.opt (qCW n r141) fun r145=>(.opt (qAK n r145.1 r145.2.1 r145.2.2) fun r146=>(.ask ((!r146)) (.done ((0:Int),(0:Int),(⟨#[]⟩:BA),false)) (.opt (qn n r145.1 r145.2.1 r145.2.2) fun r147=>(.ask ((!(r147.toList==x0.toList))) (.done ((0:Int),(0:Int),(⟨#[]⟩:BA),false)) (.done (r145.1,r145.2.1,r145.2.2,true)))))))))) (.opt (qAK n (0:Int) (0:Int) (⟨#[]⟩:BA)) fun r148=>(.ask ((!r148)) (.done ((0:Int),(0:Int),(⟨#[]⟩:BA),false)) (.opt (qn n (0:Int) (0:Int) (⟨#[]⟩:BA)) fun r149=>(.ask ((!(r149.toList==x0.toList))) (.done ((0:Int),(0:Int),(⟨#[]⟩:BA),false)) (.done ((0:Int),(0:Int),(⟨#[]⟩:BA),true)))))))))))))
def qd:Nat→BA→Option (Int×Int×BA×Bool)
 |0,_=>none
 |n+1,x0=>(qBB n x0).run
abbrev qG7 (n:Nat):List (Ent (Rn n)):= [en (qCJ n),en (qEx n),en (qGJ n),en (qOK n),en (qCK n),en (qD8 n),en (qJr n),en2 (qDV n),en (qIg n)]
def qID (n:Nat):LEnt (KB 172) (Rn n) n:=lok (zR 172) 3837 ⟨⟨[(0,aS),(2,(.c (.ptr 0 128 0 0 0))),(4,(.c (.ptr 0 256 0 0 0))),(7,aI)],[(128,⟨0,3,128,(.box [qI,qI,qS])⟩),(256,⟨0,3,128,(.box [qI,qI,qS])⟩)],[]⟩,[(.exit 1,⟨[(0,aS),(2,(.c (.ptr 0 128 0 0 0))),(4,(.c (.ptr 0 256 0 0 0)))],[(128,⟨0,3,128,(.box [qI,qI,qS])⟩),(256,⟨0,3,128,(.box [qI,qI,qS])⟩)],[]⟩)]⟩ (qA1 n) (qG7 n) [] fun _=>(by kernel_rfl)
theorem qGK:∀n,Ok (Rn n) qLb (qd n)
 |0=>ok0 fun _=>rfl
 |n+1=>stO (T:=qBB n) (by kernel_rfl) (qG7 n) [qID n] (fun _=>(by kernel_rfl)) fun _=>(by kernel_rfl)
def qNW:Sg:=⟨184,[aI],[],⟨aS,[],[]⟩⟩
def qDC (n:Nat) (x0:Int):Tr (BA):=(.opt (qAb n x0 (1:Int) (52:Int)) fun r155=>(.ask ((!r155)) (.done (⟨#[]⟩:BA)) (.ask ((decide (x0≤(26:Int)))) (.ask (decide (1=([[(.i .u8 (IntKind.u8.wrap (IntKind.i64.wrap ((IntKind.i64.wrap ((65:Int)+x0))-(1:Int)))))]]:RW).length)) (.opt (bytesOf ([[(.i .u8 (IntKind.u8.wrap (IntKind.i64.wrap ((IntKind.i64.wrap ((65:Int)+x0))-(1:Int)))))]]:RW)) fun l156=>(.done (⟨l156.toArray⟩:BA))) .fail) (.ask (decide (2=([[(.i .u8 (IntKind.u8.wrap (IntKind.i64.wrap ((IntKind.i64.wrap ((65:Int)+(IntKind.i64.wrap (Int.tdiv (IntKind.i64.wrap (x0-(1:Int))) (26:Int)))))-(1:Int)))))],[(.i .u8 (IntKind.u8.wrap (IntKind.i64.wrap ((65:Int)+(Int.tmod (IntKind.i64.wrap (x0-(1:Int))) (26:Int))))))]]:RW).length)) (.opt (bytesOf ([[(.i .u8 (IntKind.u8.wrap (IntKind.i64.wrap ((IntKind.i64.wrap ((65:Int)+(IntKind.i64.wrap (Int.tdiv (IntKind.i64.wrap (x0-(1:Int))) (26:Int)))))-(1:Int)))))],[(.i .u8 (IntKind.u8.wrap (IntKind.i64.wrap ((65:Int)+(Int.tmod (IntKind.i64.wrap (x0-(1:Int))) (26:Int))))))]]:RW)) fun l157=>(.done (⟨l157.toArray⟩:BA))) .fail))))
def qBi:Nat→Int→Option (BA)
 |0,_=>none
 |n+1,x0=>(qDC n x0).run
abbrev qNX (n:Nat):List (Ent (Rn n)):= [en (qC9 n)]
theorem qHx:∀n,Ok (Rn n) qNW (qBi n)
 |0=>ok0 fun _=>rfl
 |n+1=>stO (T:=qDC n) (by kernel_rfl) (qNX n) [] (fun _=>(by kernel_rfl)) fun _=>(by kernel_rfl)
def qNY:Sg:=⟨262,[aS],[],⟨aI,[],[]⟩⟩
def qCL (n:Nat) (v:BA×Int):Tr ((BA×Int)⊕((Int)⊕(Unit))):=(.ask ((decide (v.2≤(52:Int)))) (.opt (qBi n v.2) fun r155=>(.ask ((r155.toList==v.1.toList)) (.done (.inr (.inl (v.2)))) (.done (.inl (v.1,(IntKind.i64.wrap (v.2+(1:Int)))))))) (.done (.inr (.inr (())))))
def qFn (n:Nat) (x0:BA):Tr (Int):=(.opt (zC (qCL n) n (x0,(1:Int))) fun r156=>(.alt r156 (fun r157=>(.done r157)) (fun r158=>(.done (0:Int)))))
def qEA:Nat→BA→Option (Int)
 |0,_=>none
 |n+1,x0=>(qFn n x0).run
abbrev qIh (n:Nat):List (Ent (Rn n)):= [en (qHx n)]
def qKq (n:Nat):LEnt (KB 262) (Rn n) n:=lok (zR 262) 13 ⟨⟨[(0,aS),(3,aI)],[],[]⟩,[(.ret,⟨[(2,aI)],[],[]⟩),(.exit 0,⟨[],[],[]⟩)]⟩ (qCL n) (qIh n) [] fun _=>(by kernel_rfl)
theorem qMc:∀n,Ok (Rn n) qNY (qEA n)
 |0=>ok0 fun _=>rfl
 |n+1=>stO (T:=qFn n) (by kernel_rfl) (qIh n) [qKq n] (fun _=>(by kernel_rfl)) fun _=>(by kernel_rfl)
def qLc:Sg:=⟨143,[(.agg [qI,qI,qB,qB])],[],⟨aS,[],[]⟩⟩
def qDK (n:Nat) (x0 x1:Int) (x2 x3:Bool):Tr (BA):=(.opt (qBf n x0 x1) fun r165=>(.ask ((!r165)) (.done (⟨#[]⟩:BA)) (.ask (x2) (.opt (qBi n x0) fun r166=>(.ask (decide ((⟨#[36]⟩:BA).size+r166.size≤9223372036854775807)) (.ask (x3) (.ask (decide (((⟨#[36]⟩:BA)++r166).size+(⟨#[36]⟩:BA).size≤9223372036854775807)) (.opt (qA2 n x1) fun r167=>(.ask (decide ((((⟨#[36]⟩:BA)++r166)++(⟨#[36]⟩:BA)).size+r167.size≤9223372036854775807)) (.done ((((⟨#[36]⟩:BA)++r166)++(⟨#[36]⟩:BA))++r167)) .fail)) .fail) (.opt (qA2 n x1) fun r168=>(.ask (decide (((⟨#[36]⟩:BA)++r166).size+r168.size≤9223372036854775807)) (.done (((⟨#[36]⟩:BA)++r166)++r168)) .fail))) .fail)) (.opt (qBi n x0) fun r169=>(.ask (decide ((⟨#[]⟩:BA).size+r169.size≤9223372036854775807)) (.ask (x3) (.ask (decide (((⟨#[]⟩:BA)++r169).size+(⟨#[36]⟩:BA).size≤9223372036854775807)) (.opt (qA2 n x1) fun r170=>(.ask (decide ((((⟨#[]⟩:BA)++r169)++(⟨#[36]⟩:BA)).size+r170.size≤9223372036854775807)) (.done ((((⟨#[]⟩:BA)++r169)++(⟨#[36]⟩:BA))++r170)) .fail)) .fail) (.opt (qA2 n x1) fun r171=>(.ask (decide (((⟨#[]⟩:BA)++r169).size+r171.size≤9223372036854775807)) (.done (((⟨#[]⟩:BA)++r169)++r171)) .fail))) .fail)))))
def qAx:Nat→Int→Int→Bool→Bool→Option (BA)
 |0,_,_,_,_=>none
 |n+1,x0,x1,x2,x3=>(qDK n x0 x1 x2 x3).run
abbrev qLd (n:Nat):List (Ent (Rn n)):= [en (qEc n),en (qHx n),en (qEy n)]
theorem qGL:∀n,Ok (Rn n) qLc (qAx n)
 |0=>ok0 fun _=>rfl
 |n+1=>stO (T:=qDK n) (by kernel_rfl) (qLd n) [] (fun _=>(by kernel_rfl)) fun _=>(by kernel_rfl)
def qLe:Sg:=⟨246,[aS],[],⟨(.tup [(true,[qI,qI,qB,qB]),(false,[qB])]),[],[]⟩⟩
def qES (n:Nat) (x0:BA):Tr (Int×Int×Bool×Bool×Bool):=(.opt (qAA n x0 (⟨#[36]⟩:BA)) fun r153=>(.opt (qA7 n r153.1 (⟨#[65,66,67,68,69,70,71,72,73,74,75,76,77,78,79,80,81,82,83,84,85,86,87,88,89,90]⟩:BA)) fun r154=>(.ask (decide (0≤(0:Int)∧(0:Int)≤(IntKind.i64.wrap ((r153.1.size:Int)-(r154.size:Int)))∧(IntKind.i64.wrap ((r153.1.size:Int)-(r154.size:Int)))≤r153.1.size)) (.opt (qEA n (r153.1.extract ((0:Int)).toNat ((IntKind.i64.wrap ((r153.1.size:Int)-(r154.size:Int)))).toNat)) fun r159=>(.ask (decide (0≤(IntKind.i64.wrap ((r153.1.size:Int)-(r154.size:Int)))∧(IntKind.i64.wrap ((r153.1.size:Int)-(r154.size:Int)))≤(r153.1.size:Int)∧(r153.1.size:Int)≤r153.1.size)) (.opt (qAA n (r153.1.extract ((IntKind.i64.wrap ((r153.1.size:Int)-(r154.size:Int)))).toNat ((r153.1.size:Int)).toNat) (⟨#[36]⟩:BA)) fun r160=>(.opt (qAp n r160.1 (10:Int) (64:Int)) fun r161=>(.alt r161 (fun r162=>(.opt (qBf n r159 r162) fun r164=>(.ask ((!r164)) (.done ((0:Int),(0:Int),false,false,false)) (.opt (qAx n r159 r162 r153.2 r160.2) fun r172=>(.ask ((!(r172.toList==x0.toList))) (.done ((0:Int),(0:Int),false,false,false)) (.done (r159,r162,r153.2,r160.2,true))))))) (fun r163=>(.opt (qBf n r159 r163) fun r173=>(.ask ((!r173)) (.done ((0:Int),(0:Int),false,false,false)) (.opt (qAx n r159 r163 r153.2 r160.2) fun r174=>(.ask ((!(r174.toList==x0.toList))) (.done ((0:Int),(0:Int),false,false,false)) (.done (r159,r163,r153.2,r160.2,true)))))))))) .fail)) .fail)))
def qAa:Nat→BA→Option (Int×Int×Bool×Bool×Bool)
 |0,_=>none
 |n+1,x0=>(qES n x0).run
abbrev qLf (n:Nat):List (Ent (Rn n)):= [en (qCJ n),en (qDT n),en (qMc n),en2 (qDV n),en (qEc n),en (qGL n)]
theorem qGM:∀n,Ok (Rn n) qLe (qAa n)
 |0=>ok0 fun _=>rfl
 |n+1=>stO (T:=qES n) (by kernel_rfl) (qLf n) [] (fun _=>(by kernel_rfl)) fun _=>(by kernel_rfl)
def qOM:Sg:=⟨247,[aI],[],⟨aS,[],[]⟩⟩
def qGn (n:Nat) (x0:Int):Tr (BA):=(.ask (decide (11=([[(.s (⟨#[]⟩:BA))],[(.s (⟨#[83,85,77]⟩:BA))],[(.s (⟨#[77,73,78]⟩:BA))],[(.s (⟨#[77,65,88]⟩:BA))],[(.s (⟨#[67,79,85,78,84]⟩:BA))],[(.s (⟨#[73,70]⟩:BA))],[(.s (⟨#[65,78,68]⟩:BA))],[(.s (⟨#[79,82]⟩:BA))],[(.s (⟨#[78,79,84]⟩:BA))],[(.s (⟨#[65,66,83]⟩:BA))],[(.s (⟨#[76,69,78]⟩:BA))]]:RW).length∧0≤x0∧x0<((11:Nat):Int))) (.opt (([[(.s (⟨#[]⟩:BA))],[(.s (⟨#[83,85,77]⟩:BA))],[(.s (⟨#[77,73,78]⟩:BA))],[(.s (⟨#[77,65,88]⟩:BA))],[(.s (⟨#[67,79,85,78,84]⟩:BA))],[(.s (⟨#[73,70]⟩:BA))],[(.s (⟨#[65,78,68]⟩:BA))],[(.s (⟨#[79,82]⟩:BA))],[(.s (⟨#[78,79,84]⟩:BA))],[(.s (⟨#[65,66,83]⟩:BA))],[(.s (⟨#[76,69,78]⟩:BA))]]:RW)[(x0).toNat]?) fun e177=>(.opt (zX e177 0) fun y178=>(.done y178))) .fail)
def qBw:Nat→Int→Option (BA)
 |0,_=>none
 |n+1,x0=>(qGn n x0).run
theorem qIi:∀n,Ok (Rn n) qOM (qBw n)
 |0=>ok0 fun _=>rfl
 |n+1=>stO (T:=qGn n) (by kernel_rfl) [] [] (fun _=>(by kernel_rfl)) fun _=>(by kernel_rfl)
def qHT:Sg:=⟨263,[(.c (.ptr 0 0 0 0 0))],[[(0,⟨0,3,198,(.box [qS,(.own 0 1 1 0),qB])⟩),(1,⟨1,14,162,(.row [])⟩)]],⟨(.tup [(true,[qI,qI,qI,qI,qS,qI,qI,qB,qB,qI,qI,qB,qB,qL]),(false,[qB])]),[[(0,⟨0,3,198,(.box [qS,(.own 0 1 1 0),qB])⟩),(1,⟨1,14,162,(.row [])⟩)]],[]⟩⟩
def qEB (n:Nat) (x0:BA) (x1:Nat) (x2:Bool) (x3:RW):Tr (Int×Int×Int×Int×BA×Int×Int×Bool×Bool×Int×Int×Bool×Bool×RW×Bool×BA×Nat×Bool×RW):=(.opt (qA8 n x0 x1 x2 x3) fun r180=>(.opt (qAa n r180.1) fun r181=>(.ask (r181.2.2.2.2) (.opt (ql n (⟨#[58]⟩:BA) r180.2.1 r180.2.2.1 r180.2.2.2.1 r180.2.2.2.2) fun r182=>(.ask ((!r182.1)) (.done ((0:Int),(0:Int),(0:Int),(0:Int),(⟨#[]⟩:BA),(0:Int),(0:Int),false,false,(0:Int),(0:Int),false,false,([]:RW),false,x0,r182.2.2.1,r182.2.2.2.1,r182.2.2.2.2)) (.opt (qA8 n r182.2.1 r182.2.2.1 r182.2.2.2.1 r182.2.2.2.2) fun r183=>(.opt (qAa n r183.1) fun r184=>(.ask (r183.2.2.2.1) (.done ((3:Int),(0:Int),(0:Int),(0:Int),(⟨#[]⟩:BA),r181.1,r181.2.1,r181.2.2.1,r181.2.2.2.1,r184.1,r184.2.1,r184.2.2.1,r184.2.2.2.1,([]:RW),true,r183.2.1,r183.2.2.1,true,r183.2.2.2.2)) (.done ((3:Int),(0:Int),(0:Int),(0:Int),(⟨#[]⟩:BA),r181.1,r181.2.1,r181.2.2.1,r181.2.2.2.1,r184.1,r184.2.1,r184.2.2.1,r184.2.2.2.1,([]:RW),true,r183.2.1,r183.2.2.1,(!r184.2.2.2.2),r183.2.2.2.2))))))) (.done ((0:Int),(0:Int),(0:Int),(0:Int),(⟨#[]⟩:BA),(0:Int),(0:Int),false,false,(0:Int),(0:Int),false,false,([]:RW),false,x0,r180.2.2.1,r180.2.2.2.1,r180.2.2.2.2)))))
def qCs:Nat→BA→Nat→Bool→RW→Option (Int×Int×Int×Int×BA×Int×Int×Bool×Bool×Int×Int×Bool×Bool×RW×Bool×BA×Nat×Bool×RW)
 |0,_,_,_,_=>none
 |n+1,x0,x1,x2,x3=>(qEB n x0 x1 x2 x3).run
abbrev qHU (n:Nat):List (Ent (Rn n)):= [en (qE9 n),en (qGM n),en (qBq n)]
theorem qG8:∀n,Ok (Rn n) qHT (qCs n)
 |0=>ok0 fun _=>rfl
 |n+1=>stO (T:=qEB n) (by kernel_rfl) (qHU n) [] (fun _=>(by kernel_rfl)) fun _=>(by kernel_rfl)
def qON:Sg:=⟨193,[aI],[],⟨aS,[],[]⟩⟩
def qGo (n:Nat) (x0:Int):Tr (BA):=(.ask (decide (12=([[(.s (⟨#[]⟩:BA))],[(.s (⟨#[43]⟩:BA))],[(.s (⟨#[45]⟩:BA))],[(.s (⟨#[42]⟩:BA))],[(.s (⟨#[47]⟩:BA))],[(.s (⟨#[38]⟩:BA))],[(.s (⟨#[61]⟩:BA))],[(.s (⟨#[60,62]⟩:BA))],[(.s (⟨#[60]⟩:BA))],[(.s (⟨#[60,61]⟩:BA))],[(.s (⟨#[62]⟩:BA))],[(.s (⟨#[62,61]⟩:BA))]]:RW).length∧0≤x0∧x0<((12:Nat):Int))) (.opt (([[(.s (⟨#[]⟩:BA))],[(.s (⟨#[43]⟩:BA))],[(.s (⟨#[45]⟩:BA))],[(.s (⟨#[42]⟩:BA))],[(.s (⟨#[47]⟩:BA))],[(.s (⟨#[38]⟩:BA))],[(.s (⟨#[61]⟩:BA))],[(.s (⟨#[60,62]⟩:BA))],[(.s (⟨#[60]⟩:BA))],[(.s (⟨#[60,61]⟩:BA))],[(.s (⟨#[62]⟩:BA))],[(.s (⟨#[62,61]⟩:BA))]]:RW)[(x0).toNat]?) fun e211=>(.opt (zX e211 0) fun y212=>(.done y212))) .fail)
def qBF:Nat→Int→Option (BA)
 |0,_=>none
 |n+1,x0=>(qGo n x0).run
theorem qIj:∀n,Ok (Rn n) qON (qBF n)
 |0=>ok0 fun _=>rfl
 |n+1=>stO (T:=qGo n) (by kernel_rfl) [] [] (fun _=>(by kernel_rfl)) fun _=>(by kernel_rfl)
def qO8:Sg:=⟨194,[aI],[],⟨aI,[],[]⟩⟩
def qHV (n:Nat) (x0:Int):Tr (Int):=(.ask ((x0==(3:Int))) (.done (4:Int)) (.ask ((x0==(4:Int))) (.done (4:Int)) (.ask ((x0==(1:Int))) (.done (3:Int)) (.ask ((x0==(2:Int))) (.done (3:Int)) (.ask ((x0==(5:Int))) (.done (2:Int)) (.done (1:Int)))))))
def qDL:Nat→Int→Option (Int)
 |0,_=>none
 |n+1,x0=>(qHV n x0).run
theorem qJs:∀n,Ok (Rn n) qO8 (qDL n)
 |0=>ok0 fun _=>rfl
 |n+1=>stO (T:=qHV n) (by kernel_rfl) [] [] (fun _=>(by kernel_rfl)) fun _=>(by kernel_rfl)
def qEh:Sg:=⟨159,[(.c (.ptr 0 0 0 0 0)),aI,aI],[[(0,⟨0,3,198,(.box [qS,(.own 0 1 1 0),qB])⟩),(1,⟨1,14,162,(.row [])⟩)]],⟨aI,[[(0,⟨0,3,198,(.box [qS,(.own 0 1 1 0),qB])⟩),(1,⟨1,14,162,(.row [])⟩)]],[]⟩⟩
def qJY:Sg:=⟨191,[(.c (.ptr 0 0 0 0 0)),aI],[[(0,⟨0,3,198,(.box [qS,(.own 0 1 1 0),qB])⟩),(1,⟨1,14,162,(.row [])⟩)]],⟨aI,[[(0,⟨0,3,198,(.box [qS,(.own 0 1 1 0),qB])⟩),(1,⟨1,14,162,(.row [])⟩)]],[]⟩⟩
def qKI:Sg:=⟨223,[(.c (.ptr 0 0 0 0 0)),aI],[[(0,⟨0,3,198,(.box [qS,(.own 0 1 1 0),qB])⟩),(1,⟨1,14,162,(.row [])⟩)]],⟨aI,[[(0,⟨0,3,198,(.box [qS,(.own 0 1 1 0),qB])⟩),(1,⟨1,14,162,(.row [])⟩)]],[]⟩⟩
def qKJ:Sg:=⟨248,[(.c (.ptr 0 0 0 0 0)),aI,aI],[[(0,⟨0,3,198,(.box [qS,(.own 0 1 1 0),qB])⟩),(1,⟨1,14,162,(.row [])⟩)]],⟨aI,[[(0,⟨0,3,198,(.box [qS,(.own 0 1 1 0),qB])⟩),(1,⟨1,14,162,(.row [])⟩)]],[]⟩⟩
structure G_impl_reader_binary where
 impl_reader_binary:Int→Int→BA→Nat→Bool→RW→Option (Int×BA×Nat×Bool×RW)
 impl_reader_unary:Int→BA→Nat→Bool→RW→Option (Int×BA×Nat×Bool×RW)
 impl_reader_atom:Int→BA→Nat→Bool→RW→Option (Int×BA×Nat×Bool×RW)
 impl_reader_call:Int→Int→BA→Nat→Bool→RW→Option (Int×BA×Nat×Bool×RW)
def qA3 (n:Nat) (v:Int×Int×Int×Int×Int×BA×Nat×Bool×RW):Tr ((Int×Int×Int×Int×Int×BA×Nat×Bool×RW)⊕((Int×Int×Int×Int×BA×Nat×Bool×RW))):=(.ask ((decide (v.2.2.2.2.1≤(11:Int)))) (.opt (qBZ n v.2.2.2.2.2.1 v.2.2.2.2.2.2.1 v.2.2.2.2.2.2.2.1 v.2.2.2.2.2.2.2.2) fun r210=>(.opt (qBF n v.2.2.2.2.1) fun r211=>(.ask ((r210.1.toList==r211.toList)) (.done (.inl (v.1,v.2.1,v.2.2.1,v.2.2.2.2.1,(IntKind.i64.wrap (v.2.2.2.2.1+(1:Int))),r210.2.1,r210.2.2.1,r210.2.2.2.1,r210.2.2.2.2))) (.done (.inl (v.1,v.2.1,v.2.2.1,v.2.2.2.1,(IntKind.i64.wrap (v.2.2.2.2.1+(1:Int))),r210.2.1,r210.2.2.1,r210.2.2.2.1,r210.2.2.2.2)))))) (.done (.inr ((v.1,v.2.1,v.2.2.1,v.2.2.2.1,v.2.2.2.2.2.1,v.2.2.2.2.2.2.1,v.2.2.2.2.2.2.2.1,v.2.2.2.2.2.2.2.2)))))
def qCm (rec:G_impl_reader_binary) (n:Nat) (v:Int×Int×Int×BA×Nat×Bool×RW):Tr ((Int×Int×Int×BA×Nat×Bool×RW)⊕((Int×BA×Nat×Bool×RW))):=(.ask ((!v.2.2.2.2.2.1)) (.opt (zC (qA3 n) n (v.1,v.2.1,v.2.2.1,(0:Int),(1:Int),v.2.2.2.1,v.2.2.2.2.1,v.2.2.2.2.2.1,v.2.2.2.2.2.2)) fun r212=>(.ask ((r212.2.2.2.1==(0:Int))) (.done (.inr ((r212.2.2.1,r212.2.2.2.2.1,r212.2.2.2.2.2.1,r212.2.2.2.2.2.2.1,r212.2.2.2.2.2.2.2)))) (.opt (qDL n r212.2.2.2.1) fun r213=>(.ask ((decide (r213<r212.1))) (.done (.inr ((r212.2.2.1,r212.2.2.2.2.1,r212.2.2.2.2.2.1,r212.2.2.2.2.2.2.1,r212.2.2.2.2.2.2.2)))) (.opt (qBF n r212.2.2.2.1) fun r214=>(.opt (ql n r214 r212.2.2.2.2.1 r212.2.2.2.2.2.1 r212.2.2.2.2.2.2.1 r212.2.2.2.2.2.2.2) fun r215=>(.opt (qDL n r212.2.2.2.1) fun r216=>(.opt (rec.impl_reader_binary (IntKind.i64.wrap (r216+(1:Int))) r212.2.1 r215.2.1 r215.2.2.1 r215.2.2.2.1 r215.2.2.2.2) fun r217=>(.ask (decide (2=([[(.i .i64 r212.2.2.1)],[(.i .i64 r217.1)]]:RW).length)) (.opt (qm n (5:Int) r212.2.2.2.1 (0:Int) (0:Int) (⟨#[]⟩:BA) (0:Int) (0:Int) false false (0:Int) (0:Int) false false ([[(.i .i64 r212.2.2.1)],[(.i .i64 r217.1)]]:RW) r217.2.1 r217.2.2.1 r217.2.2.2.1 r217.2.2.2.2) fun r218=>(.done (.inl (r212.1,r212.2.1,r218.1,r218.2.1,r218.2.2.1,r218.2.2.2.1,r218.2.2.2.2)))) .fail))))))))) (.done (.inr ((v.2.2.1,v.2.2.2.1,v.2.2.2.2.1,v.2.2.2.2.2.1,v.2.2.2.2.2.2)))))
def qEi (rec:G_impl_reader_binary) (n:Nat) (x0 x1:Int) (x2:BA) (x3:Nat) (x4:Bool) (x5:RW):Tr (Int×BA×Nat×Bool×RW):=(.opt (rec.impl_reader_unary x1 x2 x3 x4 x5) fun r209=>(.opt (zC (qCm rec n) n (x0,x1,r209.1,r209.2.1,r209.2.2.1,r209.2.2.2.1,r209.2.2.2.2)) fun r219=>(.done (r219.1,r219.2.1,r219.2.2.1,r219.2.2.2.1,r219.2.2.2.2))))
def qFB (rec:G_impl_reader_binary) (n:Nat) (x0:Int) (x1:BA) (x2:Nat) (x3:Bool) (x4:RW):Tr (Int×BA×Nat×Bool×RW):=(.ask ((decide (x0>(400:Int)))) (.ask (true) (.done ((-1:Int),x1,x2,true,x4)) (.opt (ql n (⟨#[45]⟩:BA) x1 x2 true x4) fun r91=>(.ask (r91.1) (.opt (rec.impl_reader_unary (IntKind.i64.wrap (x0+(1:Int))) r91.2.1 r91.2.2.1 r91.2.2.2.1 r91.2.2.2.2) fun r92=>(.ask (decide (1=([[(.i .i64 r92.1)]]:RW).length)) (.opt (qm n (4:Int) (0:Int) (0:Int) (0:Int) (⟨#[]⟩:BA) (0:Int) (0:Int) false false (0:Int) (0:Int) false false ([[(.i .i64 r92.1)]]:RW) r92.2.1 r92.2.2.1 r92.2.2.2.1 r92.2.2.2.2) fun r93=>(.done (r93.1,r93.2.1,r93.2.2.1,r93.2.2.2.1,r93.2.2.2.2))) .fail)) (.opt (rec.impl_reader_atom x0 r91.2.1 r91.2.2.1 r91.2.2.2.1 r91.2.2.2.2) fun r204=>(.done (r204.1,r204.2.1,r204.2.2.1,r204.2.2.2.1,r204.2.2.2.2)))))) (.ask (x3) (.done ((-1:Int),x1,x2,x3,x4)) (.opt (ql n (⟨#[45]⟩:BA) x1 x2 x3 x4) fun r205=>(.ask (r205.1) (.opt (rec.impl_reader_unary (IntKind.i64.wrap (x0+(1:Int))) r205.2.1 r205.2.2.1 r205.2.2.2.1 r205.2.2.2.2) fun r206=>(.ask (decide (1=([[(.i .i64 r206.1)]]:RW).length)) (.opt (qm n (4:Int) (0:Int) (0:Int) (0:Int) (⟨#[]⟩:BA) (0:Int) (0:Int) false false (0:Int) (0:Int) false false ([[(.i .i64 r206.1)]]:RW) r206.2.1 r206.2.2.1 r206.2.2.2.1 r206.2.2.2.2) fun r207=>(.done (r207.1,r207.2.1,r207.2.2.1,r207.2.2.2.1,r207.2.2.2.2))) .fail)) (.opt (rec.impl_reader_atom x0 r205.2.1 r205.2.2.1 r205.2.2.2.1 r205.2.2.2.2) fun r208=>(.done (r208.1,r208.2.1,r208.2.2.1,r208.2.2.2.1,r208.2.2.2.2)))))))
def qBt (n:Nat) (v:Int×Int×BA×Nat×Bool×RW):Tr ((Int×Int×BA×Nat×Bool×RW)⊕((Int×BA×Nat×Bool×RW)⊕(Int×BA×Nat×Bool×RW))):=(.ask ((decide (v.2.1≤(5:Int)))) (.opt (qAZ n v.2.1) fun r105=>(.opt (qAA n v.2.2.1 r105) fun r106=>(.ask (r106.2) (.opt (qBg n v.2.1) fun r107=>(.opt (qh n r107.1 r107.2.1 r107.2.2 r106.1 v.2.2.2.1 v.2.2.2.2.1 v.2.2.2.2.2) fun r108=>(.done (.inr (.inl ((r108.1,r108.2.1,r108.2.2.1,r108.2.2.2.1,r108.2.2.2.2))))))) (.done (.inl (v.1,(IntKind.i64.wrap (v.2.1+(1:Int))),v.2.2.1,v.2.2.2.1,v.2.2.2.2.1,v.2.2.2.2.2)))))) (.done (.inr (.inr ((v.1,v.2.2.1,v.2.2.2.1,v.2.2.2.2.1,v.2.2.2.2.2))))))
def qAe (rec:G_impl_reader_binary) (n:Nat) (v:Int×BA×Int×BA×Nat×Bool×RW):Tr ((Int×BA×Int×BA×Nat×Bool×RW)⊕((Int×BA×Nat×Bool×RW)⊕(BA×Nat×Bool×RW))):=(.ask ((decide (v.2.2.1≤(10:Int)))) (.opt (qBw n v.2.2.1) fun r177=>(.ask ((v.2.1.toList==r177.toList)) (.opt (rec.impl_reader_call v.2.2.1 v.1 v.2.2.2.1 v.2.2.2.2.1 v.2.2.2.2.2.1 v.2.2.2.2.2.2) fun r178=>(.done (.inr (.inl ((r178.1,r178.2.1,r178.2.2.1,r178.2.2.2.1,r178.2.2.2.2)))))) (.done (.inl (v.1,v.2.1,(IntKind.i64.wrap (v.2.2.1+(1:Int))),v.2.2.2.1,v.2.2.2.2.1,v.2.2.2.2.2.1,v.2.2.2.2.2.2))))) (.done (.inr (.inr ((v.2.2.2.1,v.2.2.2.2.1,v.2.2.2.2.2.1,v.2.2.2.2.2.2))))))
def qFo (rec:G_impl_reader_binary) (n:Nat) (x0:Int) (x1:BA) (x2:Nat) (x3:Bool) (x4:RW):Tr (Int×BA×Nat×Bool×RW):=(.opt (qAo n x1 x2 x3 x4) fun r94=>(.opt (qj n r94.1 (⟨#[34]⟩:BA)) fun r95=>(.ask (r95) (.opt (qDB n r94.1 r94.2.1 r94.2.2.1 r94.2.2.2) fun r103=>(.done (r103.1,r103.2.1,r103.2.2.1,r103.2.2.2.1,r103.2.2.2.2))) (.opt (qj n r94.1 (⟨#[35]⟩:BA)) fun r104=>(.ask (r104) (.opt (zC (qBt n) n (x0,(1:Int),r94.1,r94.2.1,r94.2.2.1,r94.2.2.2)) fun r109=>(.alt r109 (fun r110=>(.done (r110.1,r110.2.1,r110.2.2.1,r110.2.2.2.1,r110.2.2.2.2))) (fun r111=>(.opt (qA8 n r111.2.1 r111.2.2.1 r111.2.2.2.1 r111.2.2.2.2) fun r114=>(.opt (qd n r114.1) fun r150=>(.ask (r150.2.2.2) (.ask ((r150.1==(1:Int))) (.opt (qh n r150.1 r150.2.1 r150.2.2.1 r114.2.1 r114.2.2.1 r114.2.2.2.1 r114.2.2.2.2) fun r151=>(.done (r151.1,r151.2.1,r151.2.2.1,r151.2.2.2.1,r151.2.2.2.2))) (.ask ((r150.1==(3:Int))) (.opt (qh n r150.1 r150.2.1 r150.2.2.1 r114.2.1 r114.2.2.1 r114.2.2.2.1 r114.2.2.2.2) fun r152=>(.done (r152.1,r152.2.1,r152.2.2.1,r152.2.2.2.1,r152.2.2.2.2))) (.opt (qAa n r114.1) fun r175=>(.ask (r175.2.2.2.2) (.opt (qm n (2:Int) (0:Int) (0:Int) (0:Int) (⟨#[]⟩:BA) r175.1 r175.2.1 r175.2.2.1 r175.2.2.2.1 (0:Int) (0:Int) false false ([]:RW) r114.2.1 r114.2.2.1 r114.2.2.2.1 r114.2.2.2.2) fun r176=>(.done (r176.1,r176.2.1,r176.2.2.1,r176.2.2.2.1,r176.2.2.2.2))) (.opt (zC (qAe rec n) n (r111.1,r114.1,(1:Int),r114.2.1,r114.2.2.1,r114.2.2.2.1,r114.2.2.2.2)) fun r179=>(.alt r179 (fun r180=>(.done (r180.1,r180.2.1,r180.2.2.1,r180.2.2.2.1,r180.2.2.2.2))) (fun r181=>(.done ((-1:Int),r181.1,r181.2.1,true,r181.2.2.2))))))))) (.opt (qAa n r114.1) fun r182=>(.ask (r182.2.2.2.2) (.opt (qm n (2:Int) (0:Int) (0:Int) (0:Int) (⟨#[]⟩:BA) r182.1 r182.2.1 r182.2.2.1 r182.2.2.2.1 (0:Int) (0:Int) false false ([]:RW) r114.2.1 r114.2.2.1 r114.2.2.2.1 r114.2.2.2.2) fun r183=>(.done (r183.1,r183.2.1,r183.2.2.1,r183.2.2.2.1,r183.2.2.2.2))) (.opt (zC (qAe rec n) n (r111.1,r114.1,(1:Int),r114.2.1,r114.2.2.1,r114.2.2.2.1,r114.2.2.2.2)) fun r184=>(.alt r184 (fun r185=>(.done (r185.1,r185.2.1,r185.2.2.1,r185.2.2.2.1,r185.2.2.2.2))) (fun r186=>(.done ((-1:Int),r186.1,r186.2.1,true,r186.2.2.2))))))))))))) (.opt (ql n (⟨#[40]⟩:BA) r94.1 r94.2.1 r94.2.2.1 r94.2.2.2) fun r187=>(.ask (r187.1) (.opt (rec.impl_reader_binary (1:Int) (IntKind.i64.wrap (x0+(1:Int))) r187.2.1 r187.2.2.1 r187.2.2.2.1 r187.2.2.2.2) fun r188=>(.ask (r188.2.2.2.1) (.done (r188.1,r188.2.1,r188.2.2.1,true,r188.2.2.2.2)) (.opt (ql n (⟨#[41]⟩:BA) r188.2.1 r188.2.2.1 r188.2.2.2.1 r188.2.2.2.2) fun r189=>(.done (r188.1,r189.2.1,r189.2.2.1,(!r189.1),r189.2.2.2.2))))) (.opt (qA8 n r187.2.1 r187.2.2.1 r187.2.2.2.1 r187.2.2.2.2) fun r190=>(.opt (qd n r190.1) fun r191=>(.ask (r191.2.2.2) (.ask ((r191.1==(1:Int))) (.opt (qh n r191.1 r191.2.1 r191.2.2.1 r190.2.1 r190.2.2.1 r190.2.2.2.1 r190.2.2.2.2) fun r192=>(.done (r192.1,r192.2.1,r192.2.2.1,r192.2.2.2.1,r192.2.2.2.2))) (.ask ((r191.1==(3:Int))) (.opt (qh n r191.1 r191.2.1 r191.2.2.1 r190.2.1 r190.2.2.1 r190.2.2.2.1 r190.2.2.2.2) fun r193=>(.done (r193.1,r193.2.1,r193.2.2.1,r193.2.2.2.1,r193.2.2.2.2))) (.opt (qAa n r190.1) fun r194=>(.ask (r194.2.2.2.2) (.opt (qm n (2:Int) (0:Int) (0:Int) (0:Int) (⟨#[]⟩:BA) r194.1 r194.2.1 r194.2.2.1 r194.2.2.2.1 (0:Int) (0:Int) false false ([]:RW) r190.2.1 r190.2.2.1 r190.2.2.2.1 r190.2.2.2.2) fun r195=>(.done (r195.1,r195.2.1,r195.2.2.1,r195.2.2.2.1,r195.2.2.2.2))) (.opt (zC (qAe rec n) n (x0,r190.1,(1:Int),r190.2.1,r190.2.2.1,r190.2.2.2.1,r190.2.2.2.2)) fun r196=>(.alt r196 (fun r197=>(.done (r197.1,r197.2.1,r197.2.2.1,r197.2.2.2.1,r197.2.2.2.2))) (fun r198=>(.done ((-1:Int),r198.1,r198.2.1,true,r198.2.2.2))))))))) (.opt (qAa n r190.1) fun r199=>(.ask (r199.2.2.2.2) (.opt (qm n (2:Int) (0:Int) (0:Int) (0:Int) (⟨#[]⟩:BA) r199.1 r199.2.1 r199.2.2.1 r199.2.2.2.1 (0:Int) (0:Int) false false ([]:RW) r190.2.1 r190.2.2.1 r190.2.2.2.1 r190.2.2.2.2) fun r200=>(.done (r200.1,r200.2.1,r200.2.2.1,r200.2.2.2.1,r200.2.2.2.2))) (.opt (zC (qAe rec n) n (x0,r190.1,(1:Int),r190.2.1,r190.2.2.1,r190.2.2.2.1,r190.2.2.2.2)) fun r201=>(.alt r201 (fun r202=>(.done (r202.1,r202.2.1,r202.2.2.1,r202.2.2.2.1,r202.2.2.2.2))) (fun r203=>(.done ((-1:Int),r203.1,r203.2.1,true,r203.2.2.2)))))))))))))))))
def qB7 (rec:G_impl_reader_binary) (n:Nat) (v:Int×Int×Nat×RW×BA×Nat×Bool×RW):Tr ((Int×Int×Nat×RW×BA×Nat×Bool×RW)⊕((Int×Nat×RW×BA×Nat×Bool×RW))):=(.ask ((!v.2.2.2.2.2.2.1)) (.opt (qCs n v.2.2.2.2.1 v.2.2.2.2.2.1 v.2.2.2.2.2.2.1 v.2.2.2.2.2.2.2) fun r180=>(.ask (r180.2.2.2.2.2.2.2.2.2.2.2.2.2.2.1) (.opt (qm n r180.1 r180.2.1 r180.2.2.1 r180.2.2.2.1 r180.2.2.2.2.1 r180.2.2.2.2.2.1 r180.2.2.2.2.2.2.1 r180.2.2.2.2.2.2.2.1 r180.2.2.2.2.2.2.2.2.1 r180.2.2.2.2.2.2.2.2.2.1 r180.2.2.2.2.2.2.2.2.2.2.1 r180.2.2.2.2.2.2.2.2.2.2.2.1 r180.2.2.2.2.2.2.2.2.2.2.2.2.1 r180.2.2.2.2.2.2.2.2.2.2.2.2.2.1 r180.2.2.2.2.2.2.2.2.2.2.2.2.2.2.2.1 r180.2.2.2.2.2.2.2.2.2.2.2.2.2.2.2.2.1 r180.2.2.2.2.2.2.2.2.2.2.2.2.2.2.2.2.2.1 r180.2.2.2.2.2.2.2.2.2.2.2.2.2.2.2.2.2.2) fun r181=>(.ask (decide (1=([[(.i .i64 r181.1)]]:RW).length)) (.ask (decide (v.2.2.1=v.2.2.2.1.length∧0<1∧0<8∧(v.2.2.1+([[(.i .i64 r181.1)]]:RW).length)*8≤140737488355328∧([[(.i .i64 r181.1)]]:RW).all (fun e=>e.length==1)=true)) (.opt (ql n (⟨#[44]⟩:BA) r181.2.1 r181.2.2.1 r181.2.2.2.1 r181.2.2.2.2) fun r182=>(.ask ((!r182.1)) (.ask (r182.2.2.2.1) (.done (.inr ((v.1,(v.2.2.1+1),(v.2.2.2.1++([[(.i .i64 r181.1)]]:RW)),r182.2.1,r182.2.2.1,true,r182.2.2.2.2)))) (.opt (ql n (⟨#[41]⟩:BA) r182.2.1 r182.2.2.1 r182.2.2.2.1 r182.2.2.2.2) fun r183=>(.done (.inr ((v.1,(v.2.2.1+1),(v.2.2.2.1++([[(.i .i64 r181.1)]]:RW)),r183.2.1,r183.2.2.1,(!r183.1),r183.2.2.2.2)))))) (.done (.inl (v.1,v.2.1,(v.2.2.1+1),(v.2.2.2.1++([[(.i .i64 r181.1)]]:RW)),r182.2.1,r182.2.2.1,r182.2.2.2.1,r182.2.2.2.2))))) .fail) .fail)) (.opt (rec.impl_reader_binary (1:Int) (IntKind.i64.wrap (v.2.1+(1:Int))) r180.2.2.2.2.2.2.2.2.2.2.2.2.2.2.2.1 r180.2.2.2.2.2.2.2.2.2.2.2.2.2.2.2.2.1 r180.2.2.2.2.2.2.2.2.2.2.2.2.2.2.2.2.2.1 r180.2.2.2.2.2.2.2.2.2.2.2.2.2.2.2.2.2.2) fun r184=>(.ask (decide (1=([[(.i .i64 r184.1)]]:RW).length)) (.ask (decide (v.2.2.1=v.2.2.2.1.length∧0<1∧0<8∧(v.2.2.1+([[(.i .i64 r184.1)]]:RW).length)*8≤140737488355328∧([[(.i .i64 r184.1)]]:RW).all (fun e=>e.length==1)=true)) (.opt (ql n (⟨#[44]⟩:BA) r184.2.1 r184.2.2.1 r184.2.2.2.1 r184.2.2.2.2) fun r185=>(.ask ((!r185.1)) (.ask (r185.2.2.2.1) (.done (.inr ((v.1,(v.2.2.1+1),(v.2.2.2.1++([[(.i .i64 r184.1)]]:RW)),r185.2.1,r185.2.2.1,true,r185.2.2.2.2)))) (.opt (ql n (⟨#[41]⟩:BA) r185.2.1 r185.2.2.1 r185.2.2.2.1 r185.2.2.2.2) fun r186=>(.done (.inr ((v.1,(v.2.2.1+1),(v.2.2.2.1++([[(.i .i64 r184.1)]]:RW)),r186.2.1,r186.2.2.1,(!r186.1),r186.2.2.2.2)))))) (.done (.inl (v.1,v.2.1,(v.2.2.1+1),(v.2.2.2.1++([[(.i .i64 r184.1)]]:RW)),r185.2.1,r185.2.2.1,r185.2.2.2.1,r185.2.2.2.2))))) .fail) .fail)))) (.done (.inr ((v.1,v.2.2.1,v.2.2.2.1,v.2.2.2.2.1,v.2.2.2.2.2.1,v.2.2.2.2.2.2.1,v.2.2.2.2.2.2.2)))))
def qFp (rec:G_impl_reader_binary) (n:Nat) (x0 x1:Int) (x2:BA) (x3:Nat) (x4:Bool) (x5:RW):Tr (Int×BA×Nat×Bool×RW):=(.ask (x4) (.opt (zC (qB7 rec n) n (x0,x1,(0:Nat),([]:RW),x2,x3,true,x5)) fun r187=>(.ask (decide (r187.2.1=r187.2.2.1.length)) (.opt (qm n (6:Int) r187.1 (0:Int) (0:Int) (⟨#[]⟩:BA) (0:Int) (0:Int) false false (0:Int) (0:Int) false false r187.2.2.1 r187.2.2.2.1 r187.2.2.2.2.1 r187.2.2.2.2.2.1 r187.2.2.2.2.2.2) fun r188=>(.done (r188.1,r188.2.1,r188.2.2.1,r188.2.2.2.1,r188.2.2.2.2))) .fail)) (.opt (ql n (⟨#[40]⟩:BA) x2 x3 x4 x5) fun r189=>(.opt (zC (qB7 rec n) n (x0,x1,(0:Nat),([]:RW),r189.2.1,r189.2.2.1,(!r189.1),r189.2.2.2.2)) fun r190=>(.ask (decide (r190.2.1=r190.2.2.1.length)) (.opt (qm n (6:Int) r190.1 (0:Int) (0:Int) (⟨#[]⟩:BA) (0:Int) (0:Int) false false (0:Int) (0:Int) false false r190.2.2.1 r190.2.2.2.1 r190.2.2.2.2.1 r190.2.2.2.2.2.1 r190.2.2.2.2.2.2) fun r191=>(.done (r191.1,r191.2.1,r191.2.2.1,r191.2.2.2.1,r191.2.2.2.2))) .fail))))
def qR:Nat→G_impl_reader_binary
 |0=>⟨fun _ _ _ _ _ _=>none,fun _ _ _ _ _=>none,fun _ _ _ _ _=>none,fun _ _ _ _ _ _=>none⟩
 |n+1=>⟨fun x0 x1 x2 x3 x4 x5=>(qEi (qR n) n x0 x1 x2 x3 x4 x5).run,fun x0 x1 x2 x3 x4=>(qFB (qR n) n x0 x1 x2 x3 x4).run,fun x0 x1 x2 x3 x4=>(qFo (qR n) n x0 x1 x2 x3 x4).run,fun x0 x1 x2 x3 x4 x5=>(qFp (qR n) n x0 x1 x2 x3 x4 x5).run⟩
def qCM (n:Nat) (x0 x1:Int) (x2:BA) (x3:Nat) (x4:Bool) (x5:RW):Option (Int×BA×Nat×Bool×RW):=(qR n).impl_reader_binary x0 x1 x2 x3 x4 x5
def qFC (n:Nat) (x0:Int) (x1:BA) (x2:Nat) (x3:Bool) (x4:RW):Option (Int×BA×Nat×Bool×RW):=(qR n).impl_reader_unary x0 x1 x2 x3 x4
def qFq (n:Nat) (x0:Int) (x1:BA) (x2:Nat) (x3:Bool) (x4:RW):Option (Int×BA×Nat×Bool×RW):=(qR n).impl_reader_atom x0 x1 x2 x3 x4
def qB3 (n:Nat) (x0 x1:Int) (x2:BA) (x3:Nat) (x4:Bool) (x5:RW):Option (Int×BA×Nat×Bool×RW):=(qR n).impl_reader_call x0 x1 x2 x3 x4 x5
def qz (n:Nat):Prop:=
 Ok (Rn n) qEh (qCM n)∧
 Ok (Rn n) qJY (qFC n)∧
 Ok (Rn n) qKI (qFq n)∧
 Ok (Rn n) qKJ (qB3 n)
abbrev qDD (n:Nat) (ih:qz n):List (Ent (Rn n)):= [en ih.2.1,en (qE8 n),en (qIj n),en (qJs n),en (qBq n),en ih.1,en (qB2 n)]
def qGp (n:Nat) (ih:qz n):LEnt (lb 14 (KB 159)) (Rn n) n:=lok (Uniq.pick (zR 159) 14) 237 ⟨⟨[(0,(.c (.ptr 0 0 0 0 0))),(1,aI),(2,aI),(7,aI),(8,aI),(9,aI)],[],[[(0,⟨0,3,198,(.box [qS,(.own 0 1 1 0),qB])⟩),(1,⟨1,14,162,(.row [])⟩)]]⟩,[(.exit 2,⟨[(0,(.c (.ptr 0 0 0 0 0))),(1,aI),(2,aI),(7,aI),(8,aI)],[],[[(0,⟨0,3,198,(.box [qS,(.own 0 1 1 0),qB])⟩),(1,⟨1,14,162,(.row [])⟩)]]⟩)]⟩ (qA3 n) (qDD n ih) [] fun _=>(by kernel_rfl)
def qG9 (n:Nat) (ih:qz n):LEnt (KB 159) (Rn n) n:=lok (zR 159) 14 ⟨⟨[(0,(.c (.ptr 0 0 0 0 0))),(1,aI),(2,aI),(7,aI)],[],[[(0,⟨0,3,198,(.box [qS,(.own 0 1 1 0),qB])⟩),(1,⟨1,14,162,(.row [])⟩)]]⟩,[(.exit 0,⟨[(7,aI)],[],[[(0,⟨0,3,198,(.box [qS,(.own 0 1 1 0),qB])⟩),(1,⟨1,14,162,(.row [])⟩)]]⟩)]⟩ (qCm (qR n) n) (qDD n ih) [qGp n ih] fun _=>(by kernel_rfl)
abbrev qJZ (n:Nat) (ih:qz n):List (Ent (Rn n)):= [en (qBq n),en ih.2.1,en (qB2 n),en ih.2.2.1]
abbrev qDj (n:Nat) (ih:qz n):List (Ent (Rn n)):= [en (qB5 n),en (qCK n),en (qIC n),en (qD8 n),en (qCJ n),en (qJr n),en (qDr n),en (qE9 n),en (qGK n),en (qGM n),en (qB2 n),en (qIi n),en ih.2.2.2,en (qBq n),en ih.1]
def qHW (n:Nat) (ih:qz n):LEnt (KB 223) (Rn n) n:=lok (zR 223) 477 ⟨⟨[(0,(.c (.ptr 0 0 0 0 0))),(1,aI),(5,aI)],[],[[(0,⟨0,3,198,(.box [qS,(.own 0 1 1 0),qB])⟩),(1,⟨1,14,162,(.row [])⟩)]]⟩,[(.ret,⟨[(4,aI)],[],[[(0,⟨0,3,198,(.box [qS,(.own 0 1 1 0),qB])⟩),(1,⟨1,14,162,(.row [])⟩)]]⟩),(.exit 1,⟨[(0,(.c (.ptr 0 0 0 0 0))),(1,aI)],[],[[(0,⟨0,3,198,(.box [qS,(.own 0 1 1 0),qB])⟩),(1,⟨1,14,162,(.row [])⟩)]]⟩)]⟩ (qBt n) (qDj n ih) [] fun _=>(by kernel_rfl)
def qHX (n:Nat) (ih:qz n):LEnt (KB 223) (Rn n) n:=lok (zR 223) 509 ⟨⟨[(0,(.c (.ptr 0 0 0 0 0))),(1,aI),(9,aS),(14,aI)],[],[[(0,⟨0,3,198,(.box [qS,(.own 0 1 1 0),qB])⟩),(1,⟨1,14,162,(.row [])⟩)]]⟩,[(.ret,⟨[(4,aI)],[],[[(0,⟨0,3,198,(.box [qS,(.own 0 1 1 0),qB])⟩),(1,⟨1,14,162,(.row [])⟩)]]⟩),(.exit 3,⟨[(0,(.c (.ptr 0 0 0 0 0)))],[],[[(0,⟨0,3,198,(.box [qS,(.own 0 1 1 0),qB])⟩),(1,⟨1,14,162,(.row [])⟩)]]⟩)]⟩ (qAe (qR n) n) (qDj n ih) [] fun _=>(by kernel_rfl)
abbrev qFr (n:Nat) (ih:qz n):List (Ent (Rn n)):= [en (qG8 n),en (qB2 n),en (qBq n),en ih.1]
def qIE (n:Nat) (ih:qz n):LEnt (KB 248) (Rn n) n:=lok (zR 248) 30 ⟨⟨[(0,(.c (.ptr 0 0 0 0 0))),(1,aI),(2,aI),(7,(.c (.own 1 640 0 0)))],[(640,⟨0,1,2,(.row [])⟩)],[[(0,⟨0,3,198,(.box [qS,(.own 0 1 1 0),qB])⟩),(1,⟨1,14,162,(.row [])⟩)]]⟩,[(.exit 0,⟨[(0,(.c (.ptr 0 0 0 0 0))),(1,aI),(7,(.c (.own 1 640 0 0)))],[(640,⟨0,1,2,(.row [])⟩)],[[(0,⟨0,3,198,(.box [qS,(.own 0 1 1 0),qB])⟩),(1,⟨1,14,162,(.row [])⟩)]]⟩)]⟩ (qB7 (qR n) n) (qFr n ih) [] fun _=>(by kernel_rfl)
theorem qAE:∀n,qz n
 |0=>⟨ok0 fun _=>rfl,ok0 fun _=>rfl,ok0 fun _=>rfl,ok0 fun _=>rfl⟩
 |n+1=>⟨stO (T:=qEi (qR n) n) (by kernel_rfl) (qDD n (qAE n)) [qG9 n (qAE n)] (fun _=>(by kernel_rfl)) fun _=>(by kernel_rfl),stO (T:=qFB (qR n) n) (by kernel_rfl) (qJZ n (qAE n)) [] (fun _=>(by kernel_rfl)) fun _=>(by kernel_rfl),stO (T:=qFo (qR n) n) (by kernel_rfl) (qDj n (qAE n)) [qHW n (qAE n),qHX n (qAE n)] (fun _=>(by kernel_rfl)) fun _=>(by kernel_rfl),stO (T:=qFp (qR n) n) (by kernel_rfl) (qFr n (qAE n)) [qIE n (qAE n)] (fun _=>(by kernel_rfl)) fun _=>(by kernel_rfl)⟩
theorem qIF (n:Nat):Ok (Rn n) qEh (qCM n):=(qAE n).1
def qKr:Sg:=⟨120,[(.agg [qI,qI,qI,qI,qS,qI,qI,qB,qB,qI,qI,qB,qB,qL])],[],⟨(.agg [qI,qI,qI,qI]),[],[]⟩⟩
def qEC (n:Nat) (x0 x1 x2 x3:Int) (x4:BA) (x5 x6:Int) (x7 x8:Bool) (x9 x10:Int) (x11 x12:Bool) (x13:RW):Tr (Int×Int×Int×Int):=(.ask ((x0==(2:Int))) (.done (x5,x6,x5,x6)) (.done (x5,x6,x9,x10)))
def qCN:Nat→Int→Int→Int→Int→BA→Int→Int→Bool→Bool→Int→Int→Bool→Bool→RW→Option (Int×Int×Int×Int)
 |0,_,_,_,_,_,_,_,_,_,_,_,_,_,_=>none
 |n+1,x0,x1,x2,x3,x4,x5,x6,x7,x8,x9,x10,x11,x12,x13=>(qEC n x0 x1 x2 x3 x4 x5 x6 x7 x8 x9 x10 x11 x12 x13).run
theorem qKK:∀n,Ok (Rn n) qKr (qCN n)
 |0=>ok0 fun _=>rfl
 |n+1=>stO (T:=qEC n) (by kernel_rfl) [] [] (fun _=>(by kernel_rfl)) fun _=>(by kernel_rfl)
def qOO:Sg:=⟨264,[(.agg [qI,qI,qI,qI])],[],⟨aB,[],[]⟩⟩
def qGq (n:Nat) (x0 x1 x2 x3:Int):Tr (Bool):=(.opt (qBf n x0 x1) fun r242=>(.ask (r242) (.opt (qBf n x2 x3) fun r243=>(.ask (r243) (.ask ((decide (x0≤x2))) (.done (decide (x1≤x3))) (.done false)) (.done false))) (.done false)))
def qDZ:Nat→Int→Int→Int→Int→Option (Bool)
 |0,_,_,_,_=>none
 |n+1,x0,x1,x2,x3=>(qGq n x0 x1 x2 x3).run
abbrev qOP (n:Nat):List (Ent (Rn n)):= [en (qEc n)]
theorem qNZ:∀n,Ok (Rn n) qOO (qDZ n)
 |0=>ok0 fun _=>rfl
 |n+1=>stO (T:=qGq n) (by kernel_rfl) (qOP n) [] (fun _=>(by kernel_rfl)) fun _=>(by kernel_rfl)
def qIG:Sg:=⟨249,[(.agg [qI,qI,qI,qI,qS,qI,qI,qB,qB,qI,qI,qB,qB,qL])],[],⟨aB,[],[]⟩⟩
def qC4 (n:Nat) (x0 x1 x2 x3:Int) (x4:BA) (x5 x6:Int) (x7 x8:Bool) (x9 x10:Int) (x11 x12:Bool) (x13:RW):Tr (Bool):=(.ask ((x0 !=(2:Int))) (.ask ((x0 !=(3:Int))) (.done true) (.opt (qCN n x0 x1 x2 x3 x4 x5 x6 x7 x8 x9 x10 x11 x12 x13) fun r241=>(.opt (qDZ n r241.1 r241.2.1 r241.2.2.1 r241.2.2.2) fun r244=>(.done r244)))) (.opt (qCN n x0 x1 x2 x3 x4 x5 x6 x7 x8 x9 x10 x11 x12 x13) fun r245=>(.opt (qDZ n r245.1 r245.2.1 r245.2.2.1 r245.2.2.2) fun r246=>(.done r246))))
def q7:Nat→Int→Int→Int→Int→BA→Int→Int→Bool→Bool→Int→Int→Bool→Bool→RW→Option (Bool)
 |0,_,_,_,_,_,_,_,_,_,_,_,_,_,_=>none
 |n+1,x0,x1,x2,x3,x4,x5,x6,x7,x8,x9,x10,x11,x12,x13=>(qC4 n x0 x1 x2 x3 x4 x5 x6 x7 x8 x9 x10 x11 x12 x13).run
abbrev qIH (n:Nat):List (Ent (Rn n)):= [en (qKK n),en (qNZ n)]
theorem qHY:∀n,Ok (Rn n) qIG (q7 n)
 |0=>ok0 fun _=>rfl
 |n+1=>stO (T:=qC4 n) (by kernel_rfl) (qIH n) [] (fun _=>(by kernel_rfl)) fun _=>(by kernel_rfl)
def qJa:Sg:=⟨250,[(.agg [qI,qI,qI,qI,qS,qI,qI,qB,qB,qI,qI,qB,qB,qL])],[],⟨aB,[],[]⟩⟩
def qDW (n:Nat) (x0 x1 x2 x3:Int) (x4:BA) (x5 x6:Int) (x7 x8:Bool) (x9 x10:Int) (x11 x12:Bool) (x13:RW):Tr (Bool):=(.ask ((x0==(4:Int))) (.ask ((x1==(0:Int))) (.done ((x13.length:Int)==(1:Int))) (.done false)) (.ask ((x0==(5:Int))) (.opt (qAb n x1 (1:Int) (11:Int)) fun r248=>(.ask (r248) (.done ((x13.length:Int)==(2:Int))) (.done false))) (.ask ((x0==(6:Int))) (.opt (qAb n x1 (1:Int) (10:Int)) fun r249=>(.ask ((!r249)) (.done false) (.ask ((x1==(5:Int))) (.opt (qAb n (x13.length:Int) (2:Int) (3:Int)) fun r250=>(.done r250)) (.ask ((decide (x1≥(8:Int)))) (.done ((x13.length:Int)==(1:Int))) (.opt (qAb n (x13.length:Int) (1:Int) (10:Int)) fun r251=>(.done r251)))))) (.ask ((x1==(0:Int))) (.done ((x13.length:Int)==(0:Int))) (.done false)))))
def qAG:Nat→Int→Int→Int→Int→BA→Int→Int→Bool→Bool→Int→Int→Bool→Bool→RW→Option (Bool)
 |0,_,_,_,_,_,_,_,_,_,_,_,_,_,_=>none
 |n+1,x0,x1,x2,x3,x4,x5,x6,x7,x8,x9,x10,x11,x12,x13=>(qDW n x0 x1 x2 x3 x4 x5 x6 x7 x8 x9 x10 x11 x12 x13).run
abbrev qJb (n:Nat):List (Ent (Rn n)):= [en (qC9 n)]
theorem qIk:∀n,Ok (Rn n) qJa (qAG n)
 |0=>ok0 fun _=>rfl
 |n+1=>stO (T:=qDW n) (by kernel_rfl) (qJb n) [] (fun _=>(by kernel_rfl)) fun _=>(by kernel_rfl)
def qKL:Sg:=⟨224,[(.agg [qI,qI,qI,qI,qS,qI,qI,qB,qB,qI,qI,qB,qB,qL])],[],⟨aB,[],[]⟩⟩
def qDk (n:Nat) (x0 x1 x2 x3:Int) (x4:BA) (x5 x6:Int) (x7 x8:Bool) (x9 x10:Int) (x11 x12:Bool) (x13:RW):Tr (Bool):=(.ask ((x0==(1:Int))) (.opt (qAK n x2 x3 x4) fun r240=>(.ask ((!r240)) (.done false) (.ask ((x2==(0:Int))) (.done false) (.ask ((x2==(1:Int))) (.ask ((decide (x3<(0:Int)))) (.done false) (.opt (q7 n x0 x1 x2 x3 x4 x5 x6 x7 x8 x9 x10 x11 x12 x13) fun r247=>(.ask (r247) (.opt (qAG n x0 x1 x2 x3 x4 x5 x6 x7 x8 x9 x10 x11 x12 x13) fun r252=>(.ask (r252) (.ask (((x2==x2)&&((x3==x3)&&((x4.toList==x4.toList)&&true)))) (.ask ((((0:Int)==x5)&&(((0:Int)==x6)&&((false==x7)&&((false==x8)&&true))))) (.done (((0:Int)==x9)&&(((0:Int)==x10)&&((false==x11)&&((false==x12)&&true))))) (.done false)) (.done false)) (.done false))) (.done false)))) (.opt (q7 n x0 x1 x2 x3 x4 x5 x6 x7 x8 x9 x10 x11 x12 x13) fun r253=>(.ask (r253) (.opt (qAG n x0 x1 x2 x3 x4 x5 x6 x7 x8 x9 x10 x11 x12 x13) fun r254=>(.ask (r254) (.ask (((x2==x2)&&((x3==x3)&&((x4.toList==x4.toList)&&true)))) (.ask ((((0:Int)==x5)&&(((0:Int)==x6)&&((false==x7)&&((false==x8)&&true))))) (.done (((0:Int)==x9)&&(((0:Int)==x10)&&((false==x11)&&((false==x12)&&true))))) (.done false)) (.done false)) (.done false))) (.done false))))))) (.ask ((x0==(2:Int))) (.opt (q7 n x0 x1 x2 x3 x4 x5 x6 x7 x8 x9 x10 x11 x12 x13) fun r255=>(.ask (r255) (.opt (qAG n x0 x1 x2 x3 x4 x5 x6 x7 x8 x9 x10 x11 x12 x13) fun r256=>(.ask (r256) (.ask ((((0:Int)==x2)&&(((0:Int)==x3)&&(((⟨#[]⟩:BA).toList==x4.toList)&&true)))) (.ask (((x5==x5)&&((x6==x6)&&((x7==x7)&&((x8==x8)&&true))))) (.done (((0:Int)==x9)&&(((0:Int)==x10)&&((false==x11)&&((false==x12)&&true))))) (.done false)) (.done false)) (.done false))) (.done false))) (.ask ((x0==(3:Int))) (.opt (q7 n x0 x1 x2 x3 x4 x5 x6 x7 x8 x9 x10 x11 x12 x13) fun r257=>(.ask (r257) (.opt (qAG n x0 x1 x2 x3 x4 x5 x6 x7 x8 x9 x10 x11 x12 x13) fun r258=>(.ask (r258) (.ask ((((0:Int)==x2)&&(((0:Int)==x3)&&(((⟨#[]⟩:BA).toList==x4.toList)&&true)))) (.ask (((x5==x5)&&((x6==x6)&&((x7==x7)&&((x8==x8)&&true))))) (.done ((x9==x9)&&((x10==x10)&&((x11==x11)&&((x12==x12)&&true))))) (.done false)) (.done false)) (.done false))) (.done false))) (.ask ((x0==(4:Int))) (.opt (q7 n x0 x1 x2 x3 x4 x5 x6 x7 x8 x9 x10 x11 x12 x13) fun r259=>(.ask (r259) (.opt (qAG n x0 x1 x2 x3 x4 x5 x6 x7 x8 x9 x10 x11 x12 x13) fun r260=>(.ask (r260) (.ask ((((0:Int)==x2)&&(((0:Int)==x3)&&(((⟨#[]⟩:BA).toList==x4.toList)&&true)))) (.ask ((((0:Int)==x5)&&(((0:Int)==x6)&&((false==x7)&&((false==x8)&&true))))) (.done (((0:Int)==x9)&&(((0:Int)==x10)&&((false==x11)&&((false==x12)&&true))))) (.done false)) (.done false)) (.done false))) (.done false))) (.ask ((x0==(5:Int))) (.opt (q7 n x0 x1 x2 x3 x4 x5 x6 x7 x8 x9 x10 x11 x12 x13) fun r261=>(.ask (r261) (.opt (qAG n x0 x1 x2 x3 x4 x5 x6 x7 x8 x9 x10 x11 x12 x13) fun r262=>(.ask (r262) (.ask ((((0:Int)==x2)&&(((0:Int)==x3)&&(((⟨#[]⟩:BA).toList==x4.toList)&&true)))) (.ask ((((0:Int)==x5)&&(((0:Int)==x6)&&((false==x7)&&((false==x8)&&true))))) (.done (((0:Int)==x9)&&(((0:Int)==x10)&&((false==x11)&&((false==x12)&&true))))) (.done false)) (.done false)) (.done false))) (.done false))) (.ask ((x0==(6:Int))) (.opt (q7 n x0 x1 x2 x3 x4 x5 x6 x7 x8 x9 x10 x11 x12 x13) fun r263=>(.ask (r263) (.opt (qAG n x0 x1 x2 x3 x4 x5 x6 x7 x8 x9 x10 x11 x12 x13) fun r264=>(.ask (r264) (.ask ((((0:Int)==x2)&&(((0:Int)==x3)&&(((⟨#[]⟩:BA).toList==x4.toList)&&true)))) (.ask ((((0:Int)==x5)&&(((0:Int)==x6)&&((false==x7)&&((false==x8)&&true))))) (.done (((0:Int)==x9)&&(((0:Int)==x10)&&((false==x11)&&((false==x12)&&true))))) (.done false)) (.done false)) (.done false))) (.done false))) (.done false)))))))
def qCt:Nat→Int→Int→Int→Int→BA→Int→Int→Bool→Bool→Int→Int→Bool→Bool→RW→Option (Bool)
 |0,_,_,_,_,_,_,_,_,_,_,_,_,_,_=>none
 |n+1,x0,x1,x2,x3,x4,x5,x6,x7,x8,x9,x10,x11,x12,x13=>(qDk n x0 x1 x2 x3 x4 x5 x6 x7 x8 x9 x10 x11 x12 x13).run
abbrev qKM (n:Nat):List (Ent (Rn n)):= [en (qEx n),en (qHY n),en (qIk n)]
theorem qJc:∀n,Ok (Rn n) qKL (qCt n)
 |0=>ok0 fun _=>rfl
 |n+1=>stO (T:=qDk n) (by kernel_rfl) (qKM n) [] (fun _=>(by kernel_rfl)) fun _=>(by kernel_rfl)
def qIl:Sg:=⟨198,[aL,aI,aI],[],⟨aI,[],[]⟩⟩
def qAL (rec:RW→Int→Int→Option (Int)) (n:Nat) (v:RW×Int×Int×Int×Int):Tr ((RW×Int×Int×Int×Int)⊕((Int)⊕(Int))):=(.ask ((decide (v.2.2.2.2≥(0:Int)))) (.ask (decide (0≤v.2.1∧v.2.1<v.1.length)) (.opt (v.1[(v.2.1).toNat]?) fun e268=>(.ask (decide (e268.length=14)) (.opt (zAf e268 13) fun y269=>(.ask (decide (0≤v.2.2.2.2∧v.2.2.2.2<y269.length)) (.opt (y269[(v.2.2.2.2).toNat]?) fun e270=>(.ask (decide (e270.length=1)) (.opt (zD .i64 e270 0) fun y271=>(.ask ((y271 !=(IntKind.i64.wrap (v.2.2.2.1-(1:Int))))) (.done (.inr (.inl ((-1:Int))))) (.ask ((decide (y271<(0:Int)))) (.done (.inr (.inl ((-1:Int))))) (.ask (decide (0≤y271∧y271<v.1.length)) (.opt (v.1[(y271).toNat]?) fun e272=>(.ask (decide (e272.length=14)) (.opt (zD .i64 e272 0) fun y273=>(.ask ((y273==(3:Int))) (.ask (decide (0≤v.2.1∧v.2.1<v.1.length)) (.opt (v.1[(v.2.1).toNat]?) fun e274=>(.ask (decide (e274.length=14)) (.opt (zD .i64 e274 0) fun y275=>(.ask ((y275 !=(6:Int))) (.done (.inr (.inl ((-1:Int))))) (.opt (rec v.1 y271 (IntKind.i64.wrap (v.2.2.1+(1:Int)))) fun r276=>(.ask ((decide (r276<(0:Int)))) (.done (.inr (.inl ((-1:Int))))) (.done (.inl (v.1,v.2.1,v.2.2.1,r276,(IntKind.i64.wrap (v.2.2.2.2-(1:Int)))))))))) .fail)) .fail) (.opt (rec v.1 y271 (IntKind.i64.wrap (v.2.2.1+(1:Int)))) fun r277=>(.ask ((decide (r277<(0:Int)))) (.done (.inr (.inl ((-1:Int))))) (.done (.inl (v.1,v.2.1,v.2.2.1,r277,(IntKind.i64.wrap (v.2.2.2.2-(1:Int)))))))))) .fail)) .fail)))) .fail)) .fail)) .fail)) .fail) (.done (.inr (.inr (v.2.2.2.1)))))
def qEj (rec:RW→Int→Int→Option (Int)) (n:Nat) (x0:RW) (x1 x2:Int):Tr (Int):=(.ask ((decide (x1<(0:Int)))) (.done (-1:Int)) (.ask ((decide (x2≥(12:Int)))) (.done (-1:Int)) (.ask (decide (0≤x1∧x1<x0.length)) (.opt (x0[(x1).toNat]?) fun e225=>(.ask (decide (e225.length=14)) (.opt (zD .i64 e225 0) fun y226=>(.opt (zD .i64 e225 1) fun y227=>(.opt (zD .i64 e225 2) fun y228=>(.opt (zD .i64 e225 3) fun y229=>(.opt (zX e225 4) fun y230=>(.opt (zD .i64 e225 5) fun y231=>(.opt (zD .i64 e225 6) fun y232=>(.opt (zAC e225 7) fun y233=>(.opt (zAC e225 8) fun y234=>(.opt (zD .i64 e225 9) fun y235=>(.opt (zD .i64 e225 10) fun y236=>(.opt (zAC e225 11) fun y237=>(.opt (zAC e225 12) fun y238=>(.opt (zAf e225 13) fun y239=>(.opt (qCt n y226 y227 y228 y229 y230 y231 y232 y233 y234 y235 y236 y237 y238 y239) fun r265=>(.ask ((!r265)) (.done (-1:Int)) (.ask (decide (0≤x1∧x1<x0.length)) (.opt (x0[(x1).toNat]?) fun e266=>(.ask (decide (e266.length=14)) (.opt (zAf e266 13) fun y267=>(.opt (zC (qAL rec n) n (x0,x1,x2,x1,(IntKind.i64.wrap ((y267.length:Int)-(1:Int))))) fun r278=>(.alt r278 (fun r279=>(.done r279)) (fun r280=>(.done r280))))) .fail)) .fail))))))))))))))))) .fail)) .fail)))
def qAd:Nat→RW→Int→Int→Option (Int)
 |0,_,_,_=>none
 |n+1,x0,x1,x2=>(qEj (qAd n) n x0 x1 x2).run
abbrev qL8 (n:Nat) (ih:Ok (Rn n) qIl (qAd n)):List (Ent (Rn n)):= [en (qJc n),en ih]
def qNa (n:Nat) (ih:Ok (Rn n) qIl (qAd n)):LEnt (KB 198) (Rn n) n:=lok (zR 198) 61 ⟨⟨[(0,aL),(1,aI),(2,aI),(7,aI),(8,aI)],[],[]⟩,[(.ret,⟨[(6,aI)],[],[]⟩),(.exit 0,⟨[(7,aI)],[],[]⟩)]⟩ (qAL (qAd n) n) (qL8 n ih) [] fun _=>(by kernel_rfl)
theorem qHZ:∀n,Ok (Rn n) qIl (qAd n)
 |0=>ok0 fun _=>rfl
 |n+1=>stO (T:=qEj (qAd n) n) (by kernel_rfl) (qL8 n (qHZ n)) [qNa n (qHZ n)] (fun _=>(by kernel_rfl)) fun _=>(by kernel_rfl)
def qLg:Sg:=⟨161,[aL],[],⟨aB,[],[]⟩⟩
def qCn (n:Nat) (x0:RW):Tr (Bool):=(.opt (qAb n (x0.length:Int) (1:Int) (60:Int)) fun r222=>(.ask (r222) (.ask (decide (0≤(IntKind.i64.wrap ((x0.length:Int)-(1:Int)))∧(IntKind.i64.wrap ((x0.length:Int)-(1:Int)))<x0.length)) (.opt (x0[((IntKind.i64.wrap ((x0.length:Int)-(1:Int)))).toNat]?) fun e223=>(.ask (decide (e223.length=14)) (.opt (zD .i64 e223 0) fun y224=>(.ask ((y224 !=(3:Int))) (.opt (qAd n x0 (IntKind.i64.wrap ((x0.length:Int)-(1:Int))) (0:Int)) fun r281=>(.done (r281==(0:Int)))) (.done false))) .fail)) .fail) (.done false)))
def qBb:Nat→RW→Option (Bool)
 |0,_=>none
 |n+1,x0=>(qCn n x0).run
abbrev qLh (n:Nat):List (Ent (Rn n)):= [en (qC9 n),en (qHZ n)]
theorem qGN:∀n,Ok (Rn n) qLg (qBb n)
 |0=>ok0 fun _=>rfl
 |n+1=>stO (T:=qCn n) (by kernel_rfl) (qLh n) [] (fun _=>(by kernel_rfl)) fun _=>(by kernel_rfl)
def qKN:Sg:=⟨119,[aS],[],⟨(.tup [(false,[qL]),(false,[qB])]),[],[]⟩⟩
def qFs (n:Nat) (x0:BA):Tr (RW×Bool):=(.opt (qCV n x0 (200:Int)) fun r81=>(.ask ((!r81)) (.ask (decide (0=([]:RW).length)) (.done (([]:RW),false)) .fail) (.opt (qCM n (1:Int) (0:Int) x0 (0:Nat) false ([]:RW)) fun r220=>(.opt (qAo n r220.2.1 r220.2.2.1 r220.2.2.2.1 r220.2.2.2.2) fun r221=>(.ask (r221.2.2.1) (.ask (decide (0=([]:RW).length)) (.done (([]:RW),false)) .fail) (.ask ((!(r221.1.toList==(⟨#[]⟩:BA).toList))) (.ask (decide (0=([]:RW).length)) (.done (([]:RW),false)) .fail) (.ask (decide (r221.2.1=r221.2.2.2.length)) (.opt (qBb n r221.2.2.2) fun r282=>(.ask (zAT (⟨(.c (.p (.b r282))),[],[]⟩:Res)) (.ask ((!r282)) (.ask (decide (0=([]:RW).length)) (.done (([]:RW),false)) .fail) (.ask (decide (r221.2.1=r221.2.2.2.length)) (.done (r221.2.2.2,true)) .fail)) .fail)) .fail)))))))
def qDl:Nat→BA→Option (RW×Bool)
 |0,_=>none
 |n+1,x0=>(qFs n x0).run
abbrev qKO (n:Nat):List (Ent (Rn n)):= [en (qFf n),en (qIF n),en (qB5 n),en (qGN n)]
theorem qJd:∀n,Ok (Rn n) qKN (qDl n)
 |0=>ok0 fun _=>rfl
 |n+1=>stO (T:=qFs n) (by kernel_rfl) (qKO n) [] (fun _=>(by kernel_rfl)) fun _=>(by kernel_rfl)
def qEk:Sg:=⟨251,[aS,aS,aS],[],⟨aS,[],[]⟩⟩
def qDE:Nat→BA→BA→BA→Option ((BA))
 |0,_,_,_=>none
 |n+1,x0,x1,x2=>zY x0 x1 x2
theorem qII:∀n,Ok (Rn n) qEk (qDE n)
 |0=>ok0 fun _=>rfl
 |n+1=>stL (by kernel_rfl) (fun a r e=>congrArg (Option.map fun r=>(qEk.Of r).v) e) rfl rfl rfl
def qIm:Sg:=⟨252,[aL,aS],[],⟨aS,[],[]⟩⟩
def qFt:Nat→RW→BA→Option ((BA))
 |0,_,_=>none
 |n+1,x0,x1=>zAV x0 x1
theorem qMd:∀n,Ok (Rn n) qIm (qFt n)
 |0=>ok0 fun _=>rfl
 |n+1=>stL (by kernel_rfl) (fun a r e=>congrArg (Option.map fun r=>(qIm.Of r).v) e) rfl rfl rfl
def qDm:Sg:=⟨225,[aL,aI,aI],[],⟨aS,[],[]⟩⟩
def qBL (rec:RW→Int→Int→Option (BA)) (n:Nat) (v:RW×Nat×RW×Int×Int×Int×Int×Int×Int×BA×Int×Int×Bool×Bool×Int×Int×Bool×Bool×RW×RW):Tr ((RW×Nat×RW×Int×Int×Int×Int×Int×Int×BA×Int×Int×Bool×Bool×Int×Int×Bool×Bool×RW×RW)⊕((Nat×Int×Int×Int×Int×BA×Int×Int×Bool×Bool×Int×Int×Bool×Bool×RW×RW))):=(.ask ((decide (v.2.2.2.2.1<v.2.2.2.1))) (.ask (decide (0≤v.2.2.2.2.1∧v.2.2.2.2.1<v.2.2.1.length)) (.opt (v.2.2.1[(v.2.2.2.2.1).toNat]?) fun e316=>(.ask (decide (e316.length=1)) (.opt (zD .i64 e316 0) fun y317=>(.opt (rec v.1 y317 (1:Int)) fun r318=>(.ask (decide (1=([[(.s r318)]]:RW).length)) (.ask (decide (v.2.1=v.2.2.2.2.2.2.2.2.2.2.2.2.2.2.2.2.2.2.2.length∧0<1∧0<16∧(v.2.1+([[(.s r318)]]:RW).length)*16≤140737488355328∧([[(.s r318)]]:RW).all (fun e=>e.length==1)=true)) (.done (.inl (v.1,(v.2.1+1),v.2.2.1,v.2.2.2.1,(IntKind.i64.wrap (v.2.2.2.2.1+(1:Int))),v.2.2.2.2.2.1,v.2.2.2.2.2.2.1,v.2.2.2.2.2.2.2.1,v.2.2.2.2.2.2.2.2.1,v.2.2.2.2.2.2.2.2.2.1,v.2.2.2.2.2.2.2.2.2.2.1,v.2.2.2.2.2.2.2.2.2.2.2.1,v.2.2.2.2.2.2.2.2.2.2.2.2.1,v.2.2.2.2.2.2.2.2.2.2.2.2.2.1,v.2.2.2.2.2.2.2.2.2.2.2.2.2.2.1,v.2.2.2.2.2.2.2.2.2.2.2.2.2.2.2.1,v.2.2.2.2.2.2.2.2.2.2.2.2.2.2.2.2.1,v.2.2.2.2.2.2.2.2.2.2.2.2.2.2.2.2.2.1,v.2.2.2.2.2.2.2.2.2.2.2.2.2.2.2.2.2.2.1,(v.2.2.2.2.2.2.2.2.2.2.2.2.2.2.2.2.2.2.2++([[(.s r318)]]:RW))))) .fail) .fail))) .fail)) .fail) (.done (.inr ((v.2.1,v.2.2.2.2.2.1,v.2.2.2.2.2.2.1,v.2.2.2.2.2.2.2.1,v.2.2.2.2.2.2.2.2.1,v.2.2.2.2.2.2.2.2.2.1,v.2.2.2.2.2.2.2.2.2.2.1,v.2.2.2.2.2.2.2.2.2.2.2.1,v.2.2.2.2.2.2.2.2.2.2.2.2.1,v.2.2.2.2.2.2.2.2.2.2.2.2.2.1,v.2.2.2.2.2.2.2.2.2.2.2.2.2.2.1,v.2.2.2.2.2.2.2.2.2.2.2.2.2.2.2.1,v.2.2.2.2.2.2.2.2.2.2.2.2.2.2.2.2.1,v.2.2.2.2.2.2.2.2.2.2.2.2.2.2.2.2.2.1,v.2.2.2.2.2.2.2.2.2.2.2.2.2.2.2.2.2.2.1,v.2.2.2.2.2.2.2.2.2.2.2.2.2.2.2.2.2.2.2)))))
def qAf (rec:RW→Int→Int→Option (BA)) (n:Nat) (x0:RW) (x1 x2:Int):Tr (BA):=(.ask (decide (0≤x1∧x1<x0.length)) (.opt (x0[(x1).toNat]?) fun e285=>(.ask (decide (e285.length=14)) (.opt (zD .i64 e285 0) fun y286=>(.opt (zD .i64 e285 1) fun y287=>(.opt (zD .i64 e285 2) fun y288=>(.opt (zD .i64 e285 3) fun y289=>(.opt (zX e285 4) fun y290=>(.opt (zD .i64 e285 5) fun y291=>(.opt (zD .i64 e285 6) fun y292=>(.opt (zAC e285 7) fun y293=>(.opt (zAC e285 8) fun y294=>(.opt (zD .i64 e285 9) fun y295=>(.opt (zD .i64 e285 10) fun y296=>(.opt (zAC e285 11) fun y297=>(.opt (zAC e285 12) fun y298=>(.opt (zAf e285 13) fun y299=>(.ask ((y286==(1:Int))) (.ask ((y288==(2:Int))) (.opt (qDE n y290 (⟨#[34]⟩:BA) (⟨#[34,34]⟩:BA)) fun r300=>(.ask (decide ((⟨#[34]⟩:BA).size+r300.size≤9223372036854775807)) (.ask (decide (((⟨#[34]⟩:BA)++r300).size+(⟨#[34]⟩:BA).size≤9223372036854775807)) (.done (((⟨#[34]⟩:BA)++r300)++(⟨#[34]⟩:BA))) .fail) .fail)) (.opt (qn n y288 y289 y290) fun r301=>(.done r301))) (.ask ((y286==(2:Int))) (.opt (qAx n y291 y292 y293 y294) fun r302=>(.done r302)) (.ask ((y286==(3:Int))) (.opt (qAx n y291 y292 y293 y294) fun r303=>(.ask (decide (r303.size+(⟨#[58]⟩:BA).size≤9223372036854775807)) (.opt (qAx n y295 y296 y297 y298) fun r304=>(.ask (decide ((r303++(⟨#[58]⟩:BA)).size+r304.size≤9223372036854775807)) (.done ((r303++(⟨#[58]⟩:BA))++r304)) .fail)) .fail)) (.ask ((y286==(4:Int))) (.ask (decide (0≤(0:Int)∧(0:Int)<y299.length)) (.opt (y299[((0:Int)).toNat]?) fun e305=>(.ask (decide (e305.length=1)) (.opt (zD .i64 e305 0) fun y306=>(.opt (rec x0 y306 (5:Int)) fun r307=>(.ask (decide ((⟨#[45]⟩:BA).size+r307.size≤9223372036854775807)) (.done ((⟨#[45]⟩:BA)++r307)) .fail))) .fail)) .fail) (.ask ((y286==(5:Int))) (.opt (qDL n y287) fun r308=>(.ask (decide (0≤(0:Int)∧(0:Int)<y299.length)) (.opt (y299[((0:Int)).toNat]?) fun e309=>(.ask (decide (e309.length=1)) (.opt (zD .i64 e309 0) fun y310=>(.ask (decide (0≤(1:Int)∧(1:Int)<y299.length)) (.opt (y299[((1:Int)).toNat]?) fun e311=>(.ask (decide (e311.length=1)) (.opt (zD .i64 e311 0) fun y312=>(.opt (rec x0 y310 r308) fun r313=>(.opt (qBF n y287) fun r314=>(.ask (decide (r313.size+r314.size≤9223372036854775807)) (.opt (rec x0 y312 (IntKind.i64.wrap (r308+(1:Int)))) fun r315=>(.ask (decide ((r313++r314).size+r315.size≤9223372036854775807)) (.ask ((decide (r308<x2))) (.ask (decide ((⟨#[40]⟩:BA).size+((r313++r314)++r315).size≤9223372036854775807)) (.ask (decide (((⟨#[40]⟩:BA)++((r313++r314)++r315)).size+(⟨#[41]⟩:BA).size≤9223372036854775807)) (.done (((⟨#[40]⟩:BA)++((r313++r314)++r315))++(⟨#[41]⟩:BA))) .fail) .fail) (.done ((r313++r314)++r315))) .fail)) .fail)))) .fail)) .fail)) .fail)) .fail)) (.opt (zC (qBL rec n) n (x0,(0:Nat),y299,(y299.length:Int),(0:Int),y286,y287,y288,y289,y290,y291,y292,y293,y294,y295,y296,y297,y298,y299,([]:RW))) fun r319=>(.opt (qBw n r319.2.2.1) fun r320=>(.ask (decide (r320.size+(⟨#[40]⟩:BA).size≤9223372036854775807)) (.ask (decide (r319.1=r319.2.2.2.2.2.2.2.2.2.2.2.2.2.2.2.length)) (.opt (qFt n r319.2.2.2.2.2.2.2.2.2.2.2.2.2.2.2 (⟨#[44]⟩:BA)) fun r321=>(.ask (zAT (⟨(.c (.p (.s r321))),[],[]⟩:Res)) (.ask (decide ((r320++(⟨#[40]⟩:BA)).size+r321.size≤9223372036854775807)) (.ask (decide (((r320++(⟨#[40]⟩:BA))++r321).size+(⟨#[41]⟩:BA).size≤9223372036854775807)) (.done (((r320++(⟨#[40]⟩:BA))++r321)++(⟨#[41]⟩:BA))) .fail) .fail) .fail)) .fail) .fail)))))))))))))))))))))) .fail)) .fail)
def qY:Nat→RW→Int→Int→Option (BA)
 |0,_,_,_=>none
 |n+1,x0,x1,x2=>(qAf (qY n) n x0 x1 x2).run
abbrev qFu (n:Nat) (ih:Ok (Rn n) qDm (qY n)):List (Ent (Rn n)):= [en (qII n),en (qGJ n),en (qGL n),en ih,en (qJs n),en (qIj n),en (qIi n),en (qMd n)]
def qHa (n:Nat) (ih:Ok (Rn n) qDm (qY n)):LEnt (KB 225) (Rn n) n:=lok (zR 225) 125 ⟨⟨[(0,aL),(7,(.c (.ptr 0 448 0 0 0))),(10,(.c (.own 0 5760 0 0))),(92,aL),(93,aI),(94,aI)],[(448,⟨0,14,162,(.box [qI,qI,qI,qI,qS,qI,qI,qB,qB,qI,qI,qB,qB,qL])⟩),(5760,⟨0,1,9,(.row [])⟩)],[]⟩,[(.exit 1,⟨[(7,(.c (.ptr 0 448 0 0 0))),(10,(.c (.own 0 5760 0 0)))],[(448,⟨0,14,162,(.box [qI,qI,qI,qI,qS,qI,qI,qB,qB,qI,qI,qB,qB,qL])⟩),(5760,⟨0,1,9,(.row [])⟩)],[]⟩)]⟩ (qBL (qY n) n) (qFu n ih) [] fun _=>(by kernel_rfl)
theorem qDX:∀n,Ok (Rn n) qDm (qY n)
 |0=>ok0 fun _=>rfl
 |n+1=>stO (T:=qAf (qY n) n) (by kernel_rfl) (qFu n (qDX n)) [qHa n (qDX n)] (fun _=>(by kernel_rfl)) fun _=>(by kernel_rfl)
def qKP:Sg:=⟨199,[aL],[],⟨aS,[],[]⟩⟩
def qCu (n:Nat) (x0:RW):Tr (BA):=(.opt (qBb n x0) fun r284=>(.ask ((!r284)) (.done (⟨#[]⟩:BA)) (.opt (qY n x0 (IntKind.i64.wrap ((x0.length:Int)-(1:Int))) (1:Int)) fun r322=>(.ask ((decide ((r322.size:Int)>(200:Int)))) (.done (⟨#[]⟩:BA)) (.done r322)))))
def qBc:Nat→RW→Option (BA)
 |0,_=>none
 |n+1,x0=>(qCu n x0).run
abbrev qKQ (n:Nat):List (Ent (Rn n)):= [en (qGN n),en (qDX n)]
theorem qJe:∀n,Ok (Rn n) qKP (qBc n)
 |0=>ok0 fun _=>rfl
 |n+1=>stO (T:=qCu n) (by kernel_rfl) (qKQ n) [] (fun _=>(by kernel_rfl)) fun _=>(by kernel_rfl)
def qMe:Sg:=⟨167,[aL],[],⟨(.tup [(false,[qS]),(false,[qB])]),[],[]⟩⟩
def qHy (n:Nat) (x0:RW):Tr (BA×Bool):=(.opt (qBc n x0) fun r323=>(.ask (decide ((⟨#[61]⟩:BA).size+r323.size≤9223372036854775807)) (.ask ((!(r323.toList==(⟨#[]⟩:BA).toList))) (.done (((⟨#[61]⟩:BA)++r323),(decide ((r323.size:Int)<(200:Int))))) (.done (((⟨#[61]⟩:BA)++r323),false))) .fail))
def qEz:Nat→RW→Option (BA×Bool)
 |0,_=>none
 |n+1,x0=>(qHy n x0).run
abbrev qMf (n:Nat):List (Ent (Rn n)):= [en (qJe n)]
theorem qLi:∀n,Ok (Rn n) qMe (qEz n)
 |0=>ok0 fun _=>rfl
 |n+1=>stO (T:=qHy n) (by kernel_rfl) (qMf n) [] (fun _=>(by kernel_rfl)) fun _=>(by kernel_rfl)
def qDu:Sg:=⟨231,[aS,aS],[],⟨aS,[],[]⟩⟩
def qCA (n:Nat) (x0 x1:BA):Tr (BA):=(.opt (qy n x0 x1) fun r328=>(.ask (r328) (.ask (decide (0≤(x1.size:Int)∧(x1.size:Int)≤(x0.size:Int)∧(x0.size:Int)≤x0.size)) (.done (x0.extract ((x1.size:Int)).toNat ((x0.size:Int)).toNat)) .fail) (.done x0)))
def qBD:Nat→BA→BA→Option (BA)
 |0,_,_=>none
 |n+1,x0,x1=>(qCA n x0 x1).run
abbrev qDv (n:Nat):List (Ent (Rn n)):= [en (qB9 n)]
theorem qDn:∀n,Ok (Rn n) qDu (qBD n)
 |0=>ok0 fun _=>rfl
 |n+1=>stO (T:=qCA n) (by kernel_rfl) (qDv n) [] (fun _=>(by kernel_rfl)) fun _=>(by kernel_rfl)
def qIn:Sg:=⟨202,[aS,aS],[],⟨aS,[],[]⟩⟩
def qEl (n:Nat) (x0 x1:BA):Tr (BA):=(.opt (qBD n x0 x1) fun r329=>(.done r329))
def qDF:Nat→BA→BA→Option (BA)
 |0,_,_=>none
 |n+1,x0,x1=>(qEl n x0 x1).run
abbrev qIo (n:Nat):List (Ent (Rn n)):= [en (qDn n)]
theorem qIJ:∀n,Ok (Rn n) qIn (qDF n)
 |0=>ok0 fun _=>rfl
 |n+1=>stO (T:=qEl n) (by kernel_rfl) (qIo n) [] (fun _=>(by kernel_rfl)) fun _=>(by kernel_rfl)
def qIp:Sg:=⟨109,[aS,aS],[],⟨aS,[],[]⟩⟩
def qFv:Nat→BA→BA→Option ((BA))
 |0,_,_=>none
 |n+1,x0,x1=>zAE x0 x1
theorem qMg:∀n,Ok (Rn n) qIp (qFv n)
 |0=>ok0 fun _=>rfl
 |n+1=>stL (by kernel_rfl) (fun a r e=>congrArg (Option.map fun r=>(qIp.Of r).v) e) rfl rfl rfl
def qMh:Sg:=⟨169,[aS],[],⟨aB,[],[]⟩⟩
def qHz (n:Nat) (x0:BA):Tr (Bool):=(.opt (qDF n x0 (⟨#[45]⟩:BA)) fun r330=>(.ask ((!(r330.toList==(⟨#[]⟩:BA).toList))) (.opt (qFv n r330 (⟨#[48,49,50,51,52,53,54,55,56,57]⟩:BA)) fun r331=>(.done (r331.toList==(⟨#[]⟩:BA).toList))) (.done false)))
def qDf:Nat→BA→Option (Bool)
 |0,_=>none
 |n+1,x0=>(qHz n x0).run
abbrev qMi (n:Nat):List (Ent (Rn n)):= [en (qIJ n),en (qMg n)]
theorem qLj:∀n,Ok (Rn n) qMh (qDf n)
 |0=>ok0 fun _=>rfl
 |n+1=>stO (T:=qHz n) (by kernel_rfl) (qMi n) [] (fun _=>(by kernel_rfl)) fun _=>(by kernel_rfl)
def qNb:Sg:=⟨133,[aS],[],⟨(.tup [(false,[qS]),(false,[qB])]),[],[]⟩⟩
def qIq (n:Nat) (x0:BA):Tr (BA×Bool):=(.opt (qCV n x0 (200:Int)) fun r79=>(.ask ((!r79)) (.done ((⟨#[]⟩:BA),(x0.toList==(⟨#[]⟩:BA).toList))) (.ask ((x0.toList==(⟨#[]⟩:BA).toList)) (.done ((⟨#[]⟩:BA),(x0.toList==(⟨#[]⟩:BA).toList))) (.opt (qAA n x0 (⟨#[61]⟩:BA)) fun r80=>(.ask (r80.2) (.opt (qDl n r80.1) fun r283=>(.opt (qEz n r283.1) fun r324=>(.ask ((!r283.2)) (.done ((⟨#[]⟩:BA),false)) (.ask ((!r324.2)) (.done ((⟨#[]⟩:BA),false)) (.done (r324.1,true)))))) (.opt (qAp n x0 (10:Int) (64:Int)) fun r325=>(.alt r325 (fun r326=>(.ask (true) (.opt (qDf n x0) fun r332=>(.ask (r332) (.opt (qCW n r326) fun r333=>(.opt (qAK n r333.1 r333.2.1 r333.2.2) fun r334=>(.ask (r334) (.opt (qA2 n r326) fun r335=>(.done (r335,true))) (.opt (qd n x0) fun r336=>(.ask (r336.2.2.2) (.done (x0,true)) (.ask (((x0.size:Int)==(200:Int))) (.done ((⟨#[]⟩:BA),false)) (.ask (decide ((⟨#[39]⟩:BA).size+x0.size≤9223372036854775807)) (.done (((⟨#[39]⟩:BA)++x0),true)) .fail))))))) (.opt (qd n x0) fun r337=>(.ask (r337.2.2.2) (.done (x0,true)) (.ask (((x0.size:Int)==(200:Int))) (.done ((⟨#[]⟩:BA),false)) (.ask (decide ((⟨#[39]⟩:BA).size+x0.size≤9223372036854775807)) (.done (((⟨#[39]⟩:BA)++x0),true)) .fail)))))) (.opt (qd n x0) fun r338=>(.ask (r338.2.2.2) (.done (x0,true)) (.ask (((x0.size:Int)==(200:Int))) (.done ((⟨#[]⟩:BA),false)) (.ask (decide ((⟨#[39]⟩:BA).size+x0.size≤9223372036854775807)) (.done (((⟨#[39]⟩:BA)++x0),true)) .fail)))))) (fun r327=>(.ask (false) (.opt (qDf n x0) fun r339=>(.ask (r339) (.opt (qCW n r327) fun r340=>(.opt (qAK n r340.1 r340.2.1 r340.2.2) fun r341=>(.ask (r341) (.opt (qA2 n r327) fun r342=>(.done (r342,true))) (.opt (qd n x0) fun r343=>(.ask (r343.2.2.2) (.done (x0,true)) (.ask (((x0.size:Int)==(200:Int))) (.done ((⟨#[]⟩:BA),false)) (.ask (decide ((⟨#[39]⟩:BA).size+x0.size≤9223372036854775807)) (.done (((⟨#[39]⟩:BA)++x0),true)) .fail))))))) (.opt (qd n x0) fun r344=>(.ask (r344.2.2.2) (.done (x0,true)) (.ask (((x0.size:Int)==(200:Int))) (.done ((⟨#[]⟩:BA),false)) (.ask (decide ((⟨#[39]⟩:BA).size+x0.size≤9223372036854775807)) (.done (((⟨#[39]⟩:BA)++x0),true)) .fail)))))) (.opt (qd n x0) fun r345=>(.ask (r345.2.2.2) (.done (x0,true)) (.ask (((x0.size:Int)==(200:Int))) (.done ((⟨#[]⟩:BA),false)) (.ask (decide ((⟨#[39]⟩:BA).size+x0.size≤9223372036854775807)) (.done (((⟨#[39]⟩:BA)++x0),true)) .fail)))))))))))))
def qFw:Nat→BA→Option (BA×Bool)
 |0,_=>none
 |n+1,x0=>(qIq n x0).run
abbrev qNc (n:Nat):List (Ent (Rn n)):= [en (qFf n),en (qCJ n),en (qJd n),en (qLi n),en2 (qDV n),en (qLj n),en (qIg n),en (qEx n),en (qEy n),en (qGK n)]
theorem qMj:∀n,Ok (Rn n) qNb (qFw n)
 |0=>ok0 fun _=>rfl
 |n+1=>stO (T:=qIq n) (by kernel_rfl) (qNc n) [] (fun _=>(by kernel_rfl)) fun _=>(by kernel_rfl)
def qMk:Sg:=⟨91,[aS],[],⟨aB,[],[]⟩⟩
def qH0 (n:Nat) (x0:BA):Tr (Bool):=(.opt (qFw n x0) fun r346=>(.ask (r346.2) (.ask ((!(x0.toList==(⟨#[]⟩:BA).toList))) (.done (r346.1.toList==x0.toList)) (.done false)) (.done false)))
def qCz:Nat→BA→Option (Bool)
 |0,_=>none
 |n+1,x0=>(qH0 n x0).run
abbrev qMl (n:Nat):List (Ent (Rn n)):= [en (qMj n)]
theorem qLk:∀n,Ok (Rn n) qMk (qCz n)
 |0=>ok0 fun _=>rfl
 |n+1=>stO (T:=qH0 n) (by kernel_rfl) (qMl n) [] (fun _=>(by kernel_rfl)) fun _=>(by kernel_rfl)
def qNd:Sg:=⟨47,[aL],[],⟨aB,[],[]⟩⟩
def qED (n:Nat) (v:RW×RW×Int×Int):Tr ((RW×RW×Int×Int)⊕((Bool)⊕(RW))):=(.ask ((decide (v.2.2.2<v.2.2.1))) (.ask (decide (0≤v.2.2.2∧v.2.2.2<v.2.1.length)) (.opt (v.2.1[(v.2.2.2).toNat]?) fun e53=>(.ask (decide (e53.length=3)) (.opt (zD .i64 e53 0) fun y54=>(.opt (zD .i64 e53 1) fun y55=>(.opt (zX e53 2) fun y56=>(.opt (qBf n y54 y55) fun r57=>(.ask ((!r57)) (.done (.inr (.inl (false)))) (.ask ((decide (v.2.2.2>(0:Int)))) (.ask (decide (0≤(IntKind.i64.wrap (v.2.2.2-(1:Int)))∧(IntKind.i64.wrap (v.2.2.2-(1:Int)))<v.1.length)) (.opt (v.1[((IntKind.i64.wrap (v.2.2.2-(1:Int)))).toNat]?) fun e58=>(.ask (decide (e58.length=3)) (.opt (zD .i64 e58 0) fun y59=>(.opt (zD .i64 e58 1) fun y60=>(.opt (qBX n y59 y60 y54 y55) fun r61=>(.ask ((decide (r61≥(0:Int)))) (.done (.inr (.inl (false)))) (.opt (qCz n y56) fun r62=>(.ask ((!r62)) (.done (.inr (.inl (false)))) (.done (.inl (v.1,v.2.1,v.2.2.1,(IntKind.i64.wrap (v.2.2.2+(1:Int)))))))))))) .fail)) .fail) (.opt (qCz n y56) fun r63=>(.ask ((!r63)) (.done (.inr (.inl (false)))) (.done (.inl (v.1,v.2.1,v.2.2.1,(IntKind.i64.wrap (v.2.2.2+(1:Int)))))))))))))) .fail)) .fail) (.done (.inr (.inr (v.1)))))
def qIr (n:Nat) (x0:RW):Tr (Bool):=(.opt (zC (qED n) n (x0,x0,(x0.length:Int),(0:Int))) fun r64=>(.alt r64 (fun r65=>(.done r65)) (fun r66=>(.done (decide ((r66.length:Int)≤(120:Int)))))))
def qFx:Nat→RW→Option (Bool)
 |0,_=>none
 |n+1,x0=>(qIr n x0).run
abbrev qIs (n:Nat):List (Ent (Rn n)):= [en (qEc n),en (qJV n),en (qLk n)]
def qKs (n:Nat):LEnt (KB 47) (Rn n) n:=lok (zR 47) 13 ⟨⟨[(0,aL),(5,aL),(6,aI),(7,aI)],[],[]⟩,[(.ret,⟨[(2,aB)],[],[]⟩),(.exit 0,⟨[(0,aL)],[],[]⟩)]⟩ (qED n) (qIs n) [] fun _=>(by kernel_rfl)
theorem qMm:∀n,Ok (Rn n) qNd (qFx n)
 |0=>ok0 fun _=>rfl
 |n+1=>stO (T:=qIr n) (by kernel_rfl) (qIs n) [qKs n] (fun _=>(by kernel_rfl)) fun _=>(by kernel_rfl)
def qMn:Sg:=⟨48,[aL,(.agg [qI,qI])],[],⟨aS,[],[]⟩⟩
def qDo (n:Nat) (v:RW×Int×Int×Int×Int):Tr ((RW×Int×Int×Int×Int)⊕((BA)⊕(Unit))):=(.ask ((decide (v.2.2.1<v.2.1))) (.ask (decide (0≤v.2.2.1∧v.2.2.1<v.1.length)) (.opt (v.1[(v.2.2.1).toNat]?) fun e68=>(.ask (decide (e68.length=3)) (.opt (zD .i64 e68 0) fun y69=>(.opt (zD .i64 e68 1) fun y70=>(.opt (zX e68 2) fun y71=>(.ask (((y69==v.2.2.2.1)&&((y70==v.2.2.2.2)&&true))) (.done (.inr (.inl (y71)))) (.done (.inl (v.1,v.2.1,(IntKind.i64.wrap (v.2.2.1+(1:Int))),v.2.2.2.1,v.2.2.2.2))))))) .fail)) .fail) (.done (.inr (.inr (())))))
def qH1 (n:Nat) (x0:RW) (x1 x2:Int):Tr (BA):=(.opt (zC (qDo n) n (x0,(x0.length:Int),(0:Int),x1,x2)) fun r72=>(.alt r72 (fun r73=>(.done r73)) (fun r74=>(.done (⟨#[]⟩:BA)))))
def qE0:Nat→RW→Int→Int→Option (BA)
 |0,_,_,_=>none
 |n+1,x0,x1,x2=>(qH1 n x0 x1 x2).run
def qKR (n:Nat):LEnt (KB 48) (Rn n) n:=lok (zR 48) 13 ⟨⟨[(3,(.c (.ptr 0 192 0 0 0))),(7,aL),(8,aI),(9,aI)],[(192,⟨0,2,29,(.box [qI,qI])⟩)],[]⟩,[(.ret,⟨[(4,aS)],[],[]⟩),(.exit 0,⟨[],[],[]⟩)]⟩ (qDo n) [] [] fun _=>(by kernel_rfl)
theorem qLl:∀n,Ok (Rn n) qMn (qE0 n)
 |0=>ok0 fun _=>rfl
 |n+1=>stO (T:=qH1 n) (by kernel_rfl) [] [qKR n] (fun _=>(by kernel_rfl)) fun _=>(by kernel_rfl)
def qMo:Sg:=⟨15,[aL,(.agg [qI,qI])],[],⟨aS,[],[]⟩⟩
def qE1 (n:Nat) (x0:RW) (x1 x2:Int):Tr (BA):=(.opt (qFx n x0) fun r67=>(.ask ((!r67)) (.done (⟨#[]⟩:BA)) (.opt (qE0 n x0 x1 x2) fun r75=>(.done r75))))
def qE2:Nat→RW→Int→Int→Option (BA)
 |0,_,_,_=>none
 |n+1,x0,x1,x2=>(qE1 n x0 x1 x2).run
abbrev qMp (n:Nat):List (Ent (Rn n)):= [en (qMm n),en (qLl n)]
theorem qLm:∀n,Ok (Rn n) qMo (qE2 n)
 |0=>ok0 fun _=>rfl
 |n+1=>stO (T:=qE1 n) (by kernel_rfl) (qMp n) [] (fun _=>(by kernel_rfl)) fun _=>(by kernel_rfl)
def qO9:Sg:=⟨79,[(.agg [qI,qI]),(.agg [qI,qI])],[],⟨aB,[],[]⟩⟩
def qHb (n:Nat) (x0 x1 x2 x3:Int):Tr (Bool):=(.ask ((x0 !=x2)) (.done false) (.ask ((x1 !=x3)) (.done false) (.done true)))
def qHc:Nat→Int→Int→Int→Int→Option (Bool)
 |0,_,_,_,_=>none
 |n+1,x0,x1,x2,x3=>(qHb n x0 x1 x2 x3).run
theorem qOQ:∀n,Ok (Rn n) qO9 (qHc n)
 |0=>ok0 fun _=>rfl
 |n+1=>stO (T:=qHb n) (by kernel_rfl) [] [] (fun _=>(by kernel_rfl)) fun _=>(by kernel_rfl)
def qOR:Sg:=⟨49,[(.agg [qI,qI,qS]),(.agg [qI,qI,qS])],[],⟨aB,[],[]⟩⟩
def qGr (n:Nat) (x0 x1:Int) (x2:BA) (x3 x4:Int) (x5:BA):Tr (Bool):=(.opt (qHc n x0 x1 x3 x4) fun r86=>(.ask ((!r86)) (.done false) (.ask ((!(x2.toList==x5.toList))) (.done false) (.done true))))
def qEd:Nat→Int→Int→BA→Int→Int→BA→Option (Bool)
 |0,_,_,_,_,_,_=>none
 |n+1,x0,x1,x2,x3,x4,x5=>(qGr n x0 x1 x2 x3 x4 x5).run
abbrev qOS (n:Nat):List (Ent (Rn n)):= [en (qOQ n)]
theorem qNe:∀n,Ok (Rn n) qOR (qEd n)
 |0=>ok0 fun _=>rfl
 |n+1=>stO (T:=qGr n) (by kernel_rfl) (qOS n) [] (fun _=>(by kernel_rfl)) fun _=>(by kernel_rfl)
def qNf:Sg:=⟨16,[aL,aL],[],⟨aB,[],[]⟩⟩
def qCO (n:Nat) (v:RW×RW×Int):Tr ((RW×RW×Int)⊕((Bool)⊕(Unit))):=(.ask ((decide (v.2.2<(v.1.length:Int)))) (.ask (decide (0≤v.2.2∧v.2.2<v.1.length)) (.opt (v.1[(v.2.2).toNat]?) fun e78=>(.ask (decide (e78.length=3)) (.opt (zD .i64 e78 0) fun y79=>(.opt (zD .i64 e78 1) fun y80=>(.opt (zX e78 2) fun y81=>(.ask (decide (0≤v.2.2∧v.2.2<v.2.1.length)) (.opt (v.2.1[(v.2.2).toNat]?) fun e82=>(.ask (decide (e82.length=3)) (.opt (zD .i64 e82 0) fun y83=>(.opt (zD .i64 e82 1) fun y84=>(.opt (zX e82 2) fun y85=>(.opt (qEd n y79 y80 y81 y83 y84 y85) fun r86=>(.ask ((!r86)) (.done (.inr (.inl (false)))) (.done (.inl (v.1,v.2.1,(IntKind.i64.wrap (v.2.2+(1:Int))))))))))) .fail)) .fail)))) .fail)) .fail) (.done (.inr (.inr (())))))
def qFy (n:Nat) (x0 x1:RW):Tr (Bool):=(.ask (((x0.length:Int) !=(x1.length:Int))) (.done false) (.opt (zC (qCO n) n (x0,x1,(0:Int))) fun r87=>(.alt r87 (fun r88=>(.done r88)) (fun r89=>(.done true)))))
def qEE:Nat→RW→RW→Option (Bool)
 |0,_,_=>none
 |n+1,x0,x1=>(qFy n x0 x1).run
abbrev qIt (n:Nat):List (Ent (Rn n)):= [en (qNe n)]
def qKt (n:Nat):LEnt (KB 16) (Rn n) n:=lok (zR 16) 29 ⟨⟨[(0,aL),(1,aL),(5,aI)],[],[]⟩,[(.ret,⟨[(4,aB)],[],[]⟩),(.exit 0,⟨[],[],[]⟩)]⟩ (qCO n) (qIt n) [] fun _=>(by kernel_rfl)
theorem qMq:∀n,Ok (Rn n) qNf (qEE n)
 |0=>ok0 fun _=>rfl
 |n+1=>stO (T:=qFy n) (by kernel_rfl) (qIt n) [qKt n] (fun _=>(by kernel_rfl)) fun _=>(by kernel_rfl)
def qHd:Sg:=⟨3,[aL,(.agg [qI,qI])],[],⟨aB,[],[]⟩⟩
def qCv (n:Nat) (x0:RW) (x1 x2:Int):Tr (Bool):=(.opt (qDw n x0 (1048576:Int)) fun r9=>(.ask ((decide (r9<(0:Int)))) (.done true) (.opt (qCe n x0) fun r17=>(.opt (qCp n x1 x2) fun r18=>(.ask (decide (r17.1=r17.2.length)) (.opt (qEw n r17.2 r18.1 r18.2) fun r50=>(.ask (zAT (⟨(.c (.p (.s r50))),[],[]⟩:Res)) (.opt (qCe n x0) fun r51=>(.opt (qCp n x1 x2) fun r52=>(.ask (decide (r51.1=r51.2.length)) (.opt (qE2 n r51.2 r52.1 r52.2) fun r76=>(.ask (zAT (⟨(.c (.p (.s r76))),[],[]⟩:Res)) (.ask ((!(r76.toList==r50.toList))) (.done false) (.opt (qCe n x0) fun r77=>(.ask (decide (r51.1=r51.2.length)) (.ask (decide (r77.1=r77.2.length)) (.opt (qEE n r51.2 r77.2) fun r90=>(.ask (zAT (⟨(.c (.p (.b r90))),[],[]⟩:Res)) (.ask ((!r90)) (.done false) (.done true)) .fail)) .fail) .fail))) .fail)) .fail))) .fail)) .fail)))))
def qEF:Nat→RW→Int→Int→Option (Bool)
 |0,_,_,_=>none
 |n+1,x0,x1,x2=>(qCv n x0 x1 x2).run
abbrev qHe (n:Nat):List (Ent (Rn n)):= [en (qMG n),en (qMH n),en (qJm n),en (qLW n),en (qLm n),en (qMq n)]
theorem qHA:∀n,Ok (Rn n) qHd (qEF n)
 |0=>ok0 fun _=>rfl
 |n+1=>stO (T:=qCv n) (by kernel_rfl) (qHe n) [] (fun _=>(by kernel_rfl)) fun _=>(by kernel_rfl)
end
end Go.Proofs.YtkkkfjgagjdcoaaGreatDoor.KFnExactSourceAt

