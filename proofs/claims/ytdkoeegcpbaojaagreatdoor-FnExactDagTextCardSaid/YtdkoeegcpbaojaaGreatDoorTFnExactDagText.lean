import Derived.Test.YtdkoeegcpbaojaaGreatDoorKFnExactDagText
namespace Go.Proofs.YtdkoeegcpbaojaaGreatDoor.KFnExactDagText
open Go.Eng
set_option linter.unusedVariables false
set_option maxRecDepth 100000
noncomputable section
abbrev RW:=List (List PV)
abbrev BA:=ByteArray
def qPN:Sg:=⟨226,[aL,aI],[],⟨aI,[],[]⟩⟩
def qGN (n:Nat) (x0:RW) (x1:Int):Tr (Int):=(.ask ((decide ((IntKind.i64.wrap (x1-(x0.length:Int)))<(0:Int)))) (.done (-1:Int)) (.done (IntKind.i64.wrap (x1-(x0.length:Int)))))
def qEW:Nat→RW→Int→Option (Int)
 |0,_,_=>none
 |n+1,x0,x1=>(qGN n x0 x1).run
theorem qN8:∀n,Ok (Rn n) qPN (qEW n)
 |0=>ok0 fun _=>rfl
 |n+1=>stO (T:=qGN n) (by kernel_rfl) [] [] (fun _=>(by kernel_rfl)) fun _=>(by kernel_rfl)
def qRf:Sg:=⟨53,[(.agg [qI,qI,qS]),aI],[],⟨aI,[],[]⟩⟩
def qID (n:Nat) (x0 x1:Int) (x2:BA) (x3:Int):Tr (Int):=(.ask ((decide ((IntKind.i64.wrap (x3-(x2.size:Int)))<(0:Int)))) (.done (-1:Int)) (.done (IntKind.i64.wrap (x3-(x2.size:Int)))))
def qFw:Nat→Int→Int→BA→Int→Option (Int)
 |0,_,_,_,_=>none
 |n+1,x0,x1,x2,x3=>(qID n x0 x1 x2 x3).run
theorem qQR:∀n,Ok (Rn n) qRf (qFw n)
 |0=>ok0 fun _=>rfl
 |n+1=>stO (T:=qID n) (by kernel_rfl) [] [] (fun _=>(by kernel_rfl)) fun _=>(by kernel_rfl)
def qQS:Sg:=⟨10,[aL,aI],[],⟨aI,[],[]⟩⟩
def qB9 (n:Nat) (v:RW×Int×Int):Tr ((RW×Int×Int)⊕((Int)⊕(Int))):=(.ask ((decide (v.2.2<(v.1.length:Int)))) (.ask (decide (0≤v.2.2∧v.2.2<v.1.length)) (.opt (v.1[(v.2.2).toNat]?) fun e6=>(.ask (decide (e6.length=3)) (.opt (zD .i64 e6 0) fun y7=>(.opt (zD .i64 e6 1) fun y8=>(.opt (zT e6 2) fun y9=>(.opt (qFw n y7 y8 y9 v.2.1) fun r10=>(.ask ((decide (r10<(0:Int)))) (.done (.inr (.inl ((-1:Int))))) (.done (.inl (v.1,r10,(IntKind.i64.wrap (v.2.2+(1:Int))))))))))) .fail)) .fail) (.done (.inr (.inr (v.2.1)))))
def qGx (n:Nat) (x0:RW) (x1:Int):Tr (Int):=(.ask ((decide ((IntKind.i64.wrap (x1-(x0.length:Int)))<(0:Int)))) (.done (-1:Int)) (.opt (zC (qB9 n) n (x0,(IntKind.i64.wrap (x1-(x0.length:Int))),(0:Int))) fun r11=>(.alt r11 (fun r12=>(.done r12)) (fun r13=>(.done r13)))))
def qE2:Nat→RW→Int→Option (Int)
 |0,_,_=>none
 |n+1,x0,x1=>(qGx n x0 x1).run
abbrev qKY (n:Nat):List (Ent (Rn n)):= [en (qQR n)]
def qM9 (n:Nat):LEnt (KB 10) (Rn n) n:=lok (zJ 10) 61 ⟨⟨[(0,aL),(1,aI),(5,aI)],[],[]⟩,[(.ret,⟨[(4,aI)],[],[]⟩),(.exit 0,⟨[(1,aI)],[],[]⟩)]⟩ (qB9 n) (qKY n) [] fun _=>(by kernel_rfl)
theorem qPO:∀n,Ok (Rn n) qQS (qE2 n)
 |0=>ok0 fun _=>rfl
 |n+1=>stO (T:=qGx n) (by kernel_rfl) (qKY n) [qM9 n] (fun _=>(by kernel_rfl)) fun _=>(by kernel_rfl)
def qN9:Sg:=⟨155,[(.agg [qI,qL,qL]),aI],[],⟨aI,[],[]⟩⟩
def qFg (n:Nat) (x0:Int) (x1 x2:RW) (x3:Int):Tr (Int):=(.opt (qEW n x1 x3) fun r5=>(.ask ((decide (r5<(0:Int)))) (.done (-1:Int)) (.opt (qE2 n x2 r5) fun r14=>(.ask ((decide (r14<(0:Int)))) (.done (-1:Int)) (.done r14)))))
def qD3:Nat→Int→RW→RW→Int→Option (Int)
 |0,_,_,_,_=>none
 |n+1,x0,x1,x2,x3=>(qFg n x0 x1 x2 x3).run
abbrev qOA (n:Nat):List (Ent (Rn n)):= [en (qN8 n),en (qPO n)]
theorem qNA:∀n,Ok (Rn n) qN9 (qD3 n)
 |0=>ok0 fun _=>rfl
 |n+1=>stO (T:=qFg n) (by kernel_rfl) (qOA n) [] (fun _=>(by kernel_rfl)) fun _=>(by kernel_rfl)
def qNB:Sg:=⟨85,[aL,aI],[],⟨aI,[],[]⟩⟩
def qBV (n:Nat) (v:RW×Int×Int):Tr ((RW×Int×Int)⊕((Int)⊕(Int))):=(.ask ((decide (v.2.2<(v.1.length:Int)))) (.ask (decide (0≤v.2.2∧v.2.2<v.1.length)) (.opt (v.1[(v.2.2).toNat]?) fun e1=>(.ask (decide (e1.length=3)) (.opt (zD .i64 e1 0) fun y2=>(.opt (zg e1 1) fun y3=>(.opt (zg e1 2) fun y4=>(.opt (qD3 n y2 y3 y4 v.2.1) fun r5=>(.ask ((decide (r5<(0:Int)))) (.done (.inr (.inl ((-1:Int))))) (.done (.inl (v.1,r5,(IntKind.i64.wrap (v.2.2+(1:Int))))))))))) .fail)) .fail) (.done (.inr (.inr (v.2.1)))))
def qE3 (n:Nat) (x0:RW) (x1:Int):Tr (Int):=(.ask ((decide ((IntKind.i64.wrap (x1-(x0.length:Int)))<(0:Int)))) (.done (-1:Int)) (.opt (zC (qBV n) n (x0,(IntKind.i64.wrap (x1-(x0.length:Int))),(0:Int))) fun r6=>(.alt r6 (fun r7=>(.done r7)) (fun r8=>(.done r8)))))
def qDg:Nat→RW→Int→Option (Int)
 |0,_,_=>none
 |n+1,x0,x1=>(qE3 n x0 x1).run
abbrev qHp (n:Nat):List (Ent (Rn n)):= [en (qNA n)]
def qKZ (n:Nat):LEnt (KB 85) (Rn n) n:=lok (zJ 85) 61 ⟨⟨[(0,aL),(1,aI),(5,aI)],[],[]⟩,[(.ret,⟨[(4,aI)],[],[]⟩),(.exit 0,⟨[(1,aI)],[],[]⟩)]⟩ (qBV n) (qHp n) [] fun _=>(by kernel_rfl)
theorem qMQ:∀n,Ok (Rn n) qNB (qDg n)
 |0=>ok0 fun _=>rfl
 |n+1=>stO (T:=qE3 n) (by kernel_rfl) (qHp n) [qKZ n] (fun _=>(by kernel_rfl)) fun _=>(by kernel_rfl)
def qPP:Sg:=⟨156,[(.agg [qS,qI]),aI],[],⟨aI,[],[]⟩⟩
def qGO (n:Nat) (x0:BA) (x1 x2:Int):Tr (Int):=(.ask ((decide ((IntKind.i64.wrap (x2-(x0.size:Int)))<(0:Int)))) (.done (-1:Int)) (.done (IntKind.i64.wrap (x2-(x0.size:Int)))))
def qEX:Nat→BA→Int→Int→Option (Int)
 |0,_,_,_=>none
 |n+1,x0,x1,x2=>(qGO n x0 x1 x2).run
theorem qOB:∀n,Ok (Rn n) qPP (qEX n)
 |0=>ok0 fun _=>rfl
 |n+1=>stO (T:=qGO n) (by kernel_rfl) [] [] (fun _=>(by kernel_rfl)) fun _=>(by kernel_rfl)
def qOC:Sg:=⟨86,[aL,aI],[],⟨aI,[],[]⟩⟩
def qBl (n:Nat) (v:RW×Int×Int):Tr ((RW×Int×Int)⊕((Int)⊕(Int))):=(.ask ((decide (v.2.2<(v.1.length:Int)))) (.ask (decide (0≤v.2.2∧v.2.2<v.1.length)) (.opt (v.1[(v.2.2).toNat]?) fun e10=>(.ask (decide (e10.length=2)) (.opt (zT e10 0) fun y11=>(.opt (zD .i64 e10 1) fun y12=>(.opt (qEX n y11 y12 v.2.1) fun r13=>(.ask ((decide (r13<(0:Int)))) (.done (.inr (.inl ((-1:Int))))) (.done (.inl (v.1,r13,(IntKind.i64.wrap (v.2.2+(1:Int)))))))))) .fail)) .fail) (.done (.inr (.inr (v.2.1)))))
def qFh (n:Nat) (x0:RW) (x1:Int):Tr (Int):=(.ask ((decide ((IntKind.i64.wrap (x1-(x0.length:Int)))<(0:Int)))) (.done (-1:Int)) (.opt (zC (qBl n) n (x0,(IntKind.i64.wrap (x1-(x0.length:Int))),(0:Int))) fun r14=>(.alt r14 (fun r15=>(.done r15)) (fun r16=>(.done r16)))))
def qD4:Nat→RW→Int→Option (Int)
 |0,_,_=>none
 |n+1,x0,x1=>(qFh n x0 x1).run
abbrev qIi (n:Nat):List (Ent (Rn n)):= [en (qOB n)]
def qLg (n:Nat):LEnt (KB 86) (Rn n) n:=lok (zJ 86) 61 ⟨⟨[(0,aL),(1,aI),(5,aI)],[],[]⟩,[(.ret,⟨[(4,aI)],[],[]⟩),(.exit 0,⟨[(1,aI)],[],[]⟩)]⟩ (qBl n) (qIi n) [] fun _=>(by kernel_rfl)
theorem qNC:∀n,Ok (Rn n) qOC (qD4 n)
 |0=>ok0 fun _=>rfl
 |n+1=>stO (T:=qFh n) (by kernel_rfl) (qIi n) [qLg n] (fun _=>(by kernel_rfl)) fun _=>(by kernel_rfl)
def qSt:Sg:=⟨29,[(.agg [qI,qL,qL]),aI],[],⟨aI,[],[]⟩⟩
def qJF (n:Nat) (x0:Int) (x1 x2:RW) (x3:Int):Tr (Int):=(.opt (qDg n x1 x3) fun r9=>(.ask ((decide (r9<(0:Int)))) (.done (-1:Int)) (.opt (qD4 n x2 r9) fun r17=>(.ask ((decide (r17<(0:Int)))) (.done (-1:Int)) (.done r17)))))
def qGl:Nat→Int→RW→RW→Int→Option (Int)
 |0,_,_,_,_=>none
 |n+1,x0,x1,x2,x3=>(qJF n x0 x1 x2 x3).run
abbrev qSu (n:Nat):List (Ent (Rn n)):= [en (qMQ n),en (qNC n)]
theorem qRg:∀n,Ok (Rn n) qSt (qGl n)
 |0=>ok0 fun _=>rfl
 |n+1=>stO (T:=qJF n) (by kernel_rfl) (qSu n) [] (fun _=>(by kernel_rfl)) fun _=>(by kernel_rfl)
def qPQ:Sg:=⟨227,[aL],[],⟨(.c (.own 0 0 0 0)),[],[⟨0,1,2,(.row [])⟩]⟩⟩
def qCP (n:Nat) (v:RW×Nat×Int×RW):Tr ((RW×Nat×Int×RW)⊕((Nat×RW))):=(.ask ((decide (v.2.2.1<(v.1.length:Int)))) (.ask (decide (0≤v.2.2.1∧v.2.2.1<v.1.length)) (.opt (v.1[(v.2.2.1).toNat]?) fun e23=>(.ask (decide (e23.length=1)) (.opt (zD .i64 e23 0) fun y24=>(.ask (decide (v.2.1=v.2.2.2.length∧0≤v.2.2.1∧v.2.2.1<((v.2.1:Nat):Int))) (.opt (v.2.2.2[(v.2.2.1).toNat]?) fun e25=>(.ask (decide (0+1≤e25.length)) (.done (.inl (v.1,v.2.1,(IntKind.i64.wrap (v.2.2.1+(1:Int))),(v.2.2.2.set (v.2.2.1).toNat (zw e25 0 [(.i .i64 y24)]))))) .fail)) .fail)) .fail)) .fail) (.done (.inr ((v.2.1,v.2.2.2)))))
def qGP (n:Nat) (x0:RW):Tr (Nat×RW):=(.ask (decide (0≤(x0.length:Int)∧(x0.length:Int)=(x0.length:Int)∧8*(x0.length:Int)≤140737488355328∧(x0.length:Int)≤9223372036854775807)) (.opt (zC (qCP n) n (x0,((x0.length:Int)).toNat,(0:Int),(zAd [(.i .i64 (0:Int))] ((x0.length:Int)).toNat))) fun r26=>(.done (r26.1,r26.2))) .fail)
def qEY:Nat→RW→Option (Nat×RW)
 |0,_=>none
 |n+1,x0=>(qGP n x0).run
def qMR (n:Nat):LEnt (KB 227) (Rn n) n:=lok (zJ 227) 29 ⟨⟨[(0,aL),(3,(.c (.own 0 448 0 0))),(4,aI)],[(448,⟨0,1,2,(.row [])⟩)],[]⟩,[(.exit 0,⟨[(3,(.c (.own 0 448 0 0)))],[(448,⟨0,1,2,(.row [])⟩)],[]⟩)]⟩ (qCP n) [] [] fun _=>(by kernel_rfl)
theorem qOD:∀n,Ok (Rn n) qPQ (qEY n)
 |0=>ok0 fun _=>rfl
 |n+1=>stO (T:=qGP n) (by kernel_rfl) [] [qMR n] (fun _=>(by kernel_rfl)) fun _=>(by kernel_rfl)
def qSv:Sg:=⟨13,[(.agg [qI,qI])],[],⟨(.agg [qI,qI]),[],[]⟩⟩
def qJG (n:Nat) (x0 x1:Int):Tr (Int×Int):=(.done (x0,x1))
def qJH:Nat→Int→Int→Option (Int×Int)
 |0,_,_=>none
 |n+1,x0,x1=>(qJG n x0 x1).run
theorem qRh:∀n,Ok (Rn n) qSv (qJH n)
 |0=>ok0 fun _=>rfl
 |n+1=>stO (T:=qJG n) (by kernel_rfl) [] [] (fun _=>(by kernel_rfl)) fun _=>(by kernel_rfl)
def qRi:Sg:=⟨58,[(.agg [qI,qI,qS])],[],⟨(.agg [qI,qI,qS]),[],[]⟩⟩
def qIE (n:Nat) (x0 x1:Int) (x2:BA):Tr (Int×Int×BA):=(.opt (qJH n x0 x1) fun r32=>(.done (r32.1,r32.2,x2)))
def qFx:Nat→Int→Int→BA→Option (Int×Int×BA)
 |0,_,_,_=>none
 |n+1,x0,x1,x2=>(qIE n x0 x1 x2).run
abbrev qRj (n:Nat):List (Ent (Rn n)):= [en (qRh n)]
theorem qQT:∀n,Ok (Rn n) qRi (qFx n)
 |0=>ok0 fun _=>rfl
 |n+1=>stO (T:=qIE n) (by kernel_rfl) (qRj n) [] (fun _=>(by kernel_rfl)) fun _=>(by kernel_rfl)
def qQU:Sg:=⟨12,[aL],[],⟨(.c (.own 0 0 0 0)),[],[⟨0,3,44,(.row [])⟩]⟩⟩
def qCh (n:Nat) (v:RW×Nat×Int×RW):Tr ((RW×Nat×Int×RW)⊕((Nat×RW))):=(.ask ((decide (v.2.2.1<(v.1.length:Int)))) (.ask (decide (0≤v.2.2.1∧v.2.2.1<v.1.length)) (.opt (v.1[(v.2.2.1).toNat]?) fun e28=>(.ask (decide (e28.length=3)) (.opt (zD .i64 e28 0) fun y29=>(.opt (zD .i64 e28 1) fun y30=>(.opt (zT e28 2) fun y31=>(.opt (qFx n y29 y30 y31) fun r32=>(.ask (decide (v.2.1=v.2.2.2.length∧0≤v.2.2.1∧v.2.2.1<((v.2.1:Nat):Int))) (.opt (v.2.2.2[(v.2.2.1).toNat]?) fun e33=>(.ask (decide (0+3≤e33.length)) (.done (.inl (v.1,v.2.1,(IntKind.i64.wrap (v.2.2.1+(1:Int))),(v.2.2.2.set (v.2.2.1).toNat (zw e33 0 [(.i .i64 r32.1),(.i .i64 r32.2.1),(.s r32.2.2)]))))) .fail)) .fail))))) .fail)) .fail) (.done (.inr ((v.2.1,v.2.2.2)))))
def qGy (n:Nat) (x0:RW):Tr (Nat×RW):=(.ask (decide (0≤(x0.length:Int)∧(x0.length:Int)=(x0.length:Int)∧32*(x0.length:Int)≤140737488355328∧(x0.length:Int)≤9223372036854775807)) (.opt (zC (qCh n) n (x0,((x0.length:Int)).toNat,(0:Int),(zAd [(.i .i64 (0:Int)),(.i .i64 (0:Int)),(.s (⟨#[]⟩:BA))] ((x0.length:Int)).toNat))) fun r34=>(.done (r34.1,r34.2))) .fail)
def qE4:Nat→RW→Option (Nat×RW)
 |0,_=>none
 |n+1,x0=>(qGy n x0).run
abbrev qKa (n:Nat):List (Ent (Rn n)):= [en (qQT n)]
def qND (n:Nat):LEnt (KB 12) (Rn n) n:=lok (zJ 12) 29 ⟨⟨[(0,aL),(3,(.c (.own 0 448 0 0))),(4,aI)],[(448,⟨0,3,44,(.row [])⟩)],[]⟩,[(.exit 0,⟨[(3,(.c (.own 0 448 0 0)))],[(448,⟨0,3,44,(.row [])⟩)],[]⟩)]⟩ (qCh n) (qKa n) [] fun _=>(by kernel_rfl)
theorem qPR:∀n,Ok (Rn n) qQU (qE4 n)
 |0=>ok0 fun _=>rfl
 |n+1=>stO (T:=qGy n) (by kernel_rfl) (qKa n) [qND n] (fun _=>(by kernel_rfl)) fun _=>(by kernel_rfl)
def qOE:Sg:=⟨160,[(.agg [qI,qL,qL])],[],⟨(.agg [qI,qL,qL]),[],[]⟩⟩
def qFi (n:Nat) (x0:Int) (x1 x2:RW):Tr (Int×RW×RW):=(.opt (qEY n x1) fun r27=>(.opt (qE4 n x2) fun r35=>(.ask (decide (r27.1=r27.2.length)) (.ask (decide (r35.1=r35.2.length)) (.done (x0,r27.2,r35.2)) .fail) .fail)))
def qD5:Nat→Int→RW→RW→Option (Int×RW×RW)
 |0,_,_,_=>none
 |n+1,x0,x1,x2=>(qFi n x0 x1 x2).run
abbrev qOF (n:Nat):List (Ent (Rn n)):= [en (qOD n),en (qPR n)]
theorem qNE:∀n,Ok (Rn n) qOE (qD5 n)
 |0=>ok0 fun _=>rfl
 |n+1=>stO (T:=qFi n) (by kernel_rfl) (qOF n) [] (fun _=>(by kernel_rfl)) fun _=>(by kernel_rfl)
def qNF:Sg:=⟨90,[aL],[],⟨(.c (.own 0 0 0 0)),[],[⟨0,3,124,(.row [])⟩]⟩⟩
def qB5 (n:Nat) (v:RW×Nat×Int×RW):Tr ((RW×Nat×Int×RW)⊕((Nat×RW))):=(.ask ((decide (v.2.2.1<(v.1.length:Int)))) (.ask (decide (0≤v.2.2.1∧v.2.2.1<v.1.length)) (.opt (v.1[(v.2.2.1).toNat]?) fun e19=>(.ask (decide (e19.length=3)) (.opt (zD .i64 e19 0) fun y20=>(.opt (zg e19 1) fun y21=>(.opt (zg e19 2) fun y22=>(.opt (qD5 n y20 y21 y22) fun r23=>(.ask (decide (v.2.1=v.2.2.2.length∧0≤v.2.2.1∧v.2.2.1<((v.2.1:Nat):Int))) (.opt (v.2.2.2[(v.2.2.1).toNat]?) fun e24=>(.ask (decide (0+3≤e24.length)) (.done (.inl (v.1,v.2.1,(IntKind.i64.wrap (v.2.2.1+(1:Int))),(v.2.2.2.set (v.2.2.1).toNat (zw e24 0 [(.i .i64 r23.1),(.ls r23.2.1),(.ls r23.2.2)]))))) .fail)) .fail))))) .fail)) .fail) (.done (.inr ((v.2.1,v.2.2.2)))))
def qE5 (n:Nat) (x0:RW):Tr (Nat×RW):=(.ask (decide (0≤(x0.length:Int)∧(x0.length:Int)=(x0.length:Int)∧56*(x0.length:Int)≤140737488355328∧(x0.length:Int)≤9223372036854775807)) (.opt (zC (qB5 n) n (x0,((x0.length:Int)).toNat,(0:Int),(zAd [(.i .i64 (0:Int)),.nl,.nl] ((x0.length:Int)).toNat))) fun r25=>(.done (r25.1,r25.2))) .fail)
def qDh:Nat→RW→Option (Nat×RW)
 |0,_=>none
 |n+1,x0=>(qE5 n x0).run
abbrev qHq (n:Nat):List (Ent (Rn n)):= [en (qNE n)]
def qKb (n:Nat):LEnt (KB 90) (Rn n) n:=lok (zJ 90) 29 ⟨⟨[(0,aL),(3,(.c (.own 0 448 0 0))),(4,aI)],[(448,⟨0,3,124,(.row [])⟩)],[]⟩,[(.exit 0,⟨[(3,(.c (.own 0 448 0 0)))],[(448,⟨0,3,124,(.row [])⟩)],[]⟩)]⟩ (qB5 n) (qHq n) [] fun _=>(by kernel_rfl)
theorem qMS:∀n,Ok (Rn n) qNF (qDh n)
 |0=>ok0 fun _=>rfl
 |n+1=>stO (T:=qE5 n) (by kernel_rfl) (qHq n) [qKb n] (fun _=>(by kernel_rfl)) fun _=>(by kernel_rfl)
def qPS:Sg:=⟨161,[(.agg [qS,qI])],[],⟨(.agg [qS,qI]),[],[]⟩⟩
def qJu (n:Nat) (x0:BA) (x1:Int):Tr (BA×Int):=(.done (x0,x1))
def qGQ:Nat→BA→Int→Option (BA×Int)
 |0,_,_=>none
 |n+1,x0,x1=>(qJu n x0 x1).run
theorem qOG:∀n,Ok (Rn n) qPS (qGQ n)
 |0=>ok0 fun _=>rfl
 |n+1=>stO (T:=qJu n) (by kernel_rfl) [] [] (fun _=>(by kernel_rfl)) fun _=>(by kernel_rfl)
def qOH:Sg:=⟨91,[aL],[],⟨(.c (.own 0 0 0 0)),[],[⟨0,2,121,(.row [])⟩]⟩⟩
def qCC (n:Nat) (v:RW×Nat×Int×RW):Tr ((RW×Nat×Int×RW)⊕((Nat×RW))):=(.ask ((decide (v.2.2.1<(v.1.length:Int)))) (.ask (decide (0≤v.2.2.1∧v.2.2.1<v.1.length)) (.opt (v.1[(v.2.2.1).toNat]?) fun e27=>(.ask (decide (e27.length=2)) (.opt (zT e27 0) fun y28=>(.opt (zD .i64 e27 1) fun y29=>(.opt (qGQ n y28 y29) fun r30=>(.ask (decide (v.2.1=v.2.2.2.length∧0≤v.2.2.1∧v.2.2.1<((v.2.1:Nat):Int))) (.opt (v.2.2.2[(v.2.2.1).toNat]?) fun e31=>(.ask (decide (0+2≤e31.length)) (.done (.inl (v.1,v.2.1,(IntKind.i64.wrap (v.2.2.1+(1:Int))),(v.2.2.2.set (v.2.2.1).toNat (zw e31 0 [(.s r30.1),(.i .i64 r30.2)]))))) .fail)) .fail)))) .fail)) .fail) (.done (.inr ((v.2.1,v.2.2.2)))))
def qFj (n:Nat) (x0:RW):Tr (Nat×RW):=(.ask (decide (0≤(x0.length:Int)∧(x0.length:Int)=(x0.length:Int)∧24*(x0.length:Int)≤140737488355328∧(x0.length:Int)≤9223372036854775807)) (.opt (zC (qCC n) n (x0,((x0.length:Int)).toNat,(0:Int),(zAd [(.s (⟨#[]⟩:BA)),(.i .i64 (0:Int))] ((x0.length:Int)).toNat))) fun r32=>(.done (r32.1,r32.2))) .fail)
def qD6:Nat→RW→Option (Nat×RW)
 |0,_=>none
 |n+1,x0=>(qFj n x0).run
abbrev qIj (n:Nat):List (Ent (Rn n)):= [en (qOG n)]
def qLh (n:Nat):LEnt (KB 91) (Rn n) n:=lok (zJ 91) 29 ⟨⟨[(0,aL),(3,(.c (.own 0 448 0 0))),(4,aI)],[(448,⟨0,2,121,(.row [])⟩)],[]⟩,[(.exit 0,⟨[(3,(.c (.own 0 448 0 0)))],[(448,⟨0,2,121,(.row [])⟩)],[]⟩)]⟩ (qCC n) (qIj n) [] fun _=>(by kernel_rfl)
theorem qNG:∀n,Ok (Rn n) qOH (qD6 n)
 |0=>ok0 fun _=>rfl
 |n+1=>stO (T:=qFj n) (by kernel_rfl) (qIj n) [qLh n] (fun _=>(by kernel_rfl)) fun _=>(by kernel_rfl)
def qSw:Sg:=⟨31,[(.agg [qI,qL,qL])],[],⟨(.agg [qI,qL,qL]),[],[]⟩⟩
def qJI (n:Nat) (x0:Int) (x1 x2:RW):Tr (Int×RW×RW):=(.opt (qDh n x1) fun r26=>(.opt (qD6 n x2) fun r33=>(.ask (decide (r26.1=r26.2.length)) (.ask (decide (r33.1=r33.2.length)) (.done (x0,r26.2,r33.2)) .fail) .fail)))
def qE6:Nat→Int→RW→RW→Option (Int×RW×RW)
 |0,_,_,_=>none
 |n+1,x0,x1,x2=>(qJI n x0 x1 x2).run
abbrev qSx (n:Nat):List (Ent (Rn n)):= [en (qMS n),en (qNG n)]
theorem qRk:∀n,Ok (Rn n) qSw (qE6 n)
 |0=>ok0 fun _=>rfl
 |n+1=>stO (T:=qJI n) (by kernel_rfl) (qSx n) [] (fun _=>(by kernel_rfl)) fun _=>(by kernel_rfl)
def qTe:Sg:=⟨110,[aI,aI,aI],[],⟨aB,[],[]⟩⟩
def qHr (n:Nat) (x0 x1 x2:Int):Tr (Bool):=(.ask ((decide (x0≥x1))) (.done (decide (x0≤x2))) (.done false))
def qA1:Nat→Int→Int→Int→Option (Bool)
 |0,_,_,_=>none
 |n+1,x0,x1,x2=>(qHr n x0 x1 x2).run
theorem qD7:∀n,Ok (Rn n) qTe (qA1 n)
 |0=>ok0 fun _=>rfl
 |n+1=>stO (T:=qHr n) (by kernel_rfl) [] [] (fun _=>(by kernel_rfl)) fun _=>(by kernel_rfl)
def qQV:Sg:=⟨122,[aS],[],⟨aB,[],[]⟩⟩
def qBc (n:Nat) (v:BA×Int):Tr ((BA×Int)⊕((Bool)⊕(BA))):=(.ask ((decide (v.2<(v.1.size:Int)))) (.ask (decide (0≤v.2)) (.opt (v.1.toList[(v.2).toNat]?) fun c45=>(.ask ((decide ((c45.toNat:Int)<(32:Int)))) (.done (.inr (.inl (false)))) (.ask (decide (0≤v.2)) (.opt (v.1.toList[(v.2).toNat]?) fun c46=>(.ask ((decide ((c46.toNat:Int)>(126:Int)))) (.done (.inr (.inl (false)))) (.done (.inl (v.1,(IntKind.i64.wrap (v.2+(1:Int)))))))) .fail))) .fail) (.done (.inr (.inr (v.1)))))
def qGz (n:Nat) (x0:BA):Tr (Bool):=(.opt (zC (qBc n) n (x0,(0:Int))) fun r47=>(.alt r47 (fun r48=>(.done r48)) (fun r49=>(.done (decide ((r49.size:Int)≤(200:Int)))))))
def qCQ:Nat→BA→Option (Bool)
 |0,_=>none
 |n+1,x0=>(qGz n x0).run
def qNH (n:Nat):LEnt (KB 122) (Rn n) n:=lok (zJ 122) 13 ⟨⟨[(0,aS),(3,aI)],[],[]⟩,[(.ret,⟨[(2,aB)],[],[]⟩),(.exit 0,⟨[(0,aS)],[],[]⟩)]⟩ (qBc n) [] [] fun _=>(by kernel_rfl)
theorem qGR:∀n,Ok (Rn n) qQV (qCQ n)
 |0=>ok0 fun _=>rfl
 |n+1=>stO (T:=qGz n) (by kernel_rfl) [] [qNH n] (fun _=>(by kernel_rfl)) fun _=>(by kernel_rfl)
def qMT:Sg:=⟨188,[(.c (.ptr 0 0 0 0 0))],[[(0,⟨0,4,220,(.box [qS,qI,qB,(.own 0 1 1 0)])⟩),(1,⟨1,14,210,(.row [])⟩)]],⟨(.tup []),[[(0,⟨0,4,220,(.box [qS,qI,qB,(.own 0 1 1 0)])⟩),(1,⟨1,14,210,(.row [])⟩)]],[]⟩⟩
def qDn (n:Nat) (v:BA×Int×Bool×Nat×RW):Tr ((BA×Int×Bool×Nat×RW)⊕((BA×Int×Bool×Nat×RW))):=(.ask ((decide (v.2.1<(v.1.size:Int)))) (.ask (decide (0≤v.2.1)) (.opt (v.1.toList[(v.2.1).toNat]?) fun c53=>(.ask (((c53.toNat:Int)==(32:Int))) (.done (.inl (v.1,(IntKind.i64.wrap (v.2.1+(1:Int))),v.2.2.1,v.2.2.2.1,v.2.2.2.2))) (.done (.inr ((v.1,v.2.1,v.2.2.1,v.2.2.2.1,v.2.2.2.2)))))) .fail) (.done (.inr ((v.1,v.2.1,v.2.2.1,v.2.2.2.1,v.2.2.2.2)))))
def qG0 (n:Nat) (x0:BA) (x1:Int) (x2:Bool) (x3:Nat) (x4:RW):Tr (BA×Int×Bool×Nat×RW):=(.opt (zC (qDn n) n (x0,x1,x2,x3,x4)) fun r54=>(.done (r54.1,r54.2.1,r54.2.2.1,r54.2.2.2.1,r54.2.2.2.2)))
def qBp:Nat→BA→Int→Bool→Nat→RW→Option (BA×Int×Bool×Nat×RW)
 |0,_,_,_,_,_=>none
 |n+1,x0,x1,x2,x3,x4=>(qG0 n x0 x1 x2 x3 x4).run
def qKc (n:Nat):LEnt (KB 188) (Rn n) n:=lok (zJ 188) 1 ⟨⟨[(0,(.c (.ptr 0 0 0 0 0)))],[],[[(0,⟨0,4,220,(.box [qS,qI,qB,(.own 0 1 1 0)])⟩),(1,⟨1,14,210,(.row [])⟩)]]⟩,[(.exit 0,⟨[],[],[[(0,⟨0,4,220,(.box [qS,qI,qB,(.own 0 1 1 0)])⟩),(1,⟨1,14,210,(.row [])⟩)]]⟩)]⟩ (qDn n) [] [] fun _=>(by kernel_rfl)
theorem qEH:∀n,Ok (Rn n) qMT (qBp n)
 |0=>ok0 fun _=>rfl
 |n+1=>stO (T:=qG0 n) (by kernel_rfl) [] [qKc n] (fun _=>(by kernel_rfl)) fun _=>(by kernel_rfl)
def qQW:Sg:=⟨288,[(.c (.ptr 0 0 0 0 0)),aS],[[(0,⟨0,4,220,(.box [qS,qI,qB,(.own 0 1 1 0)])⟩),(1,⟨1,14,210,(.row [])⟩)]],⟨aB,[[(0,⟨0,4,220,(.box [qS,qI,qB,(.own 0 1 1 0)])⟩),(1,⟨1,14,210,(.row [])⟩)]],[]⟩⟩
def qKd (n:Nat) (x0 x1:BA) (x2:Int) (x3:Bool) (x4:Nat) (x5:RW):Tr (Bool×BA×Int×Bool×Nat×RW):=(.opt (qBp n x1 x2 x3 x4 x5) fun r55=>(.ask (r55.2.2.1) (.done (false,r55.1,r55.2.1,r55.2.2.1,r55.2.2.2.1,r55.2.2.2.2)) (.ask ((decide ((IntKind.i64.wrap (r55.2.1+(x0.size:Int)))>(r55.1.size:Int)))) (.done (false,r55.1,r55.2.1,r55.2.2.1,r55.2.2.2.1,r55.2.2.2.2)) (.ask (decide (0≤r55.2.1∧r55.2.1≤(IntKind.i64.wrap (r55.2.1+(x0.size:Int)))∧(IntKind.i64.wrap (r55.2.1+(x0.size:Int)))≤r55.1.size)) (.ask ((!((r55.1.extract (r55.2.1).toNat ((IntKind.i64.wrap (r55.2.1+(x0.size:Int)))).toNat).toList==x0.toList))) (.done (false,r55.1,r55.2.1,r55.2.2.1,r55.2.2.2.1,r55.2.2.2.2)) (.done (true,r55.1,(IntKind.i64.wrap (r55.2.1+(x0.size:Int))),r55.2.2.1,r55.2.2.2.1,r55.2.2.2.2))) .fail))))
def qAK:Nat→BA→BA→Int→Bool→Nat→RW→Option (Bool×BA×Int×Bool×Nat×RW)
 |0,_,_,_,_,_,_=>none
 |n+1,x0,x1,x2,x3,x4,x5=>(qKd n x0 x1 x2 x3 x4 x5).run
abbrev qQX (n:Nat):List (Ent (Rn n)):= [en (qEH n)]
theorem qEZ:∀n,Ok (Rn n) qQW (qAK n)
 |0=>ok0 fun _=>rfl
 |n+1=>stO (T:=qKd n) (by kernel_rfl) (qQX n) [] (fun _=>(by kernel_rfl)) fun _=>(by kernel_rfl)
def qQY:Sg:=⟨191,[(.agg [qI,qI,qS])],[],⟨aB,[],[]⟩⟩
def qG1 (n:Nat) (x0 x1:Int) (x2:BA):Tr (Bool):=(.ask ((x0==(0:Int))) (.ask ((x1==(0:Int))) (.done (x2.toList==(⟨#[]⟩:BA).toList)) (.done false)) (.ask ((x0==(1:Int))) (.opt (qA1 n x1 (-1000000000000000:Int) (1000000000000000:Int)) fun r58=>(.ask (r58) (.done (x2.toList==(⟨#[]⟩:BA).toList)) (.done false))) (.ask ((x0==(2:Int))) (.ask ((x1==(0:Int))) (.opt (qCQ n x2) fun r59=>(.done r59)) (.done false)) (.ask ((x0==(3:Int))) (.opt (qA1 n x1 (0:Int) (1:Int)) fun r60=>(.ask (r60) (.done (x2.toList==(⟨#[]⟩:BA).toList)) (.done false))) (.ask ((x0==(4:Int))) (.opt (qA1 n x1 (1:Int) (5:Int)) fun r61=>(.ask (r61) (.done (x2.toList==(⟨#[]⟩:BA).toList)) (.done false))) (.done false))))))
def qY:Nat→Int→Int→BA→Option (Bool)
 |0,_,_,_=>none
 |n+1,x0,x1,x2=>(qG1 n x0 x1 x2).run
abbrev qQZ (n:Nat):List (Ent (Rn n)):= [en (qD7 n),en (qGR n)]
theorem qEa:∀n,Ok (Rn n) qQY (qY n)
 |0=>ok0 fun _=>rfl
 |n+1=>stO (T:=qG1 n) (by kernel_rfl) (qQZ n) [] (fun _=>(by kernel_rfl)) fun _=>(by kernel_rfl)
def qSy:Sg:=⟨56,[(.agg [qI,qI])],[],⟨aB,[],[]⟩⟩
def qJJ (n:Nat) (x0 x1:Int):Tr (Bool):=(.opt (qA1 n x0 (1:Int) (52:Int)) fun r63=>(.ask (r63) (.opt (qA1 n x1 (1:Int) (99:Int)) fun r64=>(.done r64)) (.done false)))
def qAP:Nat→Int→Int→Option (Bool)
 |0,_,_=>none
 |n+1,x0,x1=>(qJJ n x0 x1).run
abbrev qSz (n:Nat):List (Ent (Rn n)):= [en (qD7 n)]
theorem qER:∀n,Ok (Rn n) qSy (qAP n)
 |0=>ok0 fun _=>rfl
 |n+1=>stO (T:=qJJ n) (by kernel_rfl) (qSz n) [] (fun _=>(by kernel_rfl)) fun _=>(by kernel_rfl)
def qRl:Sg:=⟨293,[(.agg [qI,qI,qI,qI])],[],⟨aB,[],[]⟩⟩
def qIF (n:Nat) (x0 x1 x2 x3:Int):Tr (Bool):=(.opt (qAP n x0 x1) fun r66=>(.ask (r66) (.opt (qAP n x2 x3) fun r67=>(.ask (r67) (.ask ((decide (x0≤x2))) (.done (decide (x1≤x3))) (.done false)) (.done false))) (.done false)))
def qFy:Nat→Int→Int→Int→Int→Option (Bool)
 |0,_,_,_,_=>none
 |n+1,x0,x1,x2,x3=>(qIF n x0 x1 x2 x3).run
abbrev qRm (n:Nat):List (Ent (Rn n)):= [en (qER n)]
theorem qQa:∀n,Ok (Rn n) qRl (qFy n)
 |0=>ok0 fun _=>rfl
 |n+1=>stO (T:=qIF n) (by kernel_rfl) (qRm n) [] (fun _=>(by kernel_rfl)) fun _=>(by kernel_rfl)
def qRn:Sg:=⟨294,[aI,aI],[],⟨aB,[],[]⟩⟩
def qIG (n:Nat) (x0 x1:Int):Tr (Bool):=(.ask ((x0==(1:Int))) (.ask ((decide (x1≥(1:Int)))) (.done (decide (x1≤(10:Int)))) (.done false)) (.ask ((x0==(2:Int))) (.ask ((decide (x1≥(1:Int)))) (.done (decide (x1≤(10:Int)))) (.done false)) (.ask ((x0==(3:Int))) (.ask ((decide (x1≥(1:Int)))) (.done (decide (x1≤(10:Int)))) (.done false)) (.ask ((x0==(4:Int))) (.ask ((decide (x1≥(1:Int)))) (.done (decide (x1≤(10:Int)))) (.done false)) (.ask ((x0==(6:Int))) (.ask ((decide (x1≥(1:Int)))) (.done (decide (x1≤(10:Int)))) (.done false)) (.ask ((x0==(7:Int))) (.ask ((decide (x1≥(1:Int)))) (.done (decide (x1≤(10:Int)))) (.done false)) (.ask ((x0==(5:Int))) (.ask ((x1==(2:Int))) (.done true) (.done (x1==(3:Int)))) (.ask ((x0==(8:Int))) (.done (x1==(1:Int))) (.ask ((x0==(9:Int))) (.done (x1==(1:Int))) (.ask ((x0==(10:Int))) (.done (x1==(1:Int))) (.done false)))))))))))
def qFz:Nat→Int→Int→Option (Bool)
 |0,_,_=>none
 |n+1,x0,x1=>(qIG n x0 x1).run
theorem qQb:∀n,Ok (Rn n) qRn (qFz n)
 |0=>ok0 fun _=>rfl
 |n+1=>stO (T:=qIG n) (by kernel_rfl) [] [] (fun _=>(by kernel_rfl)) fun _=>(by kernel_rfl)
def qPT:Sg:=⟨245,[(.agg [qI,qI,qI,qI,qS,qI,qI,qB,qB,qI,qI,qB,qB,qL])],[],⟨aB,[],[]⟩⟩
def qGS (n:Nat) (x0 x1 x2 x3:Int) (x4:BA) (x5 x6:Int) (x7 x8:Bool) (x9 x10:Int) (x11 x12:Bool) (x13:RW):Tr (Bool):=(.ask ((x0==(1:Int))) (.ask ((x1==(0:Int))) (.ask (((x5==(0:Int))&&((x6==(0:Int))&&((x7==false)&&((x8==false)&&true))))) (.ask (((x9==(0:Int))&&((x10==(0:Int))&&((x11==false)&&((x12==false)&&true))))) (.ask (((x13.length:Int)==(0:Int))) (.opt (qY n x2 x3 x4) fun r62=>(.ask (r62) (.ask ((x2 !=(0:Int))) (.ask ((x2 !=(1:Int))) (.done true) (.done (decide (x3≥(0:Int))))) (.done false)) (.done false))) (.done false)) (.done false)) (.done false)) (.done false)) (.ask ((x0==(2:Int))) (.ask ((x1==(0:Int))) (.ask (((x2==(0:Int))&&((x3==(0:Int))&&((x4.toList==(⟨#[]⟩:BA).toList)&&true)))) (.ask (((x9==(0:Int))&&((x10==(0:Int))&&((x11==false)&&((x12==false)&&true))))) (.ask (((x13.length:Int)==(0:Int))) (.opt (qAP n x5 x6) fun r65=>(.done r65)) (.done false)) (.done false)) (.done false)) (.done false)) (.ask ((x0==(3:Int))) (.ask ((x1==(0:Int))) (.ask (((x2==(0:Int))&&((x3==(0:Int))&&((x4.toList==(⟨#[]⟩:BA).toList)&&true)))) (.ask (((x13.length:Int)==(0:Int))) (.opt (qFy n x5 x6 x9 x10) fun r68=>(.done r68)) (.done false)) (.done false)) (.done false)) (.ask ((x0==(4:Int))) (.ask ((x1==(0:Int))) (.ask (((x2==(0:Int))&&((x3==(0:Int))&&((x4.toList==(⟨#[]⟩:BA).toList)&&true)))) (.ask (((x5==(0:Int))&&((x6==(0:Int))&&((x7==false)&&((x8==false)&&true))))) (.ask (((x9==(0:Int))&&((x10==(0:Int))&&((x11==false)&&((x12==false)&&true))))) (.done ((x13.length:Int)==(1:Int))) (.done false)) (.done false)) (.done false)) (.done false)) (.ask ((x0==(5:Int))) (.opt (qA1 n x1 (1:Int) (11:Int)) fun r69=>(.ask (r69) (.ask (((x2==(0:Int))&&((x3==(0:Int))&&((x4.toList==(⟨#[]⟩:BA).toList)&&true)))) (.ask (((x5==(0:Int))&&((x6==(0:Int))&&((x7==false)&&((x8==false)&&true))))) (.ask (((x9==(0:Int))&&((x10==(0:Int))&&((x11==false)&&((x12==false)&&true))))) (.done ((x13.length:Int)==(2:Int))) (.done false)) (.done false)) (.done false)) (.done false))) (.ask ((x0==(6:Int))) (.opt (qFz n x1 (x13.length:Int)) fun r70=>(.ask (r70) (.ask (((x2==(0:Int))&&((x3==(0:Int))&&((x4.toList==(⟨#[]⟩:BA).toList)&&true)))) (.ask (((x5==(0:Int))&&((x6==(0:Int))&&((x7==false)&&((x8==false)&&true))))) (.done ((x9==(0:Int))&&((x10==(0:Int))&&((x11==false)&&((x12==false)&&true))))) (.done false)) (.done false)) (.done false))) (.done false)))))))
def qCB:Nat→Int→Int→Int→Int→BA→Int→Int→Bool→Bool→Int→Int→Bool→Bool→RW→Option (Bool)
 |0,_,_,_,_,_,_,_,_,_,_,_,_,_,_=>none
 |n+1,x0,x1,x2,x3,x4,x5,x6,x7,x8,x9,x10,x11,x12,x13=>(qGS n x0 x1 x2 x3 x4 x5 x6 x7 x8 x9 x10 x11 x12 x13).run
abbrev qPU (n:Nat):List (Ent (Rn n)):= [en (qEa n),en (qER n),en (qQa n),en (qD7 n),en (qQb n)]
theorem qIk:∀n,Ok (Rn n) qPT (qCB n)
 |0=>ok0 fun _=>rfl
 |n+1=>stO (T:=qGS n) (by kernel_rfl) (qPU n) [] (fun _=>(by kernel_rfl)) fun _=>(by kernel_rfl)
def qPV:Sg:=⟨244,[(.c (.ptr 0 0 0 0 0)),(.agg [qI,qI,qI,qI,qS,qI,qI,qB,qB,qI,qI,qB,qB,qL])],[[(0,⟨0,4,220,(.box [qS,qI,qB,(.own 0 1 1 0)])⟩),(1,⟨1,14,210,(.row [])⟩)]],⟨aI,[[(0,⟨0,4,220,(.box [qS,qI,qB,(.own 0 1 1 0)])⟩),(1,⟨1,14,210,(.row [])⟩)]],[]⟩⟩
def qJv (n:Nat) (x0 x1 x2 x3:Int) (x4:BA) (x5 x6:Int) (x7 x8:Bool) (x9 x10:Int) (x11 x12:Bool) (x13:RW) (x14:BA) (x15:Int) (x16:Bool) (x17:Nat) (x18:RW):Tr (Int×BA×Int×Bool×Nat×RW):=(.ask (decide (1=([[(.i .i64 x0),(.i .i64 x1),(.i .i64 x2),(.i .i64 x3),(.s x4),(.i .i64 x5),(.i .i64 x6),(.b x7),(.b x8),(.i .i64 x9),(.i .i64 x10),(.b x11),(.b x12),(.ls x13)]]:RW).length)) (.ask (decide (x17=x18.length∧0<14∧0<120∧(x17+([[(.i .i64 x0),(.i .i64 x1),(.i .i64 x2),(.i .i64 x3),(.s x4),(.i .i64 x5),(.i .i64 x6),(.b x7),(.b x8),(.i .i64 x9),(.i .i64 x10),(.b x11),(.b x12),(.ls x13)]]:RW).length)*120≤140737488355328∧([[(.i .i64 x0),(.i .i64 x1),(.i .i64 x2),(.i .i64 x3),(.s x4),(.i .i64 x5),(.i .i64 x6),(.b x7),(.b x8),(.i .i64 x9),(.i .i64 x10),(.b x11),(.b x12),(.ls x13)]]:RW).all (fun e=>e.length==14)=true)) (.ask ((decide ((((x17+1):Nat):Int)>(60:Int)))) (.done ((IntKind.i64.wrap ((((x17+1):Nat):Int)-(1:Int))),x14,x15,true,(x17+1),(x18++([[(.i .i64 x0),(.i .i64 x1),(.i .i64 x2),(.i .i64 x3),(.s x4),(.i .i64 x5),(.i .i64 x6),(.b x7),(.b x8),(.i .i64 x9),(.i .i64 x10),(.b x11),(.b x12),(.ls x13)]]:RW)))) (.opt (qCB n x0 x1 x2 x3 x4 x5 x6 x7 x8 x9 x10 x11 x12 x13) fun r71=>(.ask ((!r71)) (.done ((IntKind.i64.wrap ((((x17+1):Nat):Int)-(1:Int))),x14,x15,true,(x17+1),(x18++([[(.i .i64 x0),(.i .i64 x1),(.i .i64 x2),(.i .i64 x3),(.s x4),(.i .i64 x5),(.i .i64 x6),(.b x7),(.b x8),(.i .i64 x9),(.i .i64 x10),(.b x11),(.b x12),(.ls x13)]]:RW)))) (.done ((IntKind.i64.wrap ((((x17+1):Nat):Int)-(1:Int))),x14,x15,x16,(x17+1),(x18++([[(.i .i64 x0),(.i .i64 x1),(.i .i64 x2),(.i .i64 x3),(.s x4),(.i .i64 x5),(.i .i64 x6),(.b x7),(.b x8),(.i .i64 x9),(.i .i64 x10),(.b x11),(.b x12),(.ls x13)]]:RW))))))) .fail) .fail)
def qx:Nat→Int→Int→Int→Int→BA→Int→Int→Bool→Bool→Int→Int→Bool→Bool→RW→BA→Int→Bool→Nat→RW→Option (Int×BA×Int×Bool×Nat×RW)
 |0,_,_,_,_,_,_,_,_,_,_,_,_,_,_,_,_,_,_,_=>none
 |n+1,x0,x1,x2,x3,x4,x5,x6,x7,x8,x9,x10,x11,x12,x13,x14,x15,x16,x17,x18=>(qJv n x0 x1 x2 x3 x4 x5 x6 x7 x8 x9 x10 x11 x12 x13 x14 x15 x16 x17 x18).run
abbrev qPW (n:Nat):List (Ent (Rn n)):= [en (qIk n)]
theorem qDA:∀n,Ok (Rn n) qPV (qx n)
 |0=>ok0 fun _=>rfl
 |n+1=>stO (T:=qJv n) (by kernel_rfl) (qPW n) [] (fun _=>(by kernel_rfl)) fun _=>(by kernel_rfl)
def qOI:Sg:=⟨289,[(.c (.ptr 0 0 0 0 0))],[[(0,⟨0,4,220,(.box [qS,qI,qB,(.own 0 1 1 0)])⟩),(1,⟨1,14,210,(.row [])⟩)]],⟨aI,[[(0,⟨0,4,220,(.box [qS,qI,qB,(.own 0 1 1 0)])⟩),(1,⟨1,14,210,(.row [])⟩)]],[]⟩⟩
def qEI (n:Nat) (v:BA×BA×Int×Bool×Nat×RW):Tr ((BA×BA×Int×Bool×Nat×RW)⊕((Int×BA×Int×Bool×Nat×RW)⊕(BA×Int×Bool×Nat×RW))):=(.ask ((decide (v.2.2.1<(v.2.1.size:Int)))) (.ask (decide (0≤v.2.2.1)) (.opt (v.2.1.toList[(v.2.2.1).toNat]?) fun c77=>(.ask (((c77.toNat:Int) !=(34:Int))) (.ask (decide (0≤v.2.2.1∧v.2.2.1≤(IntKind.i64.wrap (v.2.2.1+(1:Int)))∧(IntKind.i64.wrap (v.2.2.1+(1:Int)))≤v.2.1.size)) (.ask (decide (v.1.size+(v.2.1.extract (v.2.2.1).toNat ((IntKind.i64.wrap (v.2.2.1+(1:Int)))).toNat).size≤9223372036854775807)) (.done (.inl ((v.1++(v.2.1.extract (v.2.2.1).toNat ((IntKind.i64.wrap (v.2.2.1+(1:Int)))).toNat)),v.2.1,(IntKind.i64.wrap (v.2.2.1+(1:Int))),v.2.2.2.1,v.2.2.2.2.1,v.2.2.2.2.2))) .fail) .fail) (.ask ((decide ((IntKind.i64.wrap (v.2.2.1+(1:Int)))≥(v.2.1.size:Int)))) (.opt (qx n (1:Int) (0:Int) (2:Int) (0:Int) v.1 (0:Int) (0:Int) false false (0:Int) (0:Int) false false ([]:RW) v.2.1 (IntKind.i64.wrap (v.2.2.1+(1:Int))) v.2.2.2.1 v.2.2.2.2.1 v.2.2.2.2.2) fun r78=>(.done (.inr (.inl ((r78.1,r78.2.1,r78.2.2.1,r78.2.2.2.1,r78.2.2.2.2.1,r78.2.2.2.2.2)))))) (.ask (decide (0≤(IntKind.i64.wrap (v.2.2.1+(1:Int))))) (.opt (v.2.1.toList[((IntKind.i64.wrap (v.2.2.1+(1:Int)))).toNat]?) fun c79=>(.ask (((c79.toNat:Int) !=(34:Int))) (.opt (qx n (1:Int) (0:Int) (2:Int) (0:Int) v.1 (0:Int) (0:Int) false false (0:Int) (0:Int) false false ([]:RW) v.2.1 (IntKind.i64.wrap (v.2.2.1+(1:Int))) v.2.2.2.1 v.2.2.2.2.1 v.2.2.2.2.2) fun r80=>(.done (.inr (.inl ((r80.1,r80.2.1,r80.2.2.1,r80.2.2.2.1,r80.2.2.2.2.1,r80.2.2.2.2.2)))))) (.ask (decide (v.1.size+(⟨#[34]⟩:BA).size≤9223372036854775807)) (.done (.inl ((v.1++(⟨#[34]⟩:BA)),v.2.1,(IntKind.i64.wrap ((IntKind.i64.wrap (v.2.2.1+(1:Int)))+(1:Int))),v.2.2.2.1,v.2.2.2.2.1,v.2.2.2.2.2))) .fail))) .fail)))) .fail) (.done (.inr (.inr ((v.2.1,v.2.2.1,v.2.2.2.1,v.2.2.2.2.1,v.2.2.2.2.2))))))
def qIl (n:Nat) (x0:BA) (x1:Int) (x2:Bool) (x3:Nat) (x4:RW):Tr (Int×BA×Int×Bool×Nat×RW):=(.opt (zC (qEI n) n ((⟨#[]⟩:BA),x0,x1,x2,x3,x4)) fun r81=>(.alt r81 (fun r82=>(.done (r82.1,r82.2.1,r82.2.2.1,r82.2.2.2.1,r82.2.2.2.2.1,r82.2.2.2.2.2))) (fun r83=>(.done ((0:Int),r83.1,r83.2.1,true,r83.2.2.2.1,r83.2.2.2.2)))))
def qFk:Nat→BA→Int→Bool→Nat→RW→Option (Int×BA×Int×Bool×Nat×RW)
 |0,_,_,_,_,_=>none
 |n+1,x0,x1,x2,x3,x4=>(qIl n x0 x1 x2 x3 x4).run
abbrev qIm (n:Nat):List (Ent (Rn n)):= [en (qDA n)]
def qLi (n:Nat):LEnt (KB 289) (Rn n) n:=lok (zJ 289) 14 ⟨⟨[(0,(.c (.ptr 0 0 0 0 0))),(3,aS)],[],[[(0,⟨0,4,220,(.box [qS,qI,qB,(.own 0 1 1 0)])⟩),(1,⟨1,14,210,(.row [])⟩)]]⟩,[(.ret,⟨[(2,aI)],[],[[(0,⟨0,4,220,(.box [qS,qI,qB,(.own 0 1 1 0)])⟩),(1,⟨1,14,210,(.row [])⟩)]]⟩),(.exit 0,⟨[(0,(.c (.ptr 0 0 0 0 0)))],[],[[(0,⟨0,4,220,(.box [qS,qI,qB,(.own 0 1 1 0)])⟩),(1,⟨1,14,210,(.row [])⟩)]]⟩)]⟩ (qEI n) (qIm n) [] fun _=>(by kernel_rfl)
theorem qNI:∀n,Ok (Rn n) qOI (qFk n)
 |0=>ok0 fun _=>rfl
 |n+1=>stO (T:=qIl n) (by kernel_rfl) (qIm n) [qLi n] (fun _=>(by kernel_rfl)) fun _=>(by kernel_rfl)
def qRo:Sg:=⟨193,[aI],[],⟨aS,[],[]⟩⟩
def qIH (n:Nat) (x0:Int):Tr (BA):=(.ask (decide (6=([[(.s (⟨#[]⟩:BA))],[(.s (⟨#[35,68,73,86,33]⟩:BA))],[(.s (⟨#[35,84,89,80,69,33]⟩:BA))],[(.s (⟨#[35,82,69,70,33]⟩:BA))],[(.s (⟨#[35,79,86,69,82,33]⟩:BA))],[(.s (⟨#[35,67,89,67,76,69,33]⟩:BA))]]:RW).length∧0≤x0∧x0<((6:Nat):Int))) (.opt (([[(.s (⟨#[]⟩:BA))],[(.s (⟨#[35,68,73,86,33]⟩:BA))],[(.s (⟨#[35,84,89,80,69,33]⟩:BA))],[(.s (⟨#[35,82,69,70,33]⟩:BA))],[(.s (⟨#[35,79,86,69,82,33]⟩:BA))],[(.s (⟨#[35,67,89,67,76,69,33]⟩:BA))]]:RW)[(x0).toNat]?) fun e86=>(.opt (zT e86 0) fun y87=>(.done y87))) .fail)
def qBa:Nat→Int→Option (BA)
 |0,_=>none
 |n+1,x0=>(qIH n x0).run
theorem qG2:∀n,Ok (Rn n) qRo (qBa n)
 |0=>ok0 fun _=>rfl
 |n+1=>stO (T:=qIH n) (by kernel_rfl) [] [] (fun _=>(by kernel_rfl)) fun _=>(by kernel_rfl)
def qQc:Sg:=⟨290,[aI],[],⟨(.agg [qI,qI,qS]),[],[]⟩⟩
def qG3 (n:Nat) (x0:Int):Tr (Int×Int×BA):=(.done ((4:Int),x0,(⟨#[]⟩:BA)))
def qDB:Nat→Int→Option (Int×Int×BA)
 |0,_=>none
 |n+1,x0=>(qG3 n x0).run
theorem qPX:∀n,Ok (Rn n) qQc (qDB n)
 |0=>ok0 fun _=>rfl
 |n+1=>stO (T:=qG3 n) (by kernel_rfl) [] [] (fun _=>(by kernel_rfl)) fun _=>(by kernel_rfl)
def qOJ:Sg:=⟨291,[(.c (.ptr 0 0 0 0 0))],[[(0,⟨0,4,220,(.box [qS,qI,qB,(.own 0 1 1 0)])⟩),(1,⟨1,14,210,(.row [])⟩)]],⟨aS,[[(0,⟨0,4,220,(.box [qS,qI,qB,(.own 0 1 1 0)])⟩),(1,⟨1,14,210,(.row [])⟩)]],[]⟩⟩
def qCD (n:Nat) (v:Int×BA×Int×Bool×Nat×RW):Tr ((Int×BA×Int×Bool×Nat×RW)⊕((Int×BA×Int×Bool×Nat×RW))):=(.ask ((decide (v.2.2.1<(v.2.1.size:Int)))) (.ask (decide (0≤v.2.2.1)) (.opt (v.2.1.toList[(v.2.2.1).toNat]?) fun c92=>(.ask ((decide ((c92.toNat:Int)≥(65:Int)))) (.ask (decide (0≤v.2.2.1)) (.opt (v.2.1.toList[(v.2.2.1).toNat]?) fun c93=>(.ask ((decide ((c93.toNat:Int)≤(90:Int)))) (.done (.inl (v.1,v.2.1,(IntKind.i64.wrap (v.2.2.1+(1:Int))),v.2.2.2.1,v.2.2.2.2.1,v.2.2.2.2.2))) (.ask (decide (0≤v.2.2.1)) (.opt (v.2.1.toList[(v.2.2.1).toNat]?) fun c94=>(.ask ((decide ((c94.toNat:Int)≥(48:Int)))) (.ask (decide (0≤v.2.2.1)) (.opt (v.2.1.toList[(v.2.2.1).toNat]?) fun c95=>(.ask ((decide ((c95.toNat:Int)≤(57:Int)))) (.done (.inl (v.1,v.2.1,(IntKind.i64.wrap (v.2.2.1+(1:Int))),v.2.2.2.1,v.2.2.2.2.1,v.2.2.2.2.2))) (.ask (decide (0≤v.2.2.1)) (.opt (v.2.1.toList[(v.2.2.1).toNat]?) fun c96=>(.ask (((c96.toNat:Int)==(36:Int))) (.done (.inl (v.1,v.2.1,(IntKind.i64.wrap (v.2.2.1+(1:Int))),v.2.2.2.1,v.2.2.2.2.1,v.2.2.2.2.2))) (.done (.inr ((v.1,v.2.1,v.2.2.1,v.2.2.2.1,v.2.2.2.2.1,v.2.2.2.2.2)))))) .fail))) .fail) (.ask (decide (0≤v.2.2.1)) (.opt (v.2.1.toList[(v.2.2.1).toNat]?) fun c97=>(.ask (((c97.toNat:Int)==(36:Int))) (.done (.inl (v.1,v.2.1,(IntKind.i64.wrap (v.2.2.1+(1:Int))),v.2.2.2.1,v.2.2.2.2.1,v.2.2.2.2.2))) (.done (.inr ((v.1,v.2.1,v.2.2.1,v.2.2.2.1,v.2.2.2.2.1,v.2.2.2.2.2)))))) .fail))) .fail))) .fail) (.ask (decide (0≤v.2.2.1)) (.opt (v.2.1.toList[(v.2.2.1).toNat]?) fun c98=>(.ask ((decide ((c98.toNat:Int)≥(48:Int)))) (.ask (decide (0≤v.2.2.1)) (.opt (v.2.1.toList[(v.2.2.1).toNat]?) fun c99=>(.ask ((decide ((c99.toNat:Int)≤(57:Int)))) (.done (.inl (v.1,v.2.1,(IntKind.i64.wrap (v.2.2.1+(1:Int))),v.2.2.2.1,v.2.2.2.2.1,v.2.2.2.2.2))) (.ask (decide (0≤v.2.2.1)) (.opt (v.2.1.toList[(v.2.2.1).toNat]?) fun c100=>(.ask (((c100.toNat:Int)==(36:Int))) (.done (.inl (v.1,v.2.1,(IntKind.i64.wrap (v.2.2.1+(1:Int))),v.2.2.2.1,v.2.2.2.2.1,v.2.2.2.2.2))) (.done (.inr ((v.1,v.2.1,v.2.2.1,v.2.2.2.1,v.2.2.2.2.1,v.2.2.2.2.2)))))) .fail))) .fail) (.ask (decide (0≤v.2.2.1)) (.opt (v.2.1.toList[(v.2.2.1).toNat]?) fun c101=>(.ask (((c101.toNat:Int)==(36:Int))) (.done (.inl (v.1,v.2.1,(IntKind.i64.wrap (v.2.2.1+(1:Int))),v.2.2.2.1,v.2.2.2.2.1,v.2.2.2.2.2))) (.done (.inr ((v.1,v.2.1,v.2.2.1,v.2.2.2.1,v.2.2.2.2.1,v.2.2.2.2.2)))))) .fail))) .fail))) .fail) (.done (.inr ((v.1,v.2.1,v.2.2.1,v.2.2.2.1,v.2.2.2.2.1,v.2.2.2.2.2)))))
def qIn (n:Nat) (x0:BA) (x1:Int) (x2:Bool) (x3:Nat) (x4:RW):Tr (BA×BA×Int×Bool×Nat×RW):=(.opt (zC (qCD n) n (x1,x0,x1,x2,x3,x4)) fun r102=>(.ask (decide (0≤r102.1∧r102.1≤r102.2.2.1∧r102.2.2.1≤r102.2.1.size)) (.done ((r102.2.1.extract (r102.1).toNat (r102.2.2.1).toNat),r102.2.1,r102.2.2.1,r102.2.2.2.1,r102.2.2.2.2.1,r102.2.2.2.2.2)) .fail))
def qDC:Nat→BA→Int→Bool→Nat→RW→Option (BA×BA×Int×Bool×Nat×RW)
 |0,_,_,_,_,_=>none
 |n+1,x0,x1,x2,x3,x4=>(qIn n x0 x1 x2 x3 x4).run
def qLj (n:Nat):LEnt (KB 291) (Rn n) n:=lok (zJ 291) 14 ⟨⟨[(0,(.c (.ptr 0 0 0 0 0))),(3,aI)],[],[[(0,⟨0,4,220,(.box [qS,qI,qB,(.own 0 1 1 0)])⟩),(1,⟨1,14,210,(.row [])⟩)]]⟩,[(.exit 0,⟨[(0,(.c (.ptr 0 0 0 0 0))),(3,aI)],[],[[(0,⟨0,4,220,(.box [qS,qI,qB,(.own 0 1 1 0)])⟩),(1,⟨1,14,210,(.row [])⟩)]]⟩)]⟩ (qCD n) [] [] fun _=>(by kernel_rfl)
theorem qHs:∀n,Ok (Rn n) qOJ (qDC n)
 |0=>ok0 fun _=>rfl
 |n+1=>stO (T:=qIn n) (by kernel_rfl) [] [qLj n] (fun _=>(by kernel_rfl)) fun _=>(by kernel_rfl)
def qTf:Sg:=⟨250,[aI],[],⟨aS,[],[]⟩⟩
def qKe (n:Nat) (x0:Int):Tr (BA):=(.ask (decide (11=([[(.s (⟨#[]⟩:BA))],[(.s (⟨#[83,85,77]⟩:BA))],[(.s (⟨#[77,73,78]⟩:BA))],[(.s (⟨#[77,65,88]⟩:BA))],[(.s (⟨#[67,79,85,78,84]⟩:BA))],[(.s (⟨#[73,70]⟩:BA))],[(.s (⟨#[65,78,68]⟩:BA))],[(.s (⟨#[79,82]⟩:BA))],[(.s (⟨#[78,79,84]⟩:BA))],[(.s (⟨#[65,66,83]⟩:BA))],[(.s (⟨#[76,69,78]⟩:BA))]]:RW).length∧0≤x0∧x0<((11:Nat):Int))) (.opt (([[(.s (⟨#[]⟩:BA))],[(.s (⟨#[83,85,77]⟩:BA))],[(.s (⟨#[77,73,78]⟩:BA))],[(.s (⟨#[77,65,88]⟩:BA))],[(.s (⟨#[67,79,85,78,84]⟩:BA))],[(.s (⟨#[73,70]⟩:BA))],[(.s (⟨#[65,78,68]⟩:BA))],[(.s (⟨#[79,82]⟩:BA))],[(.s (⟨#[78,79,84]⟩:BA))],[(.s (⟨#[65,66,83]⟩:BA))],[(.s (⟨#[76,69,78]⟩:BA))]]:RW)[(x0).toNat]?) fun e104=>(.opt (zT e104 0) fun y105=>(.done y105))) .fail)
def qCi:Nat→Int→Option (BA)
 |0,_=>none
 |n+1,x0=>(qKe n x0).run
theorem qNJ:∀n,Ok (Rn n) qTf (qCi n)
 |0=>ok0 fun _=>rfl
 |n+1=>stO (T:=qKe n) (by kernel_rfl) [] [] (fun _=>(by kernel_rfl)) fun _=>(by kernel_rfl)
def qQd:Sg:=⟨159,[aI],[],⟨aS,[],[]⟩⟩
def qBd (n:Nat) (v:Int×BA):Tr ((Int×BA)⊕((BA))):=(.ask ((decide (v.1>(0:Int)))) (.ask (decide (1=([[(.i .u8 (IntKind.u8.wrap (IntKind.i64.wrap ((65:Int)+(Int.tmod (IntKind.i64.wrap (v.1-(1:Int))) (26:Int))))))]]:RW).length)) (.opt (bytesOf ([[(.i .u8 (IntKind.u8.wrap (IntKind.i64.wrap ((65:Int)+(Int.tmod (IntKind.i64.wrap (v.1-(1:Int))) (26:Int))))))]]:RW)) fun l115=>(.ask (decide ((⟨l115.toArray⟩:BA).size+v.2.size≤9223372036854775807)) (.done (.inl ((IntKind.i64.wrap (Int.tdiv (IntKind.i64.wrap (v.1-(1:Int))) (26:Int))),((⟨l115.toArray⟩:BA)++v.2)))) .fail)) .fail) (.done (.inr (v.2))))
def qE7 (n:Nat) (x0:Int):Tr (BA):=(.opt (qA1 n x0 (1:Int) (52:Int)) fun r114=>(.ask ((!r114)) (.done (⟨#[]⟩:BA)) (.opt (zC (qBd n) n (x0,(⟨#[]⟩:BA))) fun r116=>(.done r116))))
def qDD:Nat→Int→Option (BA)
 |0,_=>none
 |n+1,x0=>(qE7 n x0).run
abbrev qKf (n:Nat):List (Ent (Rn n)):= [en (qD7 n)]
def qNK (n:Nat):LEnt (KB 159) (Rn n) n:=lok (zJ 159) 30 ⟨⟨[(0,aI),(3,aS)],[],[]⟩,[(.exit 0,⟨[(3,aS)],[],[]⟩)]⟩ (qBd n) (qKf n) [] fun _=>(by kernel_rfl)
theorem qJw:∀n,Ok (Rn n) qQd (qDD n)
 |0=>ok0 fun _=>rfl
 |n+1=>stO (T:=qE7 n) (by kernel_rfl) (qKf n) [qNK n] (fun _=>(by kernel_rfl)) fun _=>(by kernel_rfl)
def qQe:Sg:=⟨170,[aS],[],⟨aI,[],[]⟩⟩
def qCj (n:Nat) (v:BA×Int):Tr ((BA×Int)⊕((Int)⊕(Unit))):=(.ask ((decide (v.2≤(52:Int)))) (.opt (qDD n v.2) fun r114=>(.ask ((r114.toList==v.1.toList)) (.done (.inr (.inl (v.2)))) (.done (.inl (v.1,(IntKind.i64.wrap (v.2+(1:Int)))))))) (.done (.inr (.inr (())))))
def qG4 (n:Nat) (x0:BA):Tr (Int):=(.opt (zC (qCj n) n (x0,(1:Int))) fun r115=>(.alt r115 (fun r116=>(.done r116)) (fun r117=>(.done (0:Int)))))
def qCR:Nat→BA→Option (Int)
 |0,_=>none
 |n+1,x0=>(qG4 n x0).run
abbrev qKg (n:Nat):List (Ent (Rn n)):= [en (qJw n)]
def qNL (n:Nat):LEnt (KB 170) (Rn n) n:=lok (zJ 170) 13 ⟨⟨[(0,aS),(3,aI)],[],[]⟩,[(.ret,⟨[(2,aI)],[],[]⟩),(.exit 0,⟨[],[],[]⟩)]⟩ (qCj n) (qKg n) [] fun _=>(by kernel_rfl)
theorem qPY:∀n,Ok (Rn n) qQe (qCR n)
 |0=>ok0 fun _=>rfl
 |n+1=>stO (T:=qG4 n) (by kernel_rfl) (qKg n) [qNL n] (fun _=>(by kernel_rfl)) fun _=>(by kernel_rfl)
def qS0:Sg:=⟨99,[aS,aI],[],⟨(.tup [(false,[qI]),(false,[qB])]),[],[]⟩⟩
def qBm (n:Nat) (v:BA×Int×Int):Tr ((BA×Int×Int)⊕((Int×Bool)⊕(Int))):=(.ask ((decide (v.2.2<(v.1.size:Int)))) (.ask (decide (0≤v.2.2)) (.opt (v.1.toList[(v.2.2).toNat]?) fun c121=>(.ask ((decide ((c121.toNat:Int)<(48:Int)))) (.done (.inr (.inl (((0:Int),false))))) (.ask (decide (0≤v.2.2)) (.opt (v.1.toList[(v.2.2).toNat]?) fun c122=>(.ask ((decide ((c122.toNat:Int)>(57:Int)))) (.done (.inr (.inl (((0:Int),false))))) (.ask (decide (0≤v.2.2)) (.opt (v.1.toList[(v.2.2).toNat]?) fun c123=>(.done (.inl (v.1,(IntKind.i64.wrap ((IntKind.i64.wrap (v.2.1*(10:Int)))+(IntKind.i64.wrap (IntKind.u8.wrap ((c123.toNat:Int)-(48:Int)))))),(IntKind.i64.wrap (v.2.2+(1:Int))))))) .fail))) .fail))) .fail) (.done (.inr (.inr (v.2.1)))))
def qE8 (n:Nat) (x0:BA) (x1:Int):Tr (Int×Bool):=(.ask ((decide ((x0.size:Int)<(1:Int)))) (.done ((0:Int),false)) (.ask ((decide ((x0.size:Int)>x1))) (.done ((0:Int),false)) (.ask (decide (0≤(0:Int))) (.opt (x0.toList[((0:Int)).toNat]?) fun c120=>(.ask (((c120.toNat:Int)==(48:Int))) (.ask ((decide ((x0.size:Int)>(1:Int)))) (.done ((0:Int),false)) (.opt (zC (qBm n) n (x0,(0:Int),(0:Int))) fun r124=>(.alt r124 (fun r125=>(.done (r125.1,r125.2))) (fun r126=>(.done (r126,true)))))) (.opt (zC (qBm n) n (x0,(0:Int),(0:Int))) fun r127=>(.alt r127 (fun r128=>(.done (r128.1,r128.2))) (fun r129=>(.done (r129,true))))))) .fail)))
def qz:Nat→BA→Int→Option (Int×Bool)
 |0,_,_=>none
 |n+1,x0,x1=>(qE8 n x0 x1).run
def qPZ (n:Nat):LEnt (KB 99) (Rn n) n:=lok (zJ 99) 61 ⟨⟨[(0,aS),(6,aI),(7,aI)],[],[]⟩,[(.ret,⟨[(4,aI),(5,aB)],[],[]⟩),(.exit 0,⟨[(6,aI)],[],[]⟩)]⟩ (qBm n) [] [] fun _=>(by kernel_rfl)
theorem qII:∀n,Ok (Rn n) qS0 (qz n)
 |0=>ok0 fun _=>rfl
 |n+1=>stO (T:=qE8 n) (by kernel_rfl) [] [qPZ n] (fun _=>(by kernel_rfl)) fun _=>(by kernel_rfl)
def qOK:Sg:=⟨98,[aS],[],⟨(.tup [(true,[qI,qI,qB,qB]),(false,[qB])]),[],[]⟩⟩
def qAT (n:Nat) (v:BA×Int×Int×Int×Bool×Bool×Int×Int×Bool×Bool):Tr ((BA×Int×Int×Int×Bool×Bool×Int×Int×Bool×Bool)⊕((BA×Int×Int×Int×Bool×Bool×Int×Int×Bool×Bool))):=(.ask ((decide (v.2.1<(v.1.size:Int)))) (.ask (decide (0≤v.2.1)) (.opt (v.1.toList[(v.2.1).toNat]?) fun c111=>(.ask ((decide ((c111.toNat:Int)≥(65:Int)))) (.ask (decide (0≤v.2.1)) (.opt (v.1.toList[(v.2.1).toNat]?) fun c112=>(.ask ((decide ((c112.toNat:Int)≤(90:Int)))) (.done (.inl (v.1,(IntKind.i64.wrap (v.2.1+(1:Int))),v.2.2.1,v.2.2.2.1,v.2.2.2.2.1,v.2.2.2.2.2.1,v.2.2.2.2.2.2.1,v.2.2.2.2.2.2.2.1,v.2.2.2.2.2.2.2.2.1,v.2.2.2.2.2.2.2.2.2))) (.done (.inr ((v.1,v.2.1,v.2.2.1,v.2.2.2.1,v.2.2.2.2.1,v.2.2.2.2.2.1,v.2.2.2.2.2.2.1,v.2.2.2.2.2.2.2.1,v.2.2.2.2.2.2.2.2.1,v.2.2.2.2.2.2.2.2.2)))))) .fail) (.done (.inr ((v.1,v.2.1,v.2.2.1,v.2.2.2.1,v.2.2.2.2.1,v.2.2.2.2.2.1,v.2.2.2.2.2.2.1,v.2.2.2.2.2.2.2.1,v.2.2.2.2.2.2.2.2.1,v.2.2.2.2.2.2.2.2.2)))))) .fail) (.done (.inr ((v.1,v.2.1,v.2.2.1,v.2.2.2.1,v.2.2.2.2.1,v.2.2.2.2.2.1,v.2.2.2.2.2.2.1,v.2.2.2.2.2.2.2.1,v.2.2.2.2.2.2.2.2.1,v.2.2.2.2.2.2.2.2.2)))))
def qCO (n:Nat) (x0:BA):Tr (Int×Int×Bool×Bool×Bool):=(.ask ((decide ((x0.size:Int)>(0:Int)))) (.ask (decide (0≤(0:Int))) (.opt (x0.toList[((0:Int)).toNat]?) fun c110=>(.ask (((c110.toNat:Int)==(36:Int))) (.ask (decide (0≤(1:Int)∧(1:Int)≤(x0.size:Int)∧(x0.size:Int)≤x0.size)) (.opt (zC (qAT n) n ((x0.extract ((1:Int)).toNat ((x0.size:Int)).toNat),(0:Int),(0:Int),(0:Int),false,false,(0:Int),(0:Int),true,false)) fun r113=>(.ask (decide (0≤(0:Int)∧(0:Int)≤r113.2.1∧r113.2.1≤r113.1.size)) (.opt (qCR n (r113.1.extract ((0:Int)).toNat (r113.2.1).toNat)) fun r118=>(.ask (decide (0≤r113.2.1∧r113.2.1≤(r113.1.size:Int)∧(r113.1.size:Int)≤r113.1.size)) (.ask ((decide (((r113.1.extract (r113.2.1).toNat ((r113.1.size:Int)).toNat).size:Int)>(0:Int)))) (.ask (decide (0≤(0:Int))) (.opt ((r113.1.extract (r113.2.1).toNat ((r113.1.size:Int)).toNat).toList[((0:Int)).toNat]?) fun c119=>(.ask (((c119.toNat:Int)==(36:Int))) (.ask (decide (0≤(1:Int)∧(1:Int)≤((r113.1.extract (r113.2.1).toNat ((r113.1.size:Int)).toNat).size:Int)∧((r113.1.extract (r113.2.1).toNat ((r113.1.size:Int)).toNat).size:Int)≤(r113.1.extract (r113.2.1).toNat ((r113.1.size:Int)).toNat).size)) (.opt (qz n ((r113.1.extract (r113.2.1).toNat ((r113.1.size:Int)).toNat).extract ((1:Int)).toNat (((r113.1.extract (r113.2.1).toNat ((r113.1.size:Int)).toNat).size:Int)).toNat) (2:Int)) fun r130=>(.ask ((!r130.2)) (.done ((0:Int),(0:Int),false,false,false)) (.opt (qAP n r118 r130.1) fun r131=>(.ask ((!r131)) (.done ((0:Int),(0:Int),false,false,false)) (.done (r118,r130.1,r113.2.2.2.2.2.2.2.2.1,true,true)))))) .fail) (.opt (qz n (r113.1.extract (r113.2.1).toNat ((r113.1.size:Int)).toNat) (2:Int)) fun r132=>(.ask ((!r132.2)) (.done ((0:Int),(0:Int),false,false,false)) (.opt (qAP n r118 r132.1) fun r133=>(.ask ((!r133)) (.done ((0:Int),(0:Int),false,false,false)) (.done (r118,r132.1,r113.2.2.2.2.2.2.2.2.1,r113.2.2.2.2.2.2.2.2.2,true)))))))) .fail) (.opt (qz n (r113.1.extract (r113.2.1).toNat ((r113.1.size:Int)).toNat) (2:Int)) fun r134=>(.ask ((!r134.2)) (.done ((0:Int),(0:Int),false,false,false)) (.opt (qAP n r118 r134.1) fun r135=>(.ask ((!r135)) (.done ((0:Int),(0:Int),false,false,false)) (.done (r118,r134.1,r113.2.2.2.2.2.2.2.2.1,r113.2.2.2.2.2.2.2.2.2,true))))))) .fail)) .fail)) .fail) (.opt (zC (qAT n) n (x0,(0:Int),(0:Int),(0:Int),false,false,(0:Int),(0:Int),false,false)) fun r136=>(.ask (decide (0≤(0:Int)∧(0:Int)≤r136.2.1∧r136.2.1≤r136.1.size)) (.opt (qCR n (r136.1.extract ((0:Int)).toNat (r136.2.1).toNat)) fun r137=>(.ask (decide (0≤r136.2.1∧r136.2.1≤(r136.1.size:Int)∧(r136.1.size:Int)≤r136.1.size)) (.ask ((decide (((r136.1.extract (r136.2.1).toNat ((r136.1.size:Int)).toNat).size:Int)>(0:Int)))) (.ask (decide (0≤(0:Int))) (.opt ((r136.1.extract (r136.2.1).toNat ((r136.1.size:Int)).toNat).toList[((0:Int)).toNat]?) fun c138=>(.ask (((c138.toNat:Int)==(36:Int))) (.ask (decide (0≤(1:Int)∧(1:Int)≤((r136.1.extract (r136.2.1).toNat ((r136.1.size:Int)).toNat).size:Int)∧((r136.1.extract (r136.2.1).toNat ((r136.1.size:Int)).toNat).size:Int)≤(r136.1.extract (r136.2.1).toNat ((r136.1.size:Int)).toNat).size)) (.opt (qz n ((r136.1.extract (r136.2.1).toNat ((r136.1.size:Int)).toNat).extract ((1:Int)).toNat (((r136.1.extract (r136.2.1).toNat ((r136.1.size:Int)).toNat).size:Int)).toNat) (2:Int)) fun r139=>(.ask ((!r139.2)) (.done ((0:Int),(0:Int),false,false,false)) (.opt (qAP n r137 r139.1) fun r140=>(.ask ((!r140)) (.done ((0:Int),(0:Int),false,false,false)) (.done (r137,r139.1,r136.2.2.2.2.2.2.2.2.1,true,true)))))) .fail) (.opt (qz n (r136.1.extract (r136.2.1).toNat ((r136.1.size:Int)).toNat) (2:Int)) fun r141=>(.ask ((!r141.2)) (.done ((0:Int),(0:Int),false,false,false)) (.opt (qAP n r137 r141.1) fun r142=>(.ask ((!r142)) (.done ((0:Int),(0:Int),false,false,false)) (.done (r137,r141.1,r136.2.2.2.2.2.2.2.2.1,r136.2.2.2.2.2.2.2.2.2,true)))))))) .fail) (.opt (qz n (r136.1.extract (r136.2.1).toNat ((r136.1.size:Int)).toNat) (2:Int)) fun r143=>(.ask ((!r143.2)) (.done ((0:Int),(0:Int),false,false,false)) (.opt (qAP n r137 r143.1) fun r144=>(.ask ((!r144)) (.done ((0:Int),(0:Int),false,false,false)) (.done (r137,r143.1,r136.2.2.2.2.2.2.2.2.1,r136.2.2.2.2.2.2.2.2.2,true))))))) .fail)) .fail)))) .fail) (.opt (zC (qAT n) n (x0,(0:Int),(0:Int),(0:Int),false,false,(0:Int),(0:Int),false,false)) fun r145=>(.ask (decide (0≤(0:Int)∧(0:Int)≤r145.2.1∧r145.2.1≤r145.1.size)) (.opt (qCR n (r145.1.extract ((0:Int)).toNat (r145.2.1).toNat)) fun r146=>(.ask (decide (0≤r145.2.1∧r145.2.1≤(r145.1.size:Int)∧(r145.1.size:Int)≤r145.1.size)) (.ask ((decide (((r145.1.extract (r145.2.1).toNat ((r145.1.size:Int)).toNat).size:Int)>(0:Int)))) (.ask (decide (0≤(0:Int))) (.opt ((r145.1.extract (r145.2.1).toNat ((r145.1.size:Int)).toNat).toList[((0:Int)).toNat]?) fun c147=>(.ask (((c147.toNat:Int)==(36:Int))) (.ask (decide (0≤(1:Int)∧(1:Int)≤((r145.1.extract (r145.2.1).toNat ((r145.1.size:Int)).toNat).size:Int)∧((r145.1.extract (r145.2.1).toNat ((r145.1.size:Int)).toNat).size:Int)≤(r145.1.extract (r145.2.1).toNat ((r145.1.size:Int)).toNat).size)) (.opt (qz n ((r145.1.extract (r145.2.1).toNat ((r145.1.size:Int)).toNat).extract ((1:Int)).toNat (((r145.1.extract (r145.2.1).toNat ((r145.1.size:Int)).toNat).size:Int)).toNat) (2:Int)) fun r148=>(.ask ((!r148.2)) (.done ((0:Int),(0:Int),false,false,false)) (.opt (qAP n r146 r148.1) fun r149=>(.ask ((!r149)) (.done ((0:Int),(0:Int),false,false,false)) (.done (r146,r148.1,r145.2.2.2.2.2.2.2.2.1,true,true)))))) .fail) (.opt (qz n (r145.1.extract (r145.2.1).toNat ((r145.1.size:Int)).toNat) (2:Int)) fun r150=>(.ask ((!r150.2)) (.done ((0:Int),(0:Int),false,false,false)) (.opt (qAP n r146 r150.1) fun r151=>(.ask ((!r151)) (.done ((0:Int),(0:Int),false,false,false)) (.done (r146,r150.1,r145.2.2.2.2.2.2.2.2.1,r145.2.2.2.2.2.2.2.2.2,true)))))))) .fail) (.opt (qz n (r145.1.extract (r145.2.1).toNat ((r145.1.size:Int)).toNat) (2:Int)) fun r152=>(.ask ((!r152.2)) (.done ((0:Int),(0:Int),false,false,false)) (.opt (qAP n r146 r152.1) fun r153=>(.ask ((!r153)) (.done ((0:Int),(0:Int),false,false,false)) (.done (r146,r152.1,r145.2.2.2.2.2.2.2.2.1,r145.2.2.2.2.2.2.2.2.2,true))))))) .fail)) .fail)))
def qAw:Nat→BA→Option (Int×Int×Bool×Bool×Bool)
 |0,_=>none
 |n+1,x0=>(qCO n x0).run
abbrev qIo (n:Nat):List (Ent (Rn n)):= [en (qPY n),en (qII n),en (qER n)]
def qLk (n:Nat):LEnt (KB 98) (Rn n) n:=lok (zJ 98) 62 ⟨⟨[(0,aS),(2,(.c (.ptr 0 128 0 0 0))),(4,(.c (.ptr 0 256 0 0 0))),(5,aI)],[(128,⟨0,4,127,(.box [qI,qI,qB,qB])⟩),(256,⟨0,4,127,(.box [qI,qI,qB,qB])⟩)],[]⟩,[(.exit 0,⟨[(0,aS),(2,(.c (.ptr 0 128 0 0 0))),(4,(.c (.ptr 0 256 0 0 0))),(5,aI)],[(128,⟨0,4,127,(.box [qI,qI,qB,qB])⟩),(256,⟨0,4,127,(.box [qI,qI,qB,qB])⟩)],[]⟩)]⟩ (qAT n) (qIo n) [] fun _=>(by kernel_rfl)
theorem qHt:∀n,Ok (Rn n) qOK (qAw n)
 |0=>ok0 fun _=>rfl
 |n+1=>stO (T:=qCO n) (by kernel_rfl) (qIo n) [qLk n] (fun _=>(by kernel_rfl)) fun _=>(by kernel_rfl)
def qOL:Sg:=⟨127,[aS],[],⟨(.tup [(true,[qI,qI,qS]),(false,[qB])]),[],[]⟩⟩
def qBe (n:Nat) (v:BA×Int×Int×Int×BA×Int×Int×BA):Tr ((BA×Int×Int×Int×BA×Int×Int×BA)⊕((Int×Int×BA×Int×Int×BA))):=(.ask ((decide (v.2.1≤(5:Int)))) (.opt (qBa n v.2.1) fun r117=>(.ask ((r117.toList==v.1.toList)) (.done (.inl (v.1,(IntKind.i64.wrap (v.2.1+(1:Int))),v.2.2.1,v.2.2.2.1,v.2.2.2.2.1,v.2.2.2.2.2.1,v.2.1,v.2.2.2.2.2.2.2))) (.done (.inl (v.1,(IntKind.i64.wrap (v.2.1+(1:Int))),v.2.2.1,v.2.2.2.1,v.2.2.2.2.1,v.2.2.2.2.2.1,v.2.2.2.2.2.2.1,v.2.2.2.2.2.2.2))))) (.done (.inr ((v.2.2.1,v.2.2.2.1,v.2.2.2.2.1,v.2.2.2.2.2.1,v.2.2.2.2.2.2.1,v.2.2.2.2.2.2.2)))))
def qBA (n:Nat) (x0:BA):Tr (Int×Int×BA×Bool):=(.ask ((x0.toList==(⟨#[]⟩:BA).toList)) (.done ((0:Int),(0:Int),(⟨#[]⟩:BA),true)) (.ask (decide (0≤(0:Int))) (.opt (x0.toList[((0:Int)).toNat]?) fun c110=>(.ask (((c110.toNat:Int)==(39:Int))) (.ask (decide (0≤(1:Int)∧(1:Int)≤(x0.size:Int)∧(x0.size:Int)≤x0.size)) (.opt (qY n (2:Int) (0:Int) (x0.extract ((1:Int)).toNat ((x0.size:Int)).toNat)) fun r111=>(.ask ((!r111)) (.done ((0:Int),(0:Int),(⟨#[]⟩:BA),false)) (.done ((2:Int),(0:Int),(x0.extract ((1:Int)).toNat ((x0.size:Int)).toNat),true)))) .fail) (.ask ((x0.toList==(⟨#[84,82,85,69]⟩:BA).toList)) (.ask ((x0.toList==(⟨#[84,82,85,69]⟩:BA).toList)) (.opt (qY n (3:Int) (1:Int) (⟨#[]⟩:BA)) fun r112=>(.ask ((!r112)) (.done ((0:Int),(0:Int),(⟨#[]⟩:BA),false)) (.done ((3:Int),(1:Int),(⟨#[]⟩:BA),true)))) (.opt (qY n (3:Int) (0:Int) (⟨#[]⟩:BA)) fun r113=>(.ask ((!r113)) (.done ((0:Int),(0:Int),(⟨#[]⟩:BA),false)) (.done ((3:Int),(0:Int),(⟨#[]⟩:BA),true))))) (.ask ((x0.toList==(⟨#[70,65,76,83,69]⟩:BA).toList)) (.ask ((x0.toList==(⟨#[84,82,85,69]⟩:BA).toList)) (.opt (qY n (3:Int) (1:Int) (⟨#[]⟩:BA)) fun r114=>(.ask ((!r114)) (.done ((0:Int),(0:Int),(⟨#[]⟩:BA),false)) (.done ((3:Int),(1:Int),(⟨#[]⟩:BA),true)))) (.opt (qY n (3:Int) (0:Int) (⟨#[]⟩:BA)) fun r115=>(.ask ((!r115)) (.done ((0:Int),(0:Int),(⟨#[]⟩:BA),false)) (.done ((3:Int),(0:Int),(⟨#[]⟩:BA),true))))) (.ask (decide (0≤(0:Int))) (.opt (x0.toList[((0:Int)).toNat]?) fun c116=>(.ask (((c116.toNat:Int)==(35:Int))) (.opt (zC (qBe n) n (x0,(1:Int),(0:Int),(0:Int),(⟨#[]⟩:BA),(4:Int),(0:Int),(⟨#[]⟩:BA))) fun r118=>(.opt (qY n r118.2.2.2.1 r118.2.2.2.2.1 r118.2.2.2.2.2) fun r119=>(.ask ((!r119)) (.done ((0:Int),(0:Int),(⟨#[]⟩:BA),false)) (.done (r118.2.2.2.1,r118.2.2.2.2.1,r118.2.2.2.2.2,true))))) (.ask (decide (0≤(0:Int))) (.opt (x0.toList[((0:Int)).toNat]?) fun c120=>(.ask (((c120.toNat:Int)==(45:Int))) (.ask (decide (0≤(1:Int)∧(1:Int)≤(x0.size:Int)∧(x0.size:Int)≤x0.size)) (.opt (qz n (x0.extract ((1:Int)).toNat ((x0.size:Int)).toNat) (16:Int)) fun r121=>(.ask ((!r121.2)) (.done ((0:Int),(0:Int),(⟨#[]⟩:BA),false)) (.ask (((c120.toNat:Int)==(45:Int))) (.ask ((r121.1==(0:Int))) (.done ((0:Int),(0:Int),(⟨#[]⟩:BA),false)) (.ask (((c120.toNat:Int)==(45:Int))) (.opt (qY n (1:Int) (IntKind.i64.wrap (0-r121.1)) (⟨#[]⟩:BA)) fun r122=>(.ask ((!r122)) (.done ((0:Int),(0:Int),(⟨#[]⟩:BA),false)) (.done ((1:Int),(IntKind.i64.wrap (0-r121.1)),(⟨#[]⟩:BA),true)))) (.opt (qY n (1:Int) r121.1 (⟨#[]⟩:BA)) fun r123=>(.ask ((!r123)) (.done ((0:Int),(0:Int),(⟨#[]⟩:BA),false)) (.done ((1:Int),r121.1,(⟨#[]⟩:BA),true)))))) (.ask (((c120.toNat:Int)==(45:Int))) (.opt (qY n (1:Int) (IntKind.i64.wrap (0-r121.1)) (⟨#[]⟩:BA)) fun r124=>(.ask ((!r124)) (.done ((0:Int),(0:Int),(⟨#[]⟩:BA),false)) (.done ((1:Int),(IntKind.i64.wrap (0-r121.1)),(⟨#[]⟩:BA),true)))) (.opt (qY n (1:Int) r121.1 (⟨#[]⟩:BA)) fun r125=>(.ask ((!r125)) (.done ((0:Int),(0:Int),(⟨#[]⟩:BA),false)) (.done ((1:Int),r121.1,(⟨#[]⟩:BA),true)))))))) .fail) (.opt (qz n x0 (16:Int)) fun r126=>(.ask ((!r126.2)) (.done ((0:Int),(0:Int),(⟨#[]⟩:BA),false)) (.ask (((c120.toNat:Int)==(45:Int))) (.ask ((r126.1==(0:Int))) (.done ((0:Int),(0:Int),(⟨#[]⟩:BA),false)) (.ask (((c120.toNat:Int)==(45:Int))) (.opt (qY n (1:Int) (IntKind.i64.wrap (0-r126.1)) (⟨#[]⟩:BA)) fun r127=>(.ask ((!r127)) (.done ((0:Int),(0:Int),(⟨#[]⟩:BA),false)) (.done ((1:Int),(IntKind.i64.wrap (0-r126.1)),(⟨#[]⟩:BA),true)))) (.opt (qY n (1:Int) r126.1 (⟨#[]⟩:BA)) fun r128=>(.ask ((!r128)) (.done ((0:Int),(0:Int),(⟨#[]⟩:BA),false)) (.done ((1:Int),r126.1,(⟨#[]⟩:BA),true)))))) (.ask (((c120.toNat:Int)==(45:Int))) (.opt (qY n (1:Int) (IntKind.i64.wrap (0-r126.1)) (⟨#[]⟩:BA)) fun r129=>(.ask ((!r129)) (.done ((0:Int),(0:Int),(⟨#[]⟩:BA),false)) (.done ((1:Int),(IntKind.i64.wrap (0-r126.1)),(⟨#[]⟩:BA),true)))) (.opt (qY n (1:Int) r126.1 (⟨#[]⟩:BA)) fun r130=>(.ask ((!r130)) (.done ((0:Int),(0:Int),(⟨#[]⟩:BA),false)) (.done ((1:Int),r126.1,(⟨#[]⟩:BA),true)))))))))) .fail))) .fail))))) .fail))
def qAM:Nat→BA→Option (Int×Int×BA×Bool)
 |0,_=>none
 |n+1,x0=>(qBA n x0).run
abbrev qIp (n:Nat):List (Ent (Rn n)):= [en (qEa n),en (qG2 n),en (qII n)]
def qJK (n:Nat):LEnt (KB 127) (Rn n) n:=lok (zJ 127) 15355 ⟨⟨[(0,aS),(2,(.c (.ptr 0 128 0 0 0))),(4,(.c (.ptr 0 256 0 0 0))),(5,aI)],[(128,⟨0,3,107,(.box [qI,qI,qS])⟩),(256,⟨0,3,107,(.box [qI,qI,qS])⟩)],[]⟩,[(.exit 1,⟨[(2,(.c (.ptr 0 128 0 0 0))),(4,(.c (.ptr 0 256 0 0 0)))],[(128,⟨0,3,107,(.box [qI,qI,qS])⟩),(256,⟨0,3,107,(.box [qI,qI,qS])⟩)],[]⟩)]⟩ (qBe n) (qIp n) [] fun _=>(by kernel_rfl)
theorem qHu:∀n,Ok (Rn n) qOL (qAM n)
 |0=>ok0 fun _=>rfl
 |n+1=>stO (T:=qBA n) (by kernel_rfl) (qIp n) [qJK n] (fun _=>(by kernel_rfl)) fun _=>(by kernel_rfl)
def qQf:Sg:=⟨249,[aI],[],⟨aI,[],[]⟩⟩
def qG5 (n:Nat) (x0:Int):Tr (Int):=(.ask ((decide (x0≥(6:Int)))) (.done (1:Int)) (.ask ((x0==(5:Int))) (.done (2:Int)) (.ask ((decide (x0≥(3:Int)))) (.done (4:Int)) (.done (3:Int)))))
def qCS:Nat→Int→Option (Int)
 |0,_=>none
 |n+1,x0=>(qG5 n x0).run
theorem qJx:∀n,Ok (Rn n) qQf (qCS n)
 |0=>ok0 fun _=>rfl
 |n+1=>stO (T:=qG5 n) (by kernel_rfl) [] [] (fun _=>(by kernel_rfl)) fun _=>(by kernel_rfl)
def qRp:Sg:=⟨198,[aI],[],⟨aS,[],[]⟩⟩
def qIJ (n:Nat) (x0:Int):Tr (BA):=(.ask (decide (12=([[(.s (⟨#[]⟩:BA))],[(.s (⟨#[43]⟩:BA))],[(.s (⟨#[45]⟩:BA))],[(.s (⟨#[42]⟩:BA))],[(.s (⟨#[47]⟩:BA))],[(.s (⟨#[38]⟩:BA))],[(.s (⟨#[61]⟩:BA))],[(.s (⟨#[60,62]⟩:BA))],[(.s (⟨#[60]⟩:BA))],[(.s (⟨#[60,61]⟩:BA))],[(.s (⟨#[62]⟩:BA))],[(.s (⟨#[62,61]⟩:BA))]]:RW).length∧0≤x0∧x0<((12:Nat):Int))) (.opt (([[(.s (⟨#[]⟩:BA))],[(.s (⟨#[43]⟩:BA))],[(.s (⟨#[45]⟩:BA))],[(.s (⟨#[42]⟩:BA))],[(.s (⟨#[47]⟩:BA))],[(.s (⟨#[38]⟩:BA))],[(.s (⟨#[61]⟩:BA))],[(.s (⟨#[60,62]⟩:BA))],[(.s (⟨#[60]⟩:BA))],[(.s (⟨#[60,61]⟩:BA))],[(.s (⟨#[62]⟩:BA))],[(.s (⟨#[62,61]⟩:BA))]]:RW)[(x0).toNat]?) fun e144=>(.opt (zT e144 0) fun y145=>(.done y145))) .fail)
def qC0:Nat→Int→Option (BA)
 |0,_=>none
 |n+1,x0=>(qIJ n x0).run
theorem qKh:∀n,Ok (Rn n) qRp (qC0 n)
 |0=>ok0 fun _=>rfl
 |n+1=>stO (T:=qIJ n) (by kernel_rfl) [] [] (fun _=>(by kernel_rfl)) fun _=>(by kernel_rfl)
def qQg:Sg:=⟨243,[(.c (.ptr 0 0 0 0 0)),aI],[[(0,⟨0,4,220,(.box [qS,qI,qB,(.own 0 1 1 0)])⟩),(1,⟨1,14,210,(.row [])⟩)]],⟨aI,[[(0,⟨0,4,220,(.box [qS,qI,qB,(.own 0 1 1 0)])⟩),(1,⟨1,14,210,(.row [])⟩)]],[]⟩⟩
def qE9 (n:Nat) (v:Int×Nat×Int×RW×BA×Int×Bool×Nat×RW):Tr ((Int×Nat×Int×RW×BA×Int×Bool×Nat×RW)⊕((Int×BA×Int×Bool×Nat×RW)⊕(BA×Int×Bool×Nat×RW))):=(.ask ((decide (v.2.2.1<((v.2.1:Nat):Int)))) (.ask (decide (v.2.1=v.2.2.2.1.length∧0≤v.2.2.1∧v.2.2.1<((v.2.1:Nat):Int))) (.opt (v.2.2.2.1[(v.2.2.1).toNat]?) fun e139=>(.opt (zD .i64 e139 0) fun y140=>(.opt (qCS n y140) fun r141=>(.ask ((r141==v.1)) (.ask (decide (v.2.1=v.2.2.2.1.length∧0≤v.2.2.1∧v.2.2.1<((v.2.1:Nat):Int))) (.opt (v.2.2.2.1[(v.2.2.1).toNat]?) fun e142=>(.opt (zD .i64 e142 0) fun y143=>(.opt (qC0 n y143) fun r144=>(.opt (qAK n r144 v.2.2.2.2.1 v.2.2.2.2.2.1 v.2.2.2.2.2.2.1 v.2.2.2.2.2.2.2.1 v.2.2.2.2.2.2.2.2) fun r145=>(.ask (r145.1) (.ask (decide (v.2.1=v.2.2.2.1.length∧0≤v.2.2.1∧v.2.2.1<((v.2.1:Nat):Int))) (.opt (v.2.2.2.1[(v.2.2.1).toNat]?) fun e146=>(.opt (zD .i64 e146 0) fun y147=>(.done (.inr (.inl ((y147,r145.2.1,r145.2.2.1,r145.2.2.2.1,r145.2.2.2.2.1,r145.2.2.2.2.2))))))) .fail) (.done (.inl (v.1,v.2.1,(IntKind.i64.wrap (v.2.2.1+(1:Int))),v.2.2.2.1,r145.2.1,r145.2.2.1,r145.2.2.2.1,r145.2.2.2.2.1,r145.2.2.2.2.2)))))))) .fail) (.done (.inl (v.1,v.2.1,(IntKind.i64.wrap (v.2.2.1+(1:Int))),v.2.2.2.1,v.2.2.2.2.1,v.2.2.2.2.2.1,v.2.2.2.2.2.2.1,v.2.2.2.2.2.2.2.1,v.2.2.2.2.2.2.2.2))))))) .fail) (.done (.inr (.inr ((v.2.2.2.2.1,v.2.2.2.2.2.1,v.2.2.2.2.2.2.1,v.2.2.2.2.2.2.2.1,v.2.2.2.2.2.2.2.2))))))
def qKi (n:Nat) (x0:Int) (x1:BA) (x2:Int) (x3:Bool) (x4:Nat) (x5:RW):Tr (Int×BA×Int×Bool×Nat×RW):=(.opt (zC (qE9 n) n (x0,(11:Nat),(0:Int),([[(.i .i64 (7:Int))],[(.i .i64 (9:Int))],[(.i .i64 (11:Int))],[(.i .i64 (6:Int))],[(.i .i64 (8:Int))],[(.i .i64 (10:Int))],[(.i .i64 (1:Int))],[(.i .i64 (2:Int))],[(.i .i64 (3:Int))],[(.i .i64 (4:Int))],[(.i .i64 (5:Int))]]:RW),x1,x2,x3,x4,x5)) fun r148=>(.alt r148 (fun r149=>(.done (r149.1,r149.2.1,r149.2.2.1,r149.2.2.2.1,r149.2.2.2.2.1,r149.2.2.2.2.2))) (fun r150=>(.done ((0:Int),r150.1,r150.2.1,r150.2.2.1,r150.2.2.2.1,r150.2.2.2.2)))))
def qFA:Nat→Int→BA→Int→Bool→Nat→RW→Option (Int×BA×Int×Bool×Nat×RW)
 |0,_,_,_,_,_,_=>none
 |n+1,x0,x1,x2,x3,x4,x5=>(qKi n x0 x1 x2 x3 x4 x5).run
abbrev qKj (n:Nat):List (Ent (Rn n)):= [en (qJx n),en (qKh n),en (qEZ n)]
def qNM (n:Nat):LEnt (KB 243) (Rn n) n:=lok (zJ 243) 29 ⟨⟨[(0,(.c (.ptr 0 0 0 0 0))),(1,aI),(5,(.c (.own 1 448 0 0))),(6,aI)],[(448,⟨0,1,2,(.row [])⟩)],[[(0,⟨0,4,220,(.box [qS,qI,qB,(.own 0 1 1 0)])⟩),(1,⟨1,14,210,(.row [])⟩)]]⟩,[(.ret,⟨[(4,aI)],[],[[(0,⟨0,4,220,(.box [qS,qI,qB,(.own 0 1 1 0)])⟩),(1,⟨1,14,210,(.row [])⟩)]]⟩),(.exit 0,⟨[],[],[[(0,⟨0,4,220,(.box [qS,qI,qB,(.own 0 1 1 0)])⟩),(1,⟨1,14,210,(.row [])⟩)]]⟩)]⟩ (qE9 n) (qKj n) [] fun _=>(by kernel_rfl)
theorem qPa:∀n,Ok (Rn n) qQg (qFA n)
 |0=>ok0 fun _=>rfl
 |n+1=>stO (T:=qKi n) (by kernel_rfl) (qKj n) [qNM n] (fun _=>(by kernel_rfl)) fun _=>(by kernel_rfl)
def qJy:Sg:=⟨187,[(.c (.ptr 0 0 0 0 0)),aI],[[(0,⟨0,4,220,(.box [qS,qI,qB,(.own 0 1 1 0)])⟩),(1,⟨1,14,210,(.row [])⟩)]],⟨aI,[[(0,⟨0,4,220,(.box [qS,qI,qB,(.own 0 1 1 0)])⟩),(1,⟨1,14,210,(.row [])⟩)]],[]⟩⟩
def qPb:Sg:=⟨242,[(.c (.ptr 0 0 0 0 0))],[[(0,⟨0,4,220,(.box [qS,qI,qB,(.own 0 1 1 0)])⟩),(1,⟨1,14,210,(.row [])⟩)]],⟨aI,[[(0,⟨0,4,220,(.box [qS,qI,qB,(.own 0 1 1 0)])⟩),(1,⟨1,14,210,(.row [])⟩)]],[]⟩⟩
def qOM:Sg:=⟨292,[(.c (.ptr 0 0 0 0 0)),aI],[[(0,⟨0,4,220,(.box [qS,qI,qB,(.own 0 1 1 0)])⟩),(1,⟨1,14,210,(.row [])⟩)]],⟨aI,[[(0,⟨0,4,220,(.box [qS,qI,qB,(.own 0 1 1 0)])⟩),(1,⟨1,14,210,(.row [])⟩)]],[]⟩⟩
def qPc:Sg:=⟨326,[(.c (.ptr 0 0 0 0 0))],[[(0,⟨0,4,220,(.box [qS,qI,qB,(.own 0 1 1 0)])⟩),(1,⟨1,14,210,(.row [])⟩)]],⟨aI,[[(0,⟨0,4,220,(.box [qS,qI,qB,(.own 0 1 1 0)])⟩),(1,⟨1,14,210,(.row [])⟩)]],[]⟩⟩
structure G_spec_l3Rd_row where
 spec_l3Rd_row:Int→BA→Int→Bool→Nat→RW→Option (Int×BA×Int×Bool×Nat×RW)
 spec_l3Rd_one:BA→Int→Bool→Nat→RW→Option (Int×BA×Int×Bool×Nat×RW)
 spec_l3Rd_call:Int→BA→Int→Bool→Nat→RW→Option (Int×BA×Int×Bool×Nat×RW)
 spec_l3Rd_arg:BA→Int→Bool→Nat→RW→Option (Int×BA×Int×Bool×Nat×RW)
def qEl (rec:G_spec_l3Rd_row) (n:Nat) (v:Int×Int×BA×Int×Bool×Nat×RW):Tr ((Int×Int×BA×Int×Bool×Nat×RW)⊕((Int×BA×Int×Bool×Nat×RW)⊕(Int×BA×Int×Bool×Nat×RW))):=(.ask ((!v.2.2.2.2.1)) (.opt (qFA n v.1 v.2.2.1 v.2.2.2.1 v.2.2.2.2.1 v.2.2.2.2.2.1 v.2.2.2.2.2.2) fun r139=>(.ask ((r139.1==(0:Int))) (.done (.inr (.inl ((v.2.1,r139.2.1,r139.2.2.1,r139.2.2.2.1,r139.2.2.2.2.1,r139.2.2.2.2.2))))) (.opt (rec.spec_l3Rd_row (IntKind.i64.wrap (v.1+(1:Int))) r139.2.1 r139.2.2.1 r139.2.2.2.1 r139.2.2.2.2.1 r139.2.2.2.2.2) fun r140=>(.ask (decide (2=([[(.i .i64 v.2.1)],[(.i .i64 r140.1)]]:RW).length)) (.opt (qx n (5:Int) r139.1 (0:Int) (0:Int) (⟨#[]⟩:BA) (0:Int) (0:Int) false false (0:Int) (0:Int) false false ([[(.i .i64 v.2.1)],[(.i .i64 r140.1)]]:RW) r140.2.1 r140.2.2.1 r140.2.2.2.1 r140.2.2.2.2.1 r140.2.2.2.2.2) fun r141=>(.done (.inl (v.1,r141.1,r141.2.1,r141.2.2.1,r141.2.2.2.1,r141.2.2.2.2.1,r141.2.2.2.2.2)))) .fail)))) (.done (.inr (.inr ((v.2.1,v.2.2.1,v.2.2.2.1,v.2.2.2.2.1,v.2.2.2.2.2.1,v.2.2.2.2.2.2))))))
def qJz (rec:G_spec_l3Rd_row) (n:Nat) (x0:Int) (x1:BA) (x2:Int) (x3:Bool) (x4:Nat) (x5:RW):Tr (Int×BA×Int×Bool×Nat×RW):=(.ask (x3) (.done ((0:Int),x1,x2,x3,x4,x5)) (.ask ((x0==(5:Int))) (.opt (rec.spec_l3Rd_one x1 x2 x3 x4 x5) fun r137=>(.done (r137.1,r137.2.1,r137.2.2.1,r137.2.2.2.1,r137.2.2.2.2.1,r137.2.2.2.2.2))) (.opt (rec.spec_l3Rd_row (IntKind.i64.wrap (x0+(1:Int))) x1 x2 x3 x4 x5) fun r138=>(.opt (zC (qEl rec n) n (x0,r138.1,r138.2.1,r138.2.2.1,r138.2.2.2.1,r138.2.2.2.2.1,r138.2.2.2.2.2)) fun r142=>(.alt r142 (fun r143=>(.done (r143.1,r143.2.1,r143.2.2.1,r143.2.2.2.1,r143.2.2.2.2.1,r143.2.2.2.2.2))) (fun r144=>(.done (r144.1,r144.2.1,r144.2.2.1,r144.2.2.2.1,r144.2.2.2.2.1,r144.2.2.2.2.2))))))))
def qCk (n:Nat) (v:Int×BA×Int×Bool×Nat×RW):Tr ((Int×BA×Int×Bool×Nat×RW)⊕((Int×BA×Int×Bool×Nat×RW)⊕(BA×Int×Bool×Nat×RW))):=(.ask ((decide (v.1≤(5:Int)))) (.opt (qBa n v.1) fun r86=>(.ask (decide (0≤(1:Int)∧(1:Int)≤(r86.size:Int)∧(r86.size:Int)≤r86.size)) (.ask ((decide ((IntKind.i64.wrap (v.2.2.1+((r86.extract ((1:Int)).toNat ((r86.size:Int)).toNat).size:Int)))≤(v.2.1.size:Int)))) (.ask (decide (0≤v.2.2.1∧v.2.2.1≤(IntKind.i64.wrap (v.2.2.1+((r86.extract ((1:Int)).toNat ((r86.size:Int)).toNat).size:Int)))∧(IntKind.i64.wrap (v.2.2.1+((r86.extract ((1:Int)).toNat ((r86.size:Int)).toNat).size:Int)))≤v.2.1.size)) (.ask (((v.2.1.extract (v.2.2.1).toNat ((IntKind.i64.wrap (v.2.2.1+((r86.extract ((1:Int)).toNat ((r86.size:Int)).toNat).size:Int)))).toNat).toList==(r86.extract ((1:Int)).toNat ((r86.size:Int)).toNat).toList)) (.opt (qDB n v.1) fun r87=>(.opt (qx n (1:Int) (0:Int) r87.1 r87.2.1 r87.2.2 (0:Int) (0:Int) false false (0:Int) (0:Int) false false ([]:RW) v.2.1 (IntKind.i64.wrap (v.2.2.1+((r86.extract ((1:Int)).toNat ((r86.size:Int)).toNat).size:Int))) v.2.2.2.1 v.2.2.2.2.1 v.2.2.2.2.2) fun r88=>(.done (.inr (.inl ((r88.1,r88.2.1,r88.2.2.1,r88.2.2.2.1,r88.2.2.2.2.1,r88.2.2.2.2.2))))))) (.done (.inl ((IntKind.i64.wrap (v.1+(1:Int))),v.2.1,v.2.2.1,v.2.2.2.1,v.2.2.2.2.1,v.2.2.2.2.2)))) .fail) (.done (.inl ((IntKind.i64.wrap (v.1+(1:Int))),v.2.1,v.2.2.1,v.2.2.2.1,v.2.2.2.2.1,v.2.2.2.2.2)))) .fail)) (.done (.inr (.inr ((v.2.1,v.2.2.1,v.2.2.2.1,v.2.2.2.2.1,v.2.2.2.2.2))))))
def qDP (rec:G_spec_l3Rd_row) (n:Nat) (v:BA×Int×BA×Int×Bool×Nat×RW):Tr ((BA×Int×BA×Int×Bool×Nat×RW)⊕((Int×BA×Int×Bool×Nat×RW)⊕(BA×BA×Int×Bool×Nat×RW))):=(.ask ((decide (v.2.1≤(10:Int)))) (.opt (qCi n v.2.1) fun r104=>(.ask ((r104.toList==v.1.toList)) (.opt (qAK n (⟨#[40]⟩:BA) v.2.2.1 v.2.2.2.1 v.2.2.2.2.1 v.2.2.2.2.2.1 v.2.2.2.2.2.2) fun r105=>(.ask (r105.1) (.opt (rec.spec_l3Rd_call v.2.1 r105.2.1 r105.2.2.1 r105.2.2.2.1 r105.2.2.2.2.1 r105.2.2.2.2.2) fun r106=>(.done (.inr (.inl ((r106.1,r106.2.1,r106.2.2.1,r106.2.2.2.1,r106.2.2.2.2.1,r106.2.2.2.2.2)))))) (.done (.inl (v.1,(IntKind.i64.wrap (v.2.1+(1:Int))),r105.2.1,r105.2.2.1,r105.2.2.2.1,r105.2.2.2.2.1,r105.2.2.2.2.2))))) (.done (.inl (v.1,(IntKind.i64.wrap (v.2.1+(1:Int))),v.2.2.1,v.2.2.2.1,v.2.2.2.2.1,v.2.2.2.2.2.1,v.2.2.2.2.2.2))))) (.done (.inr (.inr ((v.1,v.2.2.1,v.2.2.2.1,v.2.2.2.2.1,v.2.2.2.2.2.1,v.2.2.2.2.2.2))))))
def qJ0 (rec:G_spec_l3Rd_row) (n:Nat) (x0:BA) (x1:Int) (x2:Bool) (x3:Nat) (x4:RW):Tr (Int×BA×Int×Bool×Nat×RW):=(.opt (qAK n (⟨#[45]⟩:BA) x0 x1 x2 x3 x4) fun r56=>(.ask (r56.1) (.opt (rec.spec_l3Rd_row (5:Int) r56.2.1 r56.2.2.1 r56.2.2.2.1 r56.2.2.2.2.1 r56.2.2.2.2.2) fun r57=>(.ask (decide (1=([[(.i .i64 r57.1)]]:RW).length)) (.opt (qx n (4:Int) (0:Int) (0:Int) (0:Int) (⟨#[]⟩:BA) (0:Int) (0:Int) false false (0:Int) (0:Int) false false ([[(.i .i64 r57.1)]]:RW) r57.2.1 r57.2.2.1 r57.2.2.2.1 r57.2.2.2.2.1 r57.2.2.2.2.2) fun r72=>(.done (r72.1,r72.2.1,r72.2.2.1,r72.2.2.2.1,r72.2.2.2.2.1,r72.2.2.2.2.2))) .fail)) (.opt (qAK n (⟨#[40]⟩:BA) r56.2.1 r56.2.2.1 r56.2.2.2.1 r56.2.2.2.2.1 r56.2.2.2.2.2) fun r73=>(.ask (r73.1) (.opt (rec.spec_l3Rd_row (1:Int) r73.2.1 r73.2.2.1 r73.2.2.2.1 r73.2.2.2.2.1 r73.2.2.2.2.2) fun r74=>(.opt (qAK n (⟨#[41]⟩:BA) r74.2.1 r74.2.2.1 r74.2.2.2.1 r74.2.2.2.2.1 r74.2.2.2.2.2) fun r75=>(.ask ((!r75.1)) (.done (r74.1,r75.2.1,r75.2.2.1,true,r75.2.2.2.2.1,r75.2.2.2.2.2)) (.done (r74.1,r75.2.1,r75.2.2.1,r75.2.2.2.1,r75.2.2.2.2.1,r75.2.2.2.2.2))))) (.opt (qAK n (⟨#[34]⟩:BA) r73.2.1 r73.2.2.1 r73.2.2.2.1 r73.2.2.2.2.1 r73.2.2.2.2.2) fun r76=>(.ask (r76.1) (.opt (qFk n r76.2.1 r76.2.2.1 r76.2.2.2.1 r76.2.2.2.2.1 r76.2.2.2.2.2) fun r84=>(.done (r84.1,r84.2.1,r84.2.2.1,r84.2.2.2.1,r84.2.2.2.2.1,r84.2.2.2.2.2))) (.opt (qAK n (⟨#[35]⟩:BA) r76.2.1 r76.2.2.1 r76.2.2.2.1 r76.2.2.2.2.1 r76.2.2.2.2.2) fun r85=>(.ask (r85.1) (.opt (zC (qCk n) n ((1:Int),r85.2.1,r85.2.2.1,r85.2.2.2.1,r85.2.2.2.2.1,r85.2.2.2.2.2)) fun r89=>(.alt r89 (fun r90=>(.done (r90.1,r90.2.1,r90.2.2.1,r90.2.2.2.1,r90.2.2.2.2.1,r90.2.2.2.2.2))) (fun r91=>(.done ((0:Int),r91.1,r91.2.1,true,r91.2.2.2.1,r91.2.2.2.2))))) (.opt (qDC n r85.2.1 r85.2.2.1 r85.2.2.2.1 r85.2.2.2.2.1 r85.2.2.2.2.2) fun r103=>(.opt (zC (qDP rec n) n (r103.1,(1:Int),r103.2.1,r103.2.2.1,r103.2.2.2.1,r103.2.2.2.2.1,r103.2.2.2.2.2)) fun r107=>(.alt r107 (fun r108=>(.done (r108.1,r108.2.1,r108.2.2.1,r108.2.2.2.1,r108.2.2.2.2.1,r108.2.2.2.2.2))) (fun r109=>(.opt (qAM n r109.1) fun r131=>(.ask (r131.2.2.2) (.ask ((!(r109.1.toList==(⟨#[]⟩:BA).toList))) (.opt (qx n (1:Int) (0:Int) r131.1 r131.2.1 r131.2.2.1 (0:Int) (0:Int) false false (0:Int) (0:Int) false false ([]:RW) r109.2.1 r109.2.2.1 r109.2.2.2.1 r109.2.2.2.2.1 r109.2.2.2.2.2) fun r132=>(.done (r132.1,r132.2.1,r132.2.2.1,r132.2.2.2.1,r132.2.2.2.2.1,r132.2.2.2.2.2))) (.opt (qAw n r109.1) fun r133=>(.ask ((!r133.2.2.2.2)) (.done ((0:Int),r109.2.1,r109.2.2.1,true,r109.2.2.2.2.1,r109.2.2.2.2.2)) (.opt (qx n (2:Int) (0:Int) (0:Int) (0:Int) (⟨#[]⟩:BA) r133.1 r133.2.1 r133.2.2.1 r133.2.2.2.1 (0:Int) (0:Int) false false ([]:RW) r109.2.1 r109.2.2.1 r109.2.2.2.1 r109.2.2.2.2.1 r109.2.2.2.2.2) fun r134=>(.done (r134.1,r134.2.1,r134.2.2.1,r134.2.2.2.1,r134.2.2.2.2.1,r134.2.2.2.2.2)))))) (.opt (qAw n r109.1) fun r135=>(.ask ((!r135.2.2.2.2)) (.done ((0:Int),r109.2.1,r109.2.2.1,true,r109.2.2.2.2.1,r109.2.2.2.2.2)) (.opt (qx n (2:Int) (0:Int) (0:Int) (0:Int) (⟨#[]⟩:BA) r135.1 r135.2.1 r135.2.2.1 r135.2.2.2.1 (0:Int) (0:Int) false false ([]:RW) r109.2.1 r109.2.2.1 r109.2.2.2.1 r109.2.2.2.2.1 r109.2.2.2.2.2) fun r136=>(.done (r136.1,r136.2.1,r136.2.2.1,r136.2.2.2.1,r136.2.2.2.2.1,r136.2.2.2.2.2)))))))))))))))))))
def qEJ (rec:G_spec_l3Rd_row) (n:Nat) (v:Int×Nat×RW×BA×Int×Bool×Nat×RW):Tr ((Int×Nat×RW×BA×Int×Bool×Nat×RW)⊕((Int×BA×Int×Bool×Nat×RW)⊕(BA×Int×Bool×Nat×RW))):=(.ask ((!v.2.2.2.2.2.1)) (.opt (rec.spec_l3Rd_arg v.2.2.2.1 v.2.2.2.2.1 v.2.2.2.2.2.1 v.2.2.2.2.2.2.1 v.2.2.2.2.2.2.2) fun r108=>(.ask (decide (1=([[(.i .i64 r108.1)]]:RW).length)) (.ask (decide (v.2.1=v.2.2.1.length∧0<1∧0<8∧(v.2.1+([[(.i .i64 r108.1)]]:RW).length)*8≤140737488355328∧([[(.i .i64 r108.1)]]:RW).all (fun e=>e.length==1)=true)) (.opt (qAK n (⟨#[41]⟩:BA) r108.2.1 r108.2.2.1 r108.2.2.2.1 r108.2.2.2.2.1 r108.2.2.2.2.2) fun r109=>(.ask (r109.1) (.ask (decide ((v.2.1+1)=(v.2.2.1++([[(.i .i64 r108.1)]]:RW)).length)) (.opt (qx n (6:Int) v.1 (0:Int) (0:Int) (⟨#[]⟩:BA) (0:Int) (0:Int) false false (0:Int) (0:Int) false false (v.2.2.1++([[(.i .i64 r108.1)]]:RW)) r109.2.1 r109.2.2.1 r109.2.2.2.1 r109.2.2.2.2.1 r109.2.2.2.2.2) fun r110=>(.done (.inr (.inl ((r110.1,r110.2.1,r110.2.2.1,r110.2.2.2.1,r110.2.2.2.2.1,r110.2.2.2.2.2)))))) .fail) (.opt (qAK n (⟨#[44]⟩:BA) r109.2.1 r109.2.2.1 r109.2.2.2.1 r109.2.2.2.2.1 r109.2.2.2.2.2) fun r111=>(.ask ((!r111.1)) (.done (.inl (v.1,(v.2.1+1),(v.2.2.1++([[(.i .i64 r108.1)]]:RW)),r111.2.1,r111.2.2.1,true,r111.2.2.2.2.1,r111.2.2.2.2.2))) (.done (.inl (v.1,(v.2.1+1),(v.2.2.1++([[(.i .i64 r108.1)]]:RW)),r111.2.1,r111.2.2.1,r111.2.2.2.1,r111.2.2.2.2.1,r111.2.2.2.2.2))))))) .fail) .fail)) (.done (.inr (.inr ((v.2.2.2.1,v.2.2.2.2.1,v.2.2.2.2.2.1,v.2.2.2.2.2.2.1,v.2.2.2.2.2.2.2))))))
def qIq (rec:G_spec_l3Rd_row) (n:Nat) (x0:Int) (x1:BA) (x2:Int) (x3:Bool) (x4:Nat) (x5:RW):Tr (Int×BA×Int×Bool×Nat×RW):=(.opt (zC (qEJ rec n) n (x0,(0:Nat),([]:RW),x1,x2,x3,x4,x5)) fun r112=>(.alt r112 (fun r113=>(.done (r113.1,r113.2.1,r113.2.2.1,r113.2.2.2.1,r113.2.2.2.2.1,r113.2.2.2.2.2))) (fun r114=>(.done ((0:Int),r114.1,r114.2.1,r114.2.2.1,r114.2.2.2.1,r114.2.2.2.2)))))
def qJ1 (rec:G_spec_l3Rd_row) (n:Nat) (x0:BA) (x1:Int) (x2:Bool) (x3:Nat) (x4:RW):Tr (Int×BA×Int×Bool×Nat×RW):=(.opt (qBp n x0 x1 x2 x3 x4) fun r108=>(.opt (qDC n r108.1 r108.2.1 r108.2.2.1 r108.2.2.2.1 r108.2.2.2.2) fun r109=>(.opt (qAw n r109.1) fun r154=>(.ask (r154.2.2.2.2) (.opt (qAK n (⟨#[58]⟩:BA) r109.2.1 r109.2.2.1 r109.2.2.2.1 r109.2.2.2.2.1 r109.2.2.2.2.2) fun r155=>(.ask (r155.1) (.opt (qBp n r155.2.1 r155.2.2.1 r155.2.2.2.1 r155.2.2.2.2.1 r155.2.2.2.2.2) fun r156=>(.opt (qDC n r156.1 r156.2.1 r156.2.2.1 r156.2.2.2.1 r156.2.2.2.2) fun r157=>(.opt (qAw n r157.1) fun r158=>(.ask ((!r158.2.2.2.2)) (.done ((0:Int),r157.2.1,r157.2.2.1,true,r157.2.2.2.2.1,r157.2.2.2.2.2)) (.opt (qx n (3:Int) (0:Int) (0:Int) (0:Int) (⟨#[]⟩:BA) r154.1 r154.2.1 r154.2.2.1 r154.2.2.2.1 r158.1 r158.2.1 r158.2.2.1 r158.2.2.2.1 ([]:RW) r157.2.1 r157.2.2.1 r157.2.2.2.1 r157.2.2.2.2.1 r157.2.2.2.2.2) fun r159=>(.done (r159.1,r159.2.1,r159.2.2.1,r159.2.2.2.1,r159.2.2.2.2.1,r159.2.2.2.2.2))))))) (.opt (rec.spec_l3Rd_row (1:Int) r155.2.1 r108.2.1 r155.2.2.2.1 r155.2.2.2.2.1 r155.2.2.2.2.2) fun r160=>(.done (r160.1,r160.2.1,r160.2.2.1,r160.2.2.2.1,r160.2.2.2.2.1,r160.2.2.2.2.2))))) (.opt (rec.spec_l3Rd_row (1:Int) r109.2.1 r108.2.1 r109.2.2.2.1 r109.2.2.2.2.1 r109.2.2.2.2.2) fun r161=>(.done (r161.1,r161.2.1,r161.2.2.1,r161.2.2.2.1,r161.2.2.2.2.1,r161.2.2.2.2.2)))))))
def qd:Nat→G_spec_l3Rd_row
 |0=>⟨fun _ _ _ _ _ _=>none,fun _ _ _ _ _=>none,fun _ _ _ _ _ _=>none,fun _ _ _ _ _=>none⟩
 |n+1=>⟨fun x0 x1 x2 x3 x4 x5=>(qJz (qd n) n x0 x1 x2 x3 x4 x5).run,fun x0 x1 x2 x3 x4=>(qJ0 (qd n) n x0 x1 x2 x3 x4).run,fun x0 x1 x2 x3 x4 x5=>(qIq (qd n) n x0 x1 x2 x3 x4 x5).run,fun x0 x1 x2 x3 x4=>(qJ1 (qd n) n x0 x1 x2 x3 x4).run⟩
def qEb (n:Nat) (x0:Int) (x1:BA) (x2:Int) (x3:Bool) (x4:Nat) (x5:RW):Option (Int×BA×Int×Bool×Nat×RW):=(qd n).spec_l3Rd_row x0 x1 x2 x3 x4 x5
def qJ2 (n:Nat) (x0:BA) (x1:Int) (x2:Bool) (x3:Nat) (x4:RW):Option (Int×BA×Int×Bool×Nat×RW):=(qd n).spec_l3Rd_one x0 x1 x2 x3 x4
def qIr (n:Nat) (x0:Int) (x1:BA) (x2:Int) (x3:Bool) (x4:Nat) (x5:RW):Option (Int×BA×Int×Bool×Nat×RW):=(qd n).spec_l3Rd_call x0 x1 x2 x3 x4 x5
def qJ3 (n:Nat) (x0:BA) (x1:Int) (x2:Bool) (x3:Nat) (x4:RW):Option (Int×BA×Int×Bool×Nat×RW):=(qd n).spec_l3Rd_arg x0 x1 x2 x3 x4
def qBB (n:Nat):Prop:=
 Ok (Rn n) qJy (qEb n)∧
 Ok (Rn n) qPb (qJ2 n)∧
 Ok (Rn n) qOM (qIr n)∧
 Ok (Rn n) qPc (qJ3 n)
abbrev qJ4 (n:Nat) (ih:qBB n):List (Ent (Rn n)):= [en ih.2.1,en ih.1,en (qPa n),en (qDA n)]
def qMU (n:Nat) (ih:qBB n):LEnt (KB 187) (Rn n) n:=lok (zJ 187) 62 ⟨⟨[(0,(.c (.ptr 0 0 0 0 0))),(1,aI),(5,aI)],[],[[(0,⟨0,4,220,(.box [qS,qI,qB,(.own 0 1 1 0)])⟩),(1,⟨1,14,210,(.row [])⟩)]]⟩,[(.ret,⟨[(4,aI)],[],[[(0,⟨0,4,220,(.box [qS,qI,qB,(.own 0 1 1 0)])⟩),(1,⟨1,14,210,(.row [])⟩)]]⟩),(.exit 0,⟨[(5,aI)],[],[[(0,⟨0,4,220,(.box [qS,qI,qB,(.own 0 1 1 0)])⟩),(1,⟨1,14,210,(.row [])⟩)]]⟩)]⟩ (qEl (qd n) n) (qJ4 n ih) [] fun _=>(by kernel_rfl)
abbrev qGT (n:Nat) (ih:qBB n):List (Ent (Rn n)):= [en (qEZ n),en ih.1,en (qDA n),en (qNI n),en (qG2 n),en (qPX n),en (qHs n),en (qNJ n),en ih.2.2.1,en (qHu n),en (qHt n)]
def qKk (n:Nat) (ih:qBB n):LEnt (KB 242) (Rn n) n:=lok (zJ 242) 7161 ⟨⟨[(0,(.c (.ptr 0 0 0 0 0))),(5,aI)],[],[[(0,⟨0,4,220,(.box [qS,qI,qB,(.own 0 1 1 0)])⟩),(1,⟨1,14,210,(.row [])⟩)]]⟩,[(.ret,⟨[(2,aI)],[],[[(0,⟨0,4,220,(.box [qS,qI,qB,(.own 0 1 1 0)])⟩),(1,⟨1,14,210,(.row [])⟩)]]⟩),(.exit 1,⟨[(0,(.c (.ptr 0 0 0 0 0)))],[],[[(0,⟨0,4,220,(.box [qS,qI,qB,(.own 0 1 1 0)])⟩),(1,⟨1,14,210,(.row [])⟩)]]⟩)]⟩ (qCk n) (qGT n ih) [] fun _=>(by kernel_rfl)
def qMV (n:Nat) (ih:qBB n):LEnt (KB 242) (Rn n) n:=lok (zJ 242) 61 ⟨⟨[(0,(.c (.ptr 0 0 0 0 0))),(7,aS),(8,aI)],[],[[(0,⟨0,4,220,(.box [qS,qI,qB,(.own 0 1 1 0)])⟩),(1,⟨1,14,210,(.row [])⟩)]]⟩,[(.ret,⟨[(2,aI)],[],[[(0,⟨0,4,220,(.box [qS,qI,qB,(.own 0 1 1 0)])⟩),(1,⟨1,14,210,(.row [])⟩)]]⟩),(.exit 3,⟨[(0,(.c (.ptr 0 0 0 0 0))),(7,aS)],[],[[(0,⟨0,4,220,(.box [qS,qI,qB,(.own 0 1 1 0)])⟩),(1,⟨1,14,210,(.row [])⟩)]]⟩)]⟩ (qDP (qd n) n) (qGT n ih) [] fun _=>(by kernel_rfl)
abbrev qIs (n:Nat) (ih:qBB n):List (Ent (Rn n)):= [en ih.2.2.2,en (qEZ n),en (qDA n)]
def qLl (n:Nat) (ih:qBB n):LEnt (KB 292) (Rn n) n:=lok (zJ 292) 14 ⟨⟨[(0,(.c (.ptr 0 0 0 0 0))),(1,aI),(5,(.c (.own 1 384 0 0)))],[(384,⟨0,1,2,(.row [])⟩)],[[(0,⟨0,4,220,(.box [qS,qI,qB,(.own 0 1 1 0)])⟩),(1,⟨1,14,210,(.row [])⟩)]]⟩,[(.ret,⟨[(4,aI)],[],[[(0,⟨0,4,220,(.box [qS,qI,qB,(.own 0 1 1 0)])⟩),(1,⟨1,14,210,(.row [])⟩)]]⟩),(.exit 0,⟨[],[],[[(0,⟨0,4,220,(.box [qS,qI,qB,(.own 0 1 1 0)])⟩),(1,⟨1,14,210,(.row [])⟩)]]⟩)]⟩ (qEJ (qd n) n) (qIs n ih) [] fun _=>(by kernel_rfl)
abbrev qPd (n:Nat) (ih:qBB n):List (Ent (Rn n)):= [en (qEH n),en (qHs n),en (qHt n),en (qEZ n),en (qDA n),en ih.1]
theorem qBC:∀n,qBB n
 |0=>⟨ok0 fun _=>rfl,ok0 fun _=>rfl,ok0 fun _=>rfl,ok0 fun _=>rfl⟩
 |n+1=>⟨stO (T:=qJz (qd n) n) (by kernel_rfl) (qJ4 n (qBC n)) [qMU n (qBC n)] (fun _=>(by kernel_rfl)) fun _=>(by kernel_rfl),stO (T:=qJ0 (qd n) n) (by kernel_rfl) (qGT n (qBC n)) [qKk n (qBC n),qMV n (qBC n)] (fun _=>(by kernel_rfl)) fun _=>(by kernel_rfl),stO (T:=qIq (qd n) n) (by kernel_rfl) (qIs n (qBC n)) [qLl n (qBC n)] (fun _=>(by kernel_rfl)) fun _=>(by kernel_rfl),stO (T:=qJ1 (qd n) n) (by kernel_rfl) (qPd n (qBC n)) [] (fun _=>(by kernel_rfl)) fun _=>(by kernel_rfl)⟩
theorem qON (n:Nat):Ok (Rn n) qJy (qEb n):=(qBC n).1
def qIK:Sg:=⟨246,[aL,aI],[],⟨aI,[],[]⟩⟩
def qBD (rec:RW→Int→Option (Int)) (n:Nat) (v:RW×Int×Int×Int):Tr ((RW×Int×Int×Int)⊕((Int)⊕(Int))):=(.ask ((decide (v.2.2.2≥(0:Int)))) (.ask ((decide (v.2.2.1<(0:Int)))) (.done (.inr (.inl ((-1:Int))))) (.ask (decide (0≤v.2.1∧v.2.1<v.1.length)) (.opt (v.1[(v.2.1).toNat]?) fun e182=>(.ask (decide (e182.length=14)) (.opt (zg e182 13) fun y183=>(.ask (decide (0≤v.2.2.2∧v.2.2.2<y183.length)) (.opt (y183[(v.2.2.2).toNat]?) fun e184=>(.ask (decide (e184.length=1)) (.opt (zD .i64 e184 0) fun y185=>(.ask ((y185 !=v.2.2.1)) (.done (.inr (.inl ((-1:Int))))) (.opt (rec v.1 v.2.2.1) fun r186=>(.ask ((decide (r186<(0:Int)))) (.done (.inr (.inl ((-1:Int))))) (.done (.inl (v.1,v.2.1,(IntKind.i64.wrap (r186-(1:Int))),(IntKind.i64.wrap (v.2.2.2-(1:Int)))))))))) .fail)) .fail)) .fail)) .fail)) (.done (.inr (.inr (v.2.2.1)))))
def qIL (rec:RW→Int→Option (Int)) (n:Nat) (x0:RW) (x1:Int):Tr (Int):=(.ask (decide (0≤x1∧x1<x0.length)) (.opt (x0[(x1).toNat]?) fun e180=>(.ask (decide (e180.length=14)) (.opt (zg e180 13) fun y181=>(.opt (zC (qBD rec n) n (x0,x1,(IntKind.i64.wrap (x1-(1:Int))),(IntKind.i64.wrap ((y181.length:Int)-(1:Int))))) fun r187=>(.alt r187 (fun r188=>(.done r188)) (fun r189=>(.done (IntKind.i64.wrap (r189+(1:Int)))))))) .fail)) .fail)
def qAx:Nat→RW→Int→Option (Int)
 |0,_,_=>none
 |n+1,x0,x1=>(qIL (qAx n) n x0 x1).run
abbrev qMC (n:Nat) (ih:Ok (Rn n) qIK (qAx n)):List (Ent (Rn n)):= [en ih]
def qOO (n:Nat) (ih:Ok (Rn n) qIK (qAx n)):LEnt (KB 246) (Rn n) n:=lok (zJ 246) 29 ⟨⟨[(0,aL),(1,aI),(5,aI),(6,aI)],[],[]⟩,[(.ret,⟨[(4,aI)],[],[]⟩),(.exit 0,⟨[(5,aI)],[],[]⟩)]⟩ (qBD (qAx n) n) (qMC n ih) [] fun _=>(by kernel_rfl)
theorem qG6:∀n,Ok (Rn n) qIK (qAx n)
 |0=>ok0 fun _=>rfl
 |n+1=>stO (T:=qIL (qAx n) n) (by kernel_rfl) (qMC n (qG6 n)) [qOO n (qG6 n)] (fun _=>(by kernel_rfl)) fun _=>(by kernel_rfl)
def qIM:Sg:=⟨247,[aL,aI],[],⟨aI,[],[]⟩⟩
def qDE (rec:RW→Int→Option (Int)) (n:Nat) (v:RW×Int×Int×Int):Tr ((RW×Int×Int×Int)⊕((Int))):=(.ask (decide (0≤v.2.1∧v.2.1<v.1.length)) (.opt (v.1[(v.2.1).toNat]?) fun e193=>(.ask (decide (e193.length=14)) (.opt (zg e193 13) fun y194=>(.ask ((decide (v.2.2.2<(y194.length:Int)))) (.ask (decide (0≤v.2.1∧v.2.1<v.1.length)) (.opt (v.1[(v.2.1).toNat]?) fun e195=>(.ask (decide (e195.length=14)) (.opt (zg e195 13) fun y196=>(.ask (decide (0≤v.2.2.2∧v.2.2.2<y196.length)) (.opt (y196[(v.2.2.2).toNat]?) fun e197=>(.ask (decide (e197.length=1)) (.opt (zD .i64 e197 0) fun y198=>(.opt (rec v.1 y198) fun r199=>(.done (.inl (v.1,v.2.1,(if r199>v.2.2.1 then r199 else v.2.2.1),(IntKind.i64.wrap (v.2.2.2+(1:Int)))))))) .fail)) .fail)) .fail)) .fail) (.done (.inr (v.2.2.1))))) .fail)) .fail)
def qIN (rec:RW→Int→Option (Int)) (n:Nat) (x0:RW) (x1:Int):Tr (Int):=(.opt (zC (qDE rec n) n (x0,x1,(0:Int),(0:Int))) fun r200=>(.done (IntKind.i64.wrap (r200+(1:Int)))))
def qAy:Nat→RW→Int→Option (Int)
 |0,_,_=>none
 |n+1,x0,x1=>(qIN (qAy n) n x0 x1).run
abbrev qMD (n:Nat) (ih:Ok (Rn n) qIM (qAy n)):List (Ent (Rn n)):= [en ih]
def qOP (n:Nat) (ih:Ok (Rn n) qIM (qAy n)):LEnt (KB 247) (Rn n) n:=lok (zJ 247) 29 ⟨⟨[(0,aL),(1,aI),(5,aI),(6,aI)],[],[]⟩,[(.exit 0,⟨[(5,aI)],[],[]⟩)]⟩ (qDE (qAy n) n) (qMD n ih) [] fun _=>(by kernel_rfl)
theorem qG7:∀n,Ok (Rn n) qIM (qAy n)
 |0=>ok0 fun _=>rfl
 |n+1=>stO (T:=qIN (qAy n) n) (by kernel_rfl) (qMD n (qG7 n)) [qOP n (qG7 n)] (fun _=>(by kernel_rfl)) fun _=>(by kernel_rfl)
def qOQ:Sg:=⟨189,[aL],[],⟨aB,[],[]⟩⟩
def qAq (n:Nat) (v:RW×Int×Int):Tr ((RW×Int×Int)⊕((Bool)⊕(RW×Int))):=(.ask (decide (0≤v.2.1∧v.2.1<v.1.length)) (.opt (v.1[(v.2.1).toNat]?) fun e163=>(.ask (decide (e163.length=14)) (.opt (zg e163 13) fun y164=>(.ask ((decide (v.2.2<(y164.length:Int)))) (.ask (decide (0≤v.2.1∧v.2.1<v.1.length)) (.opt (v.1[(v.2.1).toNat]?) fun e165=>(.ask (decide (e165.length=14)) (.opt (zg e165 13) fun y166=>(.ask (decide (0≤v.2.2∧v.2.2<y166.length)) (.opt (y166[(v.2.2).toNat]?) fun e167=>(.ask (decide (e167.length=1)) (.opt (zD .i64 e167 0) fun y168=>(.opt (qA1 n y168 (0:Int) (IntKind.i64.wrap (v.2.1-(1:Int)))) fun r169=>(.ask ((!r169)) (.done (.inr (.inl (false)))) (.ask (decide (0≤y168∧y168<v.1.length)) (.opt (v.1[(y168).toNat]?) fun e170=>(.ask (decide (e170.length=14)) (.opt (zD .i64 e170 0) fun y171=>(.ask ((y171==(3:Int))) (.ask (decide (0≤v.2.1∧v.2.1<v.1.length)) (.opt (v.1[(v.2.1).toNat]?) fun e172=>(.ask (decide (e172.length=14)) (.opt (zD .i64 e172 0) fun y173=>(.ask ((y173 !=(6:Int))) (.done (.inr (.inl (false)))) (.done (.inl (v.1,v.2.1,(IntKind.i64.wrap (v.2.2+(1:Int)))))))) .fail)) .fail) (.done (.inl (v.1,v.2.1,(IntKind.i64.wrap (v.2.2+(1:Int)))))))) .fail)) .fail)))) .fail)) .fail)) .fail)) .fail) (.done (.inr (.inr ((v.1,v.2.1))))))) .fail)) .fail)
def qBF (n:Nat) (v:RW×Int):Tr ((RW×Int)⊕((Bool)⊕(RW))):=(.ask ((decide (v.2<(v.1.length:Int)))) (.ask (decide (0≤v.2∧v.2<v.1.length)) (.opt (v.1[(v.2).toNat]?) fun e147=>(.ask (decide (e147.length=14)) (.opt (zD .i64 e147 0) fun y148=>(.opt (zD .i64 e147 1) fun y149=>(.opt (zD .i64 e147 2) fun y150=>(.opt (zD .i64 e147 3) fun y151=>(.opt (zT e147 4) fun y152=>(.opt (zD .i64 e147 5) fun y153=>(.opt (zD .i64 e147 6) fun y154=>(.opt (zAZ e147 7) fun y155=>(.opt (zAZ e147 8) fun y156=>(.opt (zD .i64 e147 9) fun y157=>(.opt (zD .i64 e147 10) fun y158=>(.opt (zAZ e147 11) fun y159=>(.opt (zAZ e147 12) fun y160=>(.opt (zg e147 13) fun y161=>(.opt (qCB n y148 y149 y150 y151 y152 y153 y154 y155 y156 y157 y158 y159 y160 y161) fun r162=>(.ask ((!r162)) (.done (.inr (.inl (false)))) (.opt (zC (qAq n) n (v.1,v.2,(0:Int))) fun r174=>(.alt r174 (fun r175=>(.done (.inr (.inl (r175))))) (fun r176=>(.done (.inl (r176.1,(IntKind.i64.wrap (r176.2+(1:Int))))))))))))))))))))))))) .fail)) .fail) (.done (.inr (.inr (v.1)))))
def qDF (n:Nat) (x0:RW):Tr (Bool):=(.ask ((decide ((x0.length:Int)<(1:Int)))) (.done false) (.ask ((decide ((x0.length:Int)>(60:Int)))) (.done false) (.opt (zC (qBF n) n (x0,(0:Int))) fun r177=>(.alt r177 (fun r178=>(.done r178)) (fun r179=>(.opt (qAx n r179 (IntKind.i64.wrap ((r179.length:Int)-(1:Int)))) fun r190=>(.ask ((r190==(0:Int))) (.ask (decide (0≤(IntKind.i64.wrap ((r179.length:Int)-(1:Int)))∧(IntKind.i64.wrap ((r179.length:Int)-(1:Int)))<r179.length)) (.opt (r179[((IntKind.i64.wrap ((r179.length:Int)-(1:Int)))).toNat]?) fun e191=>(.ask (decide (e191.length=14)) (.opt (zD .i64 e191 0) fun y192=>(.ask ((y192 !=(3:Int))) (.opt (qAy n r179 (IntKind.i64.wrap ((r179.length:Int)-(1:Int)))) fun r201=>(.done (decide (r201≤(12:Int))))) (.done false))) .fail)) .fail) (.done false))))))))
def qBq:Nat→RW→Option (Bool)
 |0,_=>none
 |n+1,x0=>(qDF n x0).run
abbrev qFl (n:Nat):List (Ent (Rn n)):= [en (qIk n),en (qD7 n),en (qG6 n),en (qG7 n)]
def qKl (n:Nat):LEnt (lb 29 (KB 189)) (Rn n) n:=lok (Uniq.pick (zJ 189) 29) 475 ⟨⟨[(0,aL),(3,aI),(4,aI)],[],[]⟩,[(.ret,⟨[(2,aB)],[],[]⟩),(.exit 2,⟨[(0,aL),(3,aI)],[],[]⟩)]⟩ (qAq n) (qFl n) [] fun _=>(by kernel_rfl)
def qLm (n:Nat):LEnt (KB 189) (Rn n) n:=lok (zJ 189) 29 ⟨⟨[(0,aL),(3,aI)],[],[]⟩,[(.ret,⟨[(2,aB)],[],[]⟩),(.exit 0,⟨[(0,aL)],[],[]⟩)]⟩ (qBF n) (qFl n) [qKl n] fun _=>(by kernel_rfl)
theorem qHv:∀n,Ok (Rn n) qOQ (qBq n)
 |0=>ok0 fun _=>rfl
 |n+1=>stO (T:=qDF n) (by kernel_rfl) (qFl n) [qLm n] (fun _=>(by kernel_rfl)) fun _=>(by kernel_rfl)
def qMW:Sg:=⟨123,[aS],[],⟨(.tup [(false,[qL]),(false,[qB])]),[],[]⟩⟩
def qG8 (n:Nat) (x0:BA):Tr (RW×Bool):=(.opt (qCQ n x0) fun r52=>(.ask ((!r52)) (.ask (decide (0=([]:RW).length)) (.done (([]:RW),false)) .fail) (.opt (qEb n (1:Int) x0 (0:Int) false (0:Nat) ([]:RW)) fun r145=>(.opt (qBp n r145.2.1 r145.2.2.1 r145.2.2.2.1 r145.2.2.2.2.1 r145.2.2.2.2.2) fun r146=>(.ask (r146.2.2.1) (.ask (decide (0=([]:RW).length)) (.done (([]:RW),false)) .fail) (.ask ((decide (r146.2.1<(x0.size:Int)))) (.ask (decide (0=([]:RW).length)) (.done (([]:RW),false)) .fail) (.ask (decide (r146.2.2.2.1=r146.2.2.2.2.length)) (.opt (qBq n r146.2.2.2.2) fun r202=>(.ask (zBF (⟨(.c (.p (.b r202))),[],[]⟩:Res)) (.ask ((!r202)) (.ask (decide (0=([]:RW).length)) (.done (([]:RW),false)) .fail) (.ask (decide (r146.2.2.2.1=r146.2.2.2.2.length)) (.done (r146.2.2.2.2,true)) .fail)) .fail)) .fail)))))))
def qEm:Nat→BA→Option (RW×Bool)
 |0,_=>none
 |n+1,x0=>(qG8 n x0).run
abbrev qMX (n:Nat):List (Ent (Rn n)):= [en (qGR n),en (qON n),en (qEH n),en (qHv n)]
theorem qLn:∀n,Ok (Rn n) qMW (qEm n)
 |0=>ok0 fun _=>rfl
 |n+1=>stO (T:=qG8 n) (by kernel_rfl) (qMX n) [] (fun _=>(by kernel_rfl)) fun _=>(by kernel_rfl)
def qQh:Sg:=⟨248,[aS],[],⟨aS,[],[]⟩⟩
def qBf (n:Nat) (v:BA×BA×Int):Tr ((BA×BA×Int)⊕((BA))):=(.ask ((decide (v.2.2<(v.1.size:Int)))) (.ask (decide (0≤v.2.2)) (.opt (v.1.toList[(v.2.2).toNat]?) fun c220=>(.ask (((c220.toNat:Int)==(34:Int))) (.ask (decide (v.2.1.size+(⟨#[34]⟩:BA).size≤9223372036854775807)) (.ask (decide (0≤v.2.2∧v.2.2≤(IntKind.i64.wrap (v.2.2+(1:Int)))∧(IntKind.i64.wrap (v.2.2+(1:Int)))≤v.1.size)) (.ask (decide ((v.2.1++(⟨#[34]⟩:BA)).size+(v.1.extract (v.2.2).toNat ((IntKind.i64.wrap (v.2.2+(1:Int)))).toNat).size≤9223372036854775807)) (.done (.inl (v.1,((v.2.1++(⟨#[34]⟩:BA))++(v.1.extract (v.2.2).toNat ((IntKind.i64.wrap (v.2.2+(1:Int)))).toNat)),(IntKind.i64.wrap (v.2.2+(1:Int)))))) .fail) .fail) .fail) (.ask (decide (0≤v.2.2∧v.2.2≤(IntKind.i64.wrap (v.2.2+(1:Int)))∧(IntKind.i64.wrap (v.2.2+(1:Int)))≤v.1.size)) (.ask (decide (v.2.1.size+(v.1.extract (v.2.2).toNat ((IntKind.i64.wrap (v.2.2+(1:Int)))).toNat).size≤9223372036854775807)) (.done (.inl (v.1,(v.2.1++(v.1.extract (v.2.2).toNat ((IntKind.i64.wrap (v.2.2+(1:Int)))).toNat)),(IntKind.i64.wrap (v.2.2+(1:Int)))))) .fail) .fail))) .fail) (.done (.inr (v.2.1))))
def qG9 (n:Nat) (x0:BA):Tr (BA):=(.opt (zC (qBf n) n (x0,(⟨#[34]⟩:BA),(0:Int))) fun r221=>(.ask (decide (r221.size+(⟨#[34]⟩:BA).size≤9223372036854775807)) (.done (r221++(⟨#[34]⟩:BA))) .fail))
def qFB:Nat→BA→Option (BA)
 |0,_=>none
 |n+1,x0=>(qG9 n x0).run
def qNN (n:Nat):LEnt (KB 248) (Rn n) n:=lok (zJ 248) 29 ⟨⟨[(0,aS),(3,aS),(4,aI)],[],[]⟩,[(.exit 0,⟨[(3,aS)],[],[]⟩)]⟩ (qBf n) [] [] fun _=>(by kernel_rfl)
theorem qPe:∀n,Ok (Rn n) qQh (qFB n)
 |0=>ok0 fun _=>rfl
 |n+1=>stO (T:=qG9 n) (by kernel_rfl) [] [qNN n] (fun _=>(by kernel_rfl)) fun _=>(by kernel_rfl)
def qJL:Sg:=⟨88,[aI],[],⟨aS,[],[]⟩⟩
def qDY (n:Nat) (v:Int×BA):Tr ((Int×BA)⊕((Int×BA))):=(.ask ((decide (v.1≥(10:Int)))) (.ask (decide (1=([[(.i .u8 (IntKind.u8.wrap (IntKind.i64.wrap ((48:Int)+(Int.tmod v.1 (10:Int))))))]]:RW).length)) (.opt (bytesOf ([[(.i .u8 (IntKind.u8.wrap (IntKind.i64.wrap ((48:Int)+(Int.tmod v.1 (10:Int))))))]]:RW)) fun l225=>(.ask (decide ((⟨l225.toArray⟩:BA).size+v.2.size≤9223372036854775807)) (.done (.inl ((IntKind.i64.wrap (Int.tdiv v.1 (10:Int))),((⟨l225.toArray⟩:BA)++v.2)))) .fail)) .fail) (.done (.inr ((v.1,v.2)))))
def qGm (rec:Int→Option (BA)) (n:Nat) (x0:Int):Tr (BA):=(.ask ((decide (x0<(0:Int)))) (.opt (rec (IntKind.i64.wrap (0-x0))) fun r224=>(.ask (decide ((⟨#[45]⟩:BA).size+r224.size≤9223372036854775807)) (.done ((⟨#[45]⟩:BA)++r224)) .fail)) (.opt (zC (qDY n) n (x0,(⟨#[]⟩:BA))) fun r226=>(.ask (decide (1=([[(.i .u8 (IntKind.u8.wrap (IntKind.i64.wrap ((48:Int)+r226.1))))]]:RW).length)) (.opt (bytesOf ([[(.i .u8 (IntKind.u8.wrap (IntKind.i64.wrap ((48:Int)+r226.1))))]]:RW)) fun l227=>(.ask (decide ((⟨l227.toArray⟩:BA).size+r226.2.size≤9223372036854775807)) (.done ((⟨l227.toArray⟩:BA)++r226.2)) .fail)) .fail)))
def qr:Nat→Int→Option (BA)
 |0,_=>none
 |n+1,x0=>(qGm (qr n) n x0).run
abbrev qNO (n:Nat) (ih:Ok (Rn n) qJL (qr n)):List (Ent (Rn n)):= [en ih]
def qPf (n:Nat) (ih:Ok (Rn n) qJL (qr n)):LEnt (KB 88) (Rn n) n:=lok (zJ 88) 30 ⟨⟨[(0,aI),(3,aS)],[],[]⟩,[(.exit 0,⟨[(0,aI),(3,aS)],[],[]⟩)]⟩ (qDY n) (qNO n ih) [] fun _=>(by kernel_rfl)
theorem qES:∀n,Ok (Rn n) qJL (qr n)
 |0=>ok0 fun _=>rfl
 |n+1=>stO (T:=qGm (qr n) n) (by kernel_rfl) (qNO n (qES n)) [qPf n (qES n)] (fun _=>(by kernel_rfl)) fun _=>(by kernel_rfl)
def qRq:Sg:=⟨192,[aI],[],⟨aS,[],[]⟩⟩
def qIO (n:Nat) (x0:Int):Tr (BA):=(.ask ((x0==(1:Int))) (.done (⟨#[84,82,85,69]⟩:BA)) (.done (⟨#[70,65,76,83,69]⟩:BA)))
def qF0:Nat→Int→Option (BA)
 |0,_=>none
 |n+1,x0=>(qIO n x0).run
theorem qQi:∀n,Ok (Rn n) qRq (qF0 n)
 |0=>ok0 fun _=>rfl
 |n+1=>stO (T:=qIO n) (by kernel_rfl) [] [] (fun _=>(by kernel_rfl)) fun _=>(by kernel_rfl)
def qOR:Sg:=⟨126,[(.agg [qI,qI,qS])],[],⟨aS,[],[]⟩⟩
def qBW (n:Nat) (x0 x1:Int) (x2:BA):Tr (BA):=(.opt (qY n x0 x1 x2) fun r223=>(.ask ((!r223)) (.done (⟨#[]⟩:BA)) (.ask ((x0==(1:Int))) (.opt (qr n x1) fun r228=>(.done r228)) (.ask ((x0==(2:Int))) (.ask (decide ((⟨#[39]⟩:BA).size+x2.size≤9223372036854775807)) (.done ((⟨#[39]⟩:BA)++x2)) .fail) (.ask ((x0==(3:Int))) (.opt (qF0 n x1) fun r229=>(.done r229)) (.ask ((x0==(4:Int))) (.opt (qBa n x1) fun r230=>(.done r230)) (.done (⟨#[]⟩:BA))))))))
def qAW:Nat→Int→Int→BA→Option (BA)
 |0,_,_,_=>none
 |n+1,x0,x1,x2=>(qBW n x0 x1 x2).run
abbrev qOS (n:Nat):List (Ent (Rn n)):= [en (qEa n),en (qES n),en (qQi n),en (qG2 n)]
theorem qHw:∀n,Ok (Rn n) qOR (qAW n)
 |0=>ok0 fun _=>rfl
 |n+1=>stO (T:=qBW n) (by kernel_rfl) (qOS n) [] (fun _=>(by kernel_rfl)) fun _=>(by kernel_rfl)
def qOT:Sg:=⟨89,[(.agg [qI,qI,qB,qB])],[],⟨aS,[],[]⟩⟩
def qD8 (n:Nat) (x0 x1:Int) (x2 x3:Bool):Tr (BA):=(.opt (qAP n x0 x1) fun r232=>(.ask ((!r232)) (.done (⟨#[]⟩:BA)) (.opt (qDD n x0) fun r233=>(.ask (x2) (.ask (decide ((⟨#[36]⟩:BA).size+r233.size≤9223372036854775807)) (.ask (x3) (.ask (decide (((⟨#[36]⟩:BA)++r233).size+(⟨#[36]⟩:BA).size≤9223372036854775807)) (.opt (qr n x1) fun r234=>(.ask (decide ((((⟨#[36]⟩:BA)++r233)++(⟨#[36]⟩:BA)).size+r234.size≤9223372036854775807)) (.done ((((⟨#[36]⟩:BA)++r233)++(⟨#[36]⟩:BA))++r234)) .fail)) .fail) (.opt (qr n x1) fun r235=>(.ask (decide (((⟨#[36]⟩:BA)++r233).size+r235.size≤9223372036854775807)) (.done (((⟨#[36]⟩:BA)++r233)++r235)) .fail))) .fail) (.ask (x3) (.ask (decide (r233.size+(⟨#[36]⟩:BA).size≤9223372036854775807)) (.opt (qr n x1) fun r236=>(.ask (decide ((r233++(⟨#[36]⟩:BA)).size+r236.size≤9223372036854775807)) (.done ((r233++(⟨#[36]⟩:BA))++r236)) .fail)) .fail) (.opt (qr n x1) fun r237=>(.ask (decide (r233.size+r237.size≤9223372036854775807)) (.done (r233++r237)) .fail)))))))
def qAn:Nat→Int→Int→Bool→Bool→Option (BA)
 |0,_,_,_,_=>none
 |n+1,x0,x1,x2,x3=>(qD8 n x0 x1 x2 x3).run
abbrev qOU (n:Nat):List (Ent (Rn n)):= [en (qER n),en (qJw n),en (qES n)]
theorem qHx:∀n,Ok (Rn n) qOT (qAn n)
 |0=>ok0 fun _=>rfl
 |n+1=>stO (T:=qD8 n) (by kernel_rfl) (qOU n) [] (fun _=>(by kernel_rfl)) fun _=>(by kernel_rfl)
def qIP:Sg:=⟨190,[aL,aI,aI],[],⟨aS,[],[]⟩⟩
def qBg (rec:RW→Int→Int→Option (BA)) (n:Nat) (v:RW×BA×Int×Int×Int×Int×Int×BA×Int×Int×Bool×Bool×Int×Int×Bool×Bool×RW):Tr ((RW×BA×Int×Int×Int×Int×Int×BA×Int×Int×Bool×Bool×Int×Int×Bool×Bool×RW)⊕((BA))):=(.ask ((decide (v.2.2.1<(v.2.2.2.2.2.2.2.2.2.2.2.2.2.2.2.2.length:Int)))) (.ask ((decide (v.2.2.1>(0:Int)))) (.ask (decide (v.2.1.size+(⟨#[44]⟩:BA).size≤9223372036854775807)) (.ask (decide (0≤v.2.2.1∧v.2.2.1<v.2.2.2.2.2.2.2.2.2.2.2.2.2.2.2.2.length)) (.opt (v.2.2.2.2.2.2.2.2.2.2.2.2.2.2.2.2[(v.2.2.1).toNat]?) fun e253=>(.ask (decide (e253.length=1)) (.opt (zD .i64 e253 0) fun y254=>(.opt (rec v.1 y254 (0:Int)) fun r255=>(.ask (decide ((v.2.1++(⟨#[44]⟩:BA)).size+r255.size≤9223372036854775807)) (.done (.inl (v.1,((v.2.1++(⟨#[44]⟩:BA))++r255),(IntKind.i64.wrap (v.2.2.1+(1:Int))),v.2.2.2.1,v.2.2.2.2.1,v.2.2.2.2.2.1,v.2.2.2.2.2.2.1,v.2.2.2.2.2.2.2.1,v.2.2.2.2.2.2.2.2.1,v.2.2.2.2.2.2.2.2.2.1,v.2.2.2.2.2.2.2.2.2.2.1,v.2.2.2.2.2.2.2.2.2.2.2.1,v.2.2.2.2.2.2.2.2.2.2.2.2.1,v.2.2.2.2.2.2.2.2.2.2.2.2.2.1,v.2.2.2.2.2.2.2.2.2.2.2.2.2.2.1,v.2.2.2.2.2.2.2.2.2.2.2.2.2.2.2.1,v.2.2.2.2.2.2.2.2.2.2.2.2.2.2.2.2))) .fail))) .fail)) .fail) .fail) (.ask (decide (0≤v.2.2.1∧v.2.2.1<v.2.2.2.2.2.2.2.2.2.2.2.2.2.2.2.2.length)) (.opt (v.2.2.2.2.2.2.2.2.2.2.2.2.2.2.2.2[(v.2.2.1).toNat]?) fun e256=>(.ask (decide (e256.length=1)) (.opt (zD .i64 e256 0) fun y257=>(.opt (rec v.1 y257 (0:Int)) fun r258=>(.ask (decide (v.2.1.size+r258.size≤9223372036854775807)) (.done (.inl (v.1,(v.2.1++r258),(IntKind.i64.wrap (v.2.2.1+(1:Int))),v.2.2.2.1,v.2.2.2.2.1,v.2.2.2.2.2.1,v.2.2.2.2.2.2.1,v.2.2.2.2.2.2.2.1,v.2.2.2.2.2.2.2.2.1,v.2.2.2.2.2.2.2.2.2.1,v.2.2.2.2.2.2.2.2.2.2.1,v.2.2.2.2.2.2.2.2.2.2.2.1,v.2.2.2.2.2.2.2.2.2.2.2.2.1,v.2.2.2.2.2.2.2.2.2.2.2.2.2.1,v.2.2.2.2.2.2.2.2.2.2.2.2.2.2.1,v.2.2.2.2.2.2.2.2.2.2.2.2.2.2.2.1,v.2.2.2.2.2.2.2.2.2.2.2.2.2.2.2.2))) .fail))) .fail)) .fail)) (.done (.inr (v.2.1))))
def qB0 (rec:RW→Int→Int→Option (BA)) (n:Nat) (x0:RW) (x1 x2:Int):Tr (BA):=(.ask (decide (0≤x1∧x1<x0.length)) (.opt (x0[(x1).toNat]?) fun e205=>(.ask (decide (e205.length=14)) (.opt (zD .i64 e205 0) fun y206=>(.opt (zD .i64 e205 1) fun y207=>(.opt (zD .i64 e205 2) fun y208=>(.opt (zD .i64 e205 3) fun y209=>(.opt (zT e205 4) fun y210=>(.opt (zD .i64 e205 5) fun y211=>(.opt (zD .i64 e205 6) fun y212=>(.opt (zAZ e205 7) fun y213=>(.opt (zAZ e205 8) fun y214=>(.opt (zD .i64 e205 9) fun y215=>(.opt (zD .i64 e205 10) fun y216=>(.opt (zAZ e205 11) fun y217=>(.opt (zAZ e205 12) fun y218=>(.opt (zg e205 13) fun y219=>(.ask ((y206==(1:Int))) (.ask ((y208==(2:Int))) (.opt (qFB n y210) fun r222=>(.done r222)) (.opt (qAW n y208 y209 y210) fun r231=>(.done r231))) (.ask ((y206==(2:Int))) (.opt (qAn n y211 y212 y213 y214) fun r238=>(.done r238)) (.ask ((y206==(3:Int))) (.opt (qAn n y211 y212 y213 y214) fun r239=>(.ask (decide (r239.size+(⟨#[58]⟩:BA).size≤9223372036854775807)) (.opt (qAn n y215 y216 y217 y218) fun r240=>(.ask (decide ((r239++(⟨#[58]⟩:BA)).size+r240.size≤9223372036854775807)) (.done ((r239++(⟨#[58]⟩:BA))++r240)) .fail)) .fail)) (.ask ((y206==(4:Int))) (.ask (decide (0≤(0:Int)∧(0:Int)<y219.length)) (.opt (y219[((0:Int)).toNat]?) fun e241=>(.ask (decide (e241.length=1)) (.opt (zD .i64 e241 0) fun y242=>(.opt (rec x0 y242 (5:Int)) fun r243=>(.ask (decide ((⟨#[45]⟩:BA).size+r243.size≤9223372036854775807)) (.done ((⟨#[45]⟩:BA)++r243)) .fail))) .fail)) .fail) (.ask ((y206==(5:Int))) (.opt (qCS n y207) fun r244=>(.ask (decide (0≤(0:Int)∧(0:Int)<y219.length)) (.opt (y219[((0:Int)).toNat]?) fun e245=>(.ask (decide (e245.length=1)) (.opt (zD .i64 e245 0) fun y246=>(.ask (decide (0≤(1:Int)∧(1:Int)<y219.length)) (.opt (y219[((1:Int)).toNat]?) fun e247=>(.ask (decide (e247.length=1)) (.opt (zD .i64 e247 0) fun y248=>(.opt (rec x0 y246 r244) fun r249=>(.opt (qC0 n y207) fun r250=>(.ask (decide (r249.size+r250.size≤9223372036854775807)) (.opt (rec x0 y248 (IntKind.i64.wrap (r244+(1:Int)))) fun r251=>(.ask (decide ((r249++r250).size+r251.size≤9223372036854775807)) (.ask ((decide (r244<x2))) (.ask (decide ((⟨#[40]⟩:BA).size+((r249++r250)++r251).size≤9223372036854775807)) (.ask (decide (((⟨#[40]⟩:BA)++((r249++r250)++r251)).size+(⟨#[41]⟩:BA).size≤9223372036854775807)) (.done (((⟨#[40]⟩:BA)++((r249++r250)++r251))++(⟨#[41]⟩:BA))) .fail) .fail) (.done ((r249++r250)++r251))) .fail)) .fail)))) .fail)) .fail)) .fail)) .fail)) (.opt (qCi n y207) fun r252=>(.ask (decide (r252.size+(⟨#[40]⟩:BA).size≤9223372036854775807)) (.opt (zC (qBg rec n) n (x0,(r252++(⟨#[40]⟩:BA)),(0:Int),y206,y207,y208,y209,y210,y211,y212,y213,y214,y215,y216,y217,y218,y219)) fun r259=>(.ask (decide (r259.size+(⟨#[41]⟩:BA).size≤9223372036854775807)) (.done (r259++(⟨#[41]⟩:BA))) .fail)) .fail))))))))))))))))))))) .fail)) .fail)
def qo:Nat→RW→Int→Int→Option (BA)
 |0,_,_,_=>none
 |n+1,x0,x1,x2=>(qB0 (qo n) n x0 x1 x2).run
abbrev qME (n:Nat) (ih:Ok (Rn n) qIP (qo n)):List (Ent (Rn n)):= [en (qPe n),en (qHw n),en (qHx n),en ih,en (qJx n),en (qKh n),en (qNJ n)]
def qNP (n:Nat) (ih:Ok (Rn n) qIP (qo n)):LEnt (KB 190) (Rn n) n:=lok (zJ 190) 125 ⟨⟨[(0,aL),(7,(.c (.ptr 0 448 0 0 0))),(10,aS),(11,aI)],[(448,⟨0,14,210,(.box [qI,qI,qI,qI,qS,qI,qI,qB,qB,qI,qI,qB,qB,qL])⟩)],[]⟩,[(.exit 1,⟨[(10,aS)],[],[]⟩)]⟩ (qBg (qo n) n) (qME n ih) [] fun _=>(by kernel_rfl)
theorem qHA:∀n,Ok (Rn n) qIP (qo n)
 |0=>ok0 fun _=>rfl
 |n+1=>stO (T:=qB0 (qo n) n) (by kernel_rfl) (qME n (qHA n)) [qNP n (qHA n)] (fun _=>(by kernel_rfl)) fun _=>(by kernel_rfl)
def qMY:Sg:=⟨124,[aL],[],⟨aS,[],[]⟩⟩
def qDQ (n:Nat) (x0:RW):Tr (BA):=(.opt (qBq n x0) fun r204=>(.ask ((!r204)) (.done (⟨#[]⟩:BA)) (.opt (qo n x0 (IntKind.i64.wrap ((x0.length:Int)-(1:Int))) (0:Int)) fun r260=>(.ask ((decide ((r260.size:Int)>(200:Int)))) (.done (⟨#[]⟩:BA)) (.done r260)))))
def qBr:Nat→RW→Option (BA)
 |0,_=>none
 |n+1,x0=>(qDQ n x0).run
abbrev qMZ (n:Nat):List (Ent (Rn n)):= [en (qHv n),en (qHA n)]
theorem qLo:∀n,Ok (Rn n) qMY (qBr n)
 |0=>ok0 fun _=>rfl
 |n+1=>stO (T:=qDQ n) (by kernel_rfl) (qMZ n) [] (fun _=>(by kernel_rfl)) fun _=>(by kernel_rfl)
def qPg:Sg:=⟨125,[aS],[],⟨(.tup [(true,[qI,qI,qS]),(false,[qB])]),[],[]⟩⟩
def qBs (n:Nat) (v:BA×Bool×Int×Int×BA):Tr ((BA×Bool×Int×Int×BA)⊕((BA×Bool×Int×Int×BA))):=(.ask ((decide ((v.1.size:Int)>(1:Int)))) (.ask (decide (0≤(0:Int))) (.opt (v.1.toList[((0:Int)).toNat]?) fun c263=>(.ask (((c263.toNat:Int)==(48:Int))) (.ask (decide (0≤(1:Int)∧(1:Int)≤(v.1.size:Int)∧(v.1.size:Int)≤v.1.size)) (.done (.inl ((v.1.extract ((1:Int)).toNat ((v.1.size:Int)).toNat),v.2.1,v.2.2.1,v.2.2.2.1,v.2.2.2.2))) .fail) (.done (.inr ((v.1,v.2.1,v.2.2.1,v.2.2.2.1,v.2.2.2.2)))))) .fail) (.done (.inr ((v.1,v.2.1,v.2.2.1,v.2.2.2.1,v.2.2.2.2)))))
def qJ5 (n:Nat) (x0:BA):Tr (Int×Int×BA×Bool):=(.ask ((decide ((x0.size:Int)>(0:Int)))) (.ask (decide (0≤(0:Int))) (.opt (x0.toList[((0:Int)).toNat]?) fun c262=>(.ask (((c262.toNat:Int)==(45:Int))) (.ask (decide (0≤(1:Int)∧(1:Int)≤(x0.size:Int)∧(x0.size:Int)≤x0.size)) (.ask (((x0.extract ((1:Int)).toNat ((x0.size:Int)).toNat).toList==(⟨#[]⟩:BA).toList)) (.done ((0:Int),(0:Int),(⟨#[]⟩:BA),false)) (.opt (zC (qBs n) n ((x0.extract ((1:Int)).toNat ((x0.size:Int)).toNat),((c262.toNat:Int)==(45:Int)),(0:Int),(0:Int),(⟨#[]⟩:BA))) fun r264=>(.opt (qz n r264.1 (16:Int)) fun r265=>(.ask (r264.2.1) (.ask (r265.2) (.opt (qY n (1:Int) (IntKind.i64.wrap (0-r265.1)) (⟨#[]⟩:BA)) fun r266=>(.done ((1:Int),(IntKind.i64.wrap (0-r265.1)),(⟨#[]⟩:BA),r266))) (.done ((1:Int),(IntKind.i64.wrap (0-r265.1)),(⟨#[]⟩:BA),false))) (.ask (r265.2) (.opt (qY n (1:Int) r265.1 (⟨#[]⟩:BA)) fun r267=>(.done ((1:Int),r265.1,(⟨#[]⟩:BA),r267))) (.done ((1:Int),r265.1,(⟨#[]⟩:BA),false))))))) .fail) (.ask ((x0.toList==(⟨#[]⟩:BA).toList)) (.done ((0:Int),(0:Int),(⟨#[]⟩:BA),false)) (.opt (zC (qBs n) n (x0,((c262.toNat:Int)==(45:Int)),(0:Int),(0:Int),(⟨#[]⟩:BA))) fun r268=>(.opt (qz n r268.1 (16:Int)) fun r269=>(.ask (r268.2.1) (.ask (r269.2) (.opt (qY n (1:Int) (IntKind.i64.wrap (0-r269.1)) (⟨#[]⟩:BA)) fun r270=>(.done ((1:Int),(IntKind.i64.wrap (0-r269.1)),(⟨#[]⟩:BA),r270))) (.done ((1:Int),(IntKind.i64.wrap (0-r269.1)),(⟨#[]⟩:BA),false))) (.ask (r269.2) (.opt (qY n (1:Int) r269.1 (⟨#[]⟩:BA)) fun r271=>(.done ((1:Int),r269.1,(⟨#[]⟩:BA),r271))) (.done ((1:Int),r269.1,(⟨#[]⟩:BA),false))))))))) .fail) (.ask ((x0.toList==(⟨#[]⟩:BA).toList)) (.done ((0:Int),(0:Int),(⟨#[]⟩:BA),false)) (.opt (zC (qBs n) n (x0,false,(0:Int),(0:Int),(⟨#[]⟩:BA))) fun r272=>(.opt (qz n r272.1 (16:Int)) fun r273=>(.ask (r272.2.1) (.ask (r273.2) (.opt (qY n (1:Int) (IntKind.i64.wrap (0-r273.1)) (⟨#[]⟩:BA)) fun r274=>(.done ((1:Int),(IntKind.i64.wrap (0-r273.1)),(⟨#[]⟩:BA),r274))) (.done ((1:Int),(IntKind.i64.wrap (0-r273.1)),(⟨#[]⟩:BA),false))) (.ask (r273.2) (.opt (qY n (1:Int) r273.1 (⟨#[]⟩:BA)) fun r275=>(.done ((1:Int),r273.1,(⟨#[]⟩:BA),r275))) (.done ((1:Int),r273.1,(⟨#[]⟩:BA),false))))))))
def qGU:Nat→BA→Option (Int×Int×BA×Bool)
 |0,_=>none
 |n+1,x0=>(qJ5 n x0).run
abbrev qJ6 (n:Nat):List (Ent (Rn n)):= [en (qII n),en (qEa n)]
def qMa (n:Nat):LEnt (KB 125) (Rn n) n:=lok (zJ 125) 62 ⟨⟨[(0,aS),(2,(.c (.ptr 0 128 0 0 0))),(4,aB)],[(128,⟨0,3,107,(.box [qI,qI,qS])⟩)],[]⟩,[(.exit 0,⟨[(0,aS),(2,(.c (.ptr 0 128 0 0 0))),(4,aB)],[(128,⟨0,3,107,(.box [qI,qI,qS])⟩)],[]⟩)]⟩ (qBs n) (qJ6 n) [] fun _=>(by kernel_rfl)
theorem qOV:∀n,Ok (Rn n) qPg (qGU n)
 |0=>ok0 fun _=>rfl
 |n+1=>stO (T:=qJ5 n) (by kernel_rfl) (qJ6 n) [qMa n] (fun _=>(by kernel_rfl)) fun _=>(by kernel_rfl)
def qQj:Sg:=⟨54,[aS],[],⟨(.tup [(false,[qS]),(false,[qB])]),[],[]⟩⟩
def qKm (n:Nat) (x0:BA):Tr (BA×Bool):=(.opt (qCQ n x0) fun r50=>(.ask ((!r50)) (.done ((⟨#[]⟩:BA),false)) (.ask ((x0.toList==(⟨#[]⟩:BA).toList)) (.done ((⟨#[]⟩:BA),true)) (.ask (decide (0≤(0:Int))) (.opt (x0.toList[((0:Int)).toNat]?) fun c51=>(.ask (((c51.toNat:Int)==(61:Int))) (.ask (decide (0≤(1:Int)∧(1:Int)≤(x0.size:Int)∧(x0.size:Int)≤x0.size)) (.opt (qEm n (x0.extract ((1:Int)).toNat ((x0.size:Int)).toNat)) fun r203=>(.opt (qBr n r203.1) fun r261=>(.ask ((!r203.2)) (.done ((⟨#[]⟩:BA),false)) (.ask ((r261.toList==(⟨#[]⟩:BA).toList)) (.done ((⟨#[]⟩:BA),false)) (.ask ((decide ((IntKind.i64.wrap ((r261.size:Int)+(1:Int)))>(200:Int)))) (.done ((⟨#[]⟩:BA),false)) (.ask (decide ((⟨#[61]⟩:BA).size+r261.size≤9223372036854775807)) (.done (((⟨#[61]⟩:BA)++r261),true)) .fail)))))) .fail) (.opt (qGU n x0) fun r276=>(.ask (r276.2.2.2) (.opt (qAW n r276.1 r276.2.1 r276.2.2.1) fun r277=>(.done (r277,true))) (.opt (qAM n x0) fun r278=>(.ask ((!r278.2.2.2)) (.opt (qAW n (2:Int) (0:Int) x0) fun r279=>(.ask ((decide ((r279.size:Int)>(200:Int)))) (.done ((⟨#[]⟩:BA),false)) (.done (r279,true)))) (.opt (qAW n r278.1 r278.2.1 r278.2.2.1) fun r280=>(.ask ((decide ((r280.size:Int)>(200:Int)))) (.done ((⟨#[]⟩:BA),false)) (.done (r280,true)))))))))) .fail))))
def qFC:Nat→BA→Option (BA×Bool)
 |0,_=>none
 |n+1,x0=>(qKm n x0).run
abbrev qQk (n:Nat):List (Ent (Rn n)):= [en (qGR n),en (qLn n),en (qLo n),en (qOV n),en (qHw n),en (qHu n)]
theorem qPh:∀n,Ok (Rn n) qQj (qFC n)
 |0=>ok0 fun _=>rfl
 |n+1=>stO (T:=qKm n) (by kernel_rfl) (qQk n) [] (fun _=>(by kernel_rfl)) fun _=>(by kernel_rfl)
def qQl:Sg:=⟨82,[(.agg [qI,qI]),(.agg [qI,qI])],[],⟨aB,[],[]⟩⟩
def qHB (n:Nat) (x0 x1 x2 x3:Int):Tr (Bool):=(.ask ((decide (x1<x3))) (.done true) (.ask ((x1==x3)) (.done (decide (x0<x2))) (.done false)))
def qDo:Nat→Int→Int→Int→Int→Option (Bool)
 |0,_,_,_,_=>none
 |n+1,x0,x1,x2,x3=>(qHB n x0 x1 x2 x3).run
theorem qPi:∀n,Ok (Rn n) qQl (qDo n)
 |0=>ok0 fun _=>rfl
 |n+1=>stO (T:=qHB n) (by kernel_rfl) [] [] (fun _=>(by kernel_rfl)) fun _=>(by kernel_rfl)
def qQm:Sg:=⟨55,[aL],[],⟨aB,[],[]⟩⟩
def qFD (n:Nat) (v:RW×Int):Tr ((RW×Int)⊕((Bool)⊕(Unit))):=(.ask ((decide (v.2<(v.1.length:Int)))) (.ask (decide (0≤v.2∧v.2<v.1.length)) (.opt (v.1[(v.2).toNat]?) fun e43=>(.ask (decide (e43.length=3)) (.opt (zT e43 2) fun y44=>(.opt (qFC n y44) fun r45=>(.ask (decide (0≤v.2∧v.2<v.1.length)) (.opt (v.1[(v.2).toNat]?) fun e46=>(.ask (decide (e46.length=3)) (.opt (zD .i64 e46 0) fun y47=>(.opt (zD .i64 e46 1) fun y48=>(.opt (qAP n y47 y48) fun r49=>(.ask ((!r49)) (.done (.inr (.inl (false)))) (.ask ((!r45.2)) (.done (.inr (.inl (false)))) (.ask (decide (0≤v.2∧v.2<v.1.length)) (.opt (v.1[(v.2).toNat]?) fun e50=>(.ask (decide (e50.length=3)) (.opt (zT e50 2) fun y51=>(.ask ((y51.toList==(⟨#[]⟩:BA).toList)) (.done (.inr (.inl (false)))) (.ask (decide (0≤v.2∧v.2<v.1.length)) (.opt (v.1[(v.2).toNat]?) fun e52=>(.ask (decide (e52.length=3)) (.opt (zT e52 2) fun y53=>(.ask ((!(r45.1.toList==y53.toList))) (.done (.inr (.inl (false)))) (.ask ((decide (v.2>(0:Int)))) (.ask (decide (0≤(IntKind.i64.wrap (v.2-(1:Int)))∧(IntKind.i64.wrap (v.2-(1:Int)))<v.1.length)) (.opt (v.1[((IntKind.i64.wrap (v.2-(1:Int)))).toNat]?) fun e54=>(.ask (decide (e54.length=3)) (.opt (zD .i64 e54 0) fun y55=>(.opt (zD .i64 e54 1) fun y56=>(.ask (decide (0≤v.2∧v.2<v.1.length)) (.opt (v.1[(v.2).toNat]?) fun e57=>(.ask (decide (e57.length=3)) (.opt (zD .i64 e57 0) fun y58=>(.opt (zD .i64 e57 1) fun y59=>(.opt (qDo n y55 y56 y58 y59) fun r60=>(.ask ((!r60)) (.done (.inr (.inl (false)))) (.done (.inl (v.1,(IntKind.i64.wrap (v.2+(1:Int)))))))))) .fail)) .fail))) .fail)) .fail) (.done (.inl (v.1,(IntKind.i64.wrap (v.2+(1:Int))))))))) .fail)) .fail))) .fail)) .fail)))))) .fail)) .fail))) .fail)) .fail) (.done (.inr (.inr (())))))
def qKn (n:Nat) (x0:RW):Tr (Bool):=(.ask ((decide ((x0.length:Int)>(120:Int)))) (.done false) (.opt (zC (qFD n) n (x0,(0:Int))) fun r61=>(.alt r61 (fun r62=>(.done r62)) (fun r63=>(.done true)))))
def qDp:Nat→RW→Option (Bool)
 |0,_=>none
 |n+1,x0=>(qKn n x0).run
abbrev qKo (n:Nat):List (Ent (Rn n)):= [en (qPh n),en (qER n),en (qPi n)]
def qNQ (n:Nat):LEnt (KB 55) (Rn n) n:=lok (zJ 55) 29 ⟨⟨[(0,aL),(3,aI)],[],[]⟩,[(.ret,⟨[(2,aB)],[],[]⟩),(.exit 0,⟨[],[],[]⟩)]⟩ (qFD n) (qKo n) [] fun _=>(by kernel_rfl)
theorem qPj:∀n,Ok (Rn n) qQm (qDp n)
 |0=>ok0 fun _=>rfl
 |n+1=>stO (T:=qKn n) (by kernel_rfl) (qKo n) [qNQ n] (fun _=>(by kernel_rfl)) fun _=>(by kernel_rfl)
def qQn:Sg:=⟨157,[(.agg [qI,qL,qL]),aI],[],⟨aI,[],[]⟩⟩
def qFE (n:Nat) (v:Int×Int×Int×RW×RW):Tr ((Int×Int×Int×RW×RW)⊕((Int)⊕(Unit))):=(.ask ((decide (v.2.1<(v.2.2.2.1.length:Int)))) (.ask (decide (0≤v.2.1∧v.2.1<v.2.2.2.1.length)) (.opt (v.2.2.2.1[(v.2.1).toNat]?) fun e69=>(.ask (decide (e69.length=3)) (.opt (zD .i64 e69 0) fun y70=>(.ask ((y70==v.1)) (.done (.inr (.inl (v.2.1)))) (.done (.inl (v.1,(IntKind.i64.wrap (v.2.1+(1:Int))),v.2.2.1,v.2.2.2.1,v.2.2.2.2))))) .fail)) .fail) (.done (.inr (.inr (())))))
def qHC (n:Nat) (x0:Int) (x1 x2:RW) (x3:Int):Tr (Int):=(.opt (zC (qFE n) n (x3,(0:Int),x0,x1,x2)) fun r71=>(.alt r71 (fun r72=>(.done r72)) (fun r73=>(.done (-1:Int)))))
def qCT:Nat→Int→RW→RW→Int→Option (Int)
 |0,_,_,_,_=>none
 |n+1,x0,x1,x2,x3=>(qHC n x0 x1 x2 x3).run
def qNR (n:Nat):LEnt (KB 157) (Rn n) n:=lok (zJ 157) 13 ⟨⟨[(1,aI),(2,(.c (.ptr 0 128 0 0 0))),(5,aI)],[(128,⟨0,3,59,(.box [qI,qL,qL])⟩)],[]⟩,[(.ret,⟨[(4,aI)],[],[]⟩),(.exit 0,⟨[],[],[]⟩)]⟩ (qFE n) [] [] fun _=>(by kernel_rfl)
theorem qPk:∀n,Ok (Rn n) qQn (qCT n)
 |0=>ok0 fun _=>rfl
 |n+1=>stO (T:=qHC n) (by kernel_rfl) [] [qNR n] (fun _=>(by kernel_rfl)) fun _=>(by kernel_rfl)
def qQo:Sg:=⟨158,[aS],[],⟨aB,[],[]⟩⟩
def qFF (n:Nat) (v:BA×Int):Tr ((BA×Int)⊕((Bool)⊕(Unit))):=(.ask ((decide (v.2<(v.1.size:Int)))) (.ask (decide (0≤v.2)) (.opt (v.1.toList[(v.2).toNat]?) fun c66=>(.ask ((decide ((c66.toNat:Int)<(97:Int)))) (.done (.inr (.inl (false)))) (.ask (decide (0≤v.2)) (.opt (v.1.toList[(v.2).toNat]?) fun c67=>(.ask ((decide ((c67.toNat:Int)>(122:Int)))) (.done (.inr (.inl (false)))) (.done (.inl (v.1,(IntKind.i64.wrap (v.2+(1:Int)))))))) .fail))) .fail) (.done (.inr (.inr (())))))
def qHD (n:Nat) (x0:BA):Tr (Bool):=(.ask ((decide ((x0.size:Int)<(1:Int)))) (.done false) (.ask ((decide ((x0.size:Int)>(12:Int)))) (.done false) (.opt (zC (qFF n) n (x0,(0:Int))) fun r68=>(.alt r68 (fun r69=>(.done r69)) (fun r70=>(.done true))))))
def qFG:Nat→BA→Option (Bool)
 |0,_=>none
 |n+1,x0=>(qHD n x0).run
def qNS (n:Nat):LEnt (KB 158) (Rn n) n:=lok (zJ 158) 29 ⟨⟨[(0,aS),(3,aI)],[],[]⟩,[(.ret,⟨[(2,aB)],[],[]⟩),(.exit 0,⟨[],[],[]⟩)]⟩ (qFF n) [] [] fun _=>(by kernel_rfl)
theorem qPl:∀n,Ok (Rn n) qQo (qFG n)
 |0=>ok0 fun _=>rfl
 |n+1=>stO (T:=qHD n) (by kernel_rfl) [] [qNS n] (fun _=>(by kernel_rfl)) fun _=>(by kernel_rfl)
def qS1:Sg:=⟨87,[(.agg [qI,qL,qL])],[],⟨aB,[],[]⟩⟩
def qDG (n:Nat) (v:Int×Int×Int×RW×RW×Int×RW×RW):Tr ((Int×Int×Int×RW×RW×Int×RW×RW)⊕((Bool)⊕(Int×Int×RW×RW))):=(.ask ((decide (v.2.1<(v.2.2.2.2.2.2.1.length:Int)))) (.ask (decide (0≤v.2.1∧v.2.1<v.2.2.2.2.2.2.1.length)) (.opt (v.2.2.2.2.2.2.1[(v.2.1).toNat]?) fun e44=>(.ask (decide (e44.length=1)) (.opt (zD .i64 e44 0) fun y45=>(.ask ((decide (y45≥v.2.2.2.2.2.1))) (.done (.inr (.inl (false)))) (.ask (decide (0≤v.2.1∧v.2.1<v.2.2.2.2.2.2.1.length)) (.opt (v.2.2.2.2.2.2.1[(v.2.1).toNat]?) fun e46=>(.ask (decide (e46.length=1)) (.opt (zD .i64 e46 0) fun y47=>(.opt (qCT n v.2.2.1 v.2.2.2.1 v.2.2.2.2.1 y47) fun r48=>(.ask ((decide (r48<(0:Int)))) (.done (.inr (.inl (false)))) (.ask ((decide (v.2.1>(0:Int)))) (.ask (decide (0≤(IntKind.i64.wrap (v.2.1-(1:Int)))∧(IntKind.i64.wrap (v.2.1-(1:Int)))<v.2.2.2.2.2.2.1.length)) (.opt (v.2.2.2.2.2.2.1[((IntKind.i64.wrap (v.2.1-(1:Int)))).toNat]?) fun e49=>(.ask (decide (e49.length=1)) (.opt (zD .i64 e49 0) fun y50=>(.ask (decide (0≤v.2.1∧v.2.1<v.2.2.2.2.2.2.1.length)) (.opt (v.2.2.2.2.2.2.1[(v.2.1).toNat]?) fun e51=>(.ask (decide (e51.length=1)) (.opt (zD .i64 e51 0) fun y52=>(.ask ((decide (y50≥y52))) (.done (.inr (.inl (false)))) (.done (.inl (v.1,(IntKind.i64.wrap (v.2.1+(1:Int))),v.2.2.1,v.2.2.2.1,v.2.2.2.2.1,v.2.2.2.2.2.1,v.2.2.2.2.2.2.1,v.2.2.2.2.2.2.2))))) .fail)) .fail)) .fail)) .fail) (.done (.inl (v.1,(IntKind.i64.wrap (v.2.1+(1:Int))),v.2.2.1,v.2.2.2.1,v.2.2.2.2.1,v.2.2.2.2.2.1,v.2.2.2.2.2.2.1,v.2.2.2.2.2.2.2))))))) .fail)) .fail))) .fail)) .fail) (.done (.inr (.inr ((v.1,v.2.2.1,v.2.2.2.1,v.2.2.2.2.1))))))
def qEc (n:Nat) (v:Int×Int×RW×RW):Tr ((Int×Int×RW×RW)⊕((Bool)⊕(Int×RW×RW))):=(.ask ((decide (v.1<(v.2.2.1.length:Int)))) (.ask (decide (0≤v.1∧v.1<v.2.2.1.length)) (.opt (v.2.2.1[(v.1).toNat]?) fun e36=>(.ask (decide (e36.length=3)) (.opt (zD .i64 e36 0) fun y37=>(.opt (zg e36 1) fun y38=>(.opt (zg e36 2) fun y39=>(.opt (qA1 n y37 (1:Int) (IntKind.i64.wrap (v.2.1-(1:Int)))) fun r40=>(.ask ((!r40)) (.done (.inr (.inl (false)))) (.ask ((decide (v.1>(0:Int)))) (.ask (decide (0≤(IntKind.i64.wrap (v.1-(1:Int)))∧(IntKind.i64.wrap (v.1-(1:Int)))<v.2.2.1.length)) (.opt (v.2.2.1[((IntKind.i64.wrap (v.1-(1:Int)))).toNat]?) fun e41=>(.ask (decide (e41.length=3)) (.opt (zD .i64 e41 0) fun y42=>(.ask ((decide (y42≥y37))) (.done (.inr (.inl (false)))) (.ask ((decide ((y38.length:Int)>(2:Int)))) (.done (.inr (.inl (false)))) (.opt (qDp n y39) fun r43=>(.ask ((!r43)) (.done (.inr (.inl (false)))) (.opt (zC (qDG n) n (v.1,(0:Int),v.2.1,v.2.2.1,v.2.2.2,y37,y38,y39)) fun r53=>(.alt r53 (fun r54=>(.done (.inr (.inl (r54))))) (fun r55=>(.done (.inl ((IntKind.i64.wrap (r55.1+(1:Int))),r55.2.1,r55.2.2.1,r55.2.2.2))))))))))) .fail)) .fail) (.ask ((decide ((y38.length:Int)>(2:Int)))) (.done (.inr (.inl (false)))) (.opt (qDp n y39) fun r56=>(.ask ((!r56)) (.done (.inr (.inl (false)))) (.opt (zC (qDG n) n (v.1,(0:Int),v.2.1,v.2.2.1,v.2.2.2,y37,y38,y39)) fun r57=>(.alt r57 (fun r58=>(.done (.inr (.inl (r58))))) (fun r59=>(.done (.inl ((IntKind.i64.wrap (r59.1+(1:Int))),r59.2.1,r59.2.2.1,r59.2.2.2))))))))))))))) .fail)) .fail) (.done (.inr (.inr ((v.2.1,v.2.2.1,v.2.2.2))))))
def qEd (n:Nat) (v:Int×Int×RW×RW):Tr ((Int×Int×RW×RW)⊕((Bool)⊕(Unit))):=(.ask ((decide (v.1<(v.2.2.2.length:Int)))) (.ask (decide (0≤v.1∧v.1<v.2.2.2.length)) (.opt (v.2.2.2[(v.1).toNat]?) fun e63=>(.ask (decide (e63.length=2)) (.opt (zT e63 0) fun y64=>(.opt (zD .i64 e63 1) fun y65=>(.opt (qFG n y64) fun r66=>(.ask ((!r66)) (.done (.inr (.inl (false)))) (.opt (qCT n v.2.1 v.2.2.1 v.2.2.2 y65) fun r67=>(.ask ((decide (r67<(0:Int)))) (.done (.inr (.inl (false)))) (.ask ((decide (v.1>(0:Int)))) (.ask (decide (0≤(IntKind.i64.wrap (v.1-(1:Int)))∧(IntKind.i64.wrap (v.1-(1:Int)))<v.2.2.2.length)) (.opt (v.2.2.2[((IntKind.i64.wrap (v.1-(1:Int)))).toNat]?) fun e68=>(.ask (decide (e68.length=2)) (.opt (zT e68 0) fun y69=>(.ask ((!(Op.bytesLess y69.toList y64.toList))) (.done (.inr (.inl (false)))) (.done (.inl ((IntKind.i64.wrap (v.1+(1:Int))),v.2.1,v.2.2.1,v.2.2.2))))) .fail)) .fail) (.done (.inl ((IntKind.i64.wrap (v.1+(1:Int))),v.2.1,v.2.2.1,v.2.2.2)))))))))) .fail)) .fail) (.done (.inr (.inr (())))))
def qJM (n:Nat) (x0:Int) (x1 x2:RW):Tr (Bool):=(.opt (qA1 n x0 (2:Int) (1000000000:Int)) fun r35=>(.ask ((!r35)) (.done false) (.ask ((decide ((x1.length:Int)<(1:Int)))) (.done false) (.ask ((decide ((x1.length:Int)>(40:Int)))) (.done false) (.ask ((decide ((x2.length:Int)<(1:Int)))) (.done false) (.ask ((decide ((x2.length:Int)>(8:Int)))) (.done false) (.opt (zC (qEc n) n ((0:Int),x0,x1,x2)) fun r60=>(.alt r60 (fun r61=>(.done r61)) (fun r62=>(.opt (zC (qEd n) n ((0:Int),r62.1,r62.2.1,r62.2.2)) fun r70=>(.alt r70 (fun r71=>(.done r71)) (fun r72=>(.done true)))))))))))))
def qJN:Nat→Int→RW→RW→Option (Bool)
 |0,_,_,_=>none
 |n+1,x0,x1,x2=>(qJM n x0 x1 x2).run
abbrev qGn (n:Nat):List (Ent (Rn n)):= [en (qD7 n),en (qPj n),en (qPk n),en (qPl n)]
def qOW (n:Nat):LEnt (lb 29 (KB 87)) (Rn n) n:=lok (Uniq.pick (zJ 87) 29) 951 ⟨⟨[(1,(.c (.ptr 0 64 0 0 0))),(3,aI),(4,(.c (.ptr 0 256 0 0 0))),(5,aI)],[(64,⟨0,3,59,(.box [qI,qL,qL])⟩),(256,⟨0,3,124,(.box [qI,qL,qL])⟩)],[]⟩,[(.ret,⟨[(2,aB)],[],[]⟩),(.exit 2,⟨[(1,(.c (.ptr 0 64 0 0 0))),(3,aI)],[(64,⟨0,3,59,(.box [qI,qL,qL])⟩)],[]⟩)]⟩ (qDG n) (qGn n) [] fun _=>(by kernel_rfl)
def qPm (n:Nat):LEnt (KB 87) (Rn n) n:=lok (zJ 87) 29 ⟨⟨[(1,(.c (.ptr 0 64 0 0 0))),(3,aI)],[(64,⟨0,3,59,(.box [qI,qL,qL])⟩)],[]⟩,[(.ret,⟨[(2,aB)],[],[]⟩),(.exit 0,⟨[(1,(.c (.ptr 0 64 0 0 0)))],[(64,⟨0,3,59,(.box [qI,qL,qL])⟩)],[]⟩)]⟩ (qEc n) (qGn n) [qOW n] fun _=>(by kernel_rfl)
def qPn (n:Nat):LEnt (KB 87) (Rn n) n:=lok (zJ 87) 61 ⟨⟨[(1,(.c (.ptr 0 64 0 0 0))),(6,aI)],[(64,⟨0,3,59,(.box [qI,qL,qL])⟩)],[]⟩,[(.ret,⟨[(2,aB)],[],[]⟩),(.exit 4,⟨[],[],[]⟩)]⟩ (qEd n) (qGn n) [] fun _=>(by kernel_rfl)
theorem qRr:∀n,Ok (Rn n) qS1 (qJN n)
 |0=>ok0 fun _=>rfl
 |n+1=>stO (T:=qJM n) (by kernel_rfl) (qGn n) [qPm n,qPn n] (fun _=>(by kernel_rfl)) fun _=>(by kernel_rfl)
def qQp:Sg:=⟨30,[(.agg [qI,qL,qL])],[],⟨aS,[],[]⟩⟩
def qDi (n:Nat) (v:BA×Int×Int×RW×RW):Tr ((BA×Int×Int×RW×RW)⊕((BA×Int×RW×RW))):=(.ask ((decide (v.2.1<(v.2.2.2.2.length:Int)))) (.ask (decide (v.1.size+(⟨#[98,114,97,110,99,104,32]⟩:BA).size≤9223372036854775807)) (.ask (decide (0≤v.2.1∧v.2.1<v.2.2.2.2.length)) (.opt (v.2.2.2.2[(v.2.1).toNat]?) fun e75=>(.ask (decide (e75.length=2)) (.opt (zT e75 0) fun y76=>(.ask (decide ((v.1++(⟨#[98,114,97,110,99,104,32]⟩:BA)).size+y76.size≤9223372036854775807)) (.ask (decide (((v.1++(⟨#[98,114,97,110,99,104,32]⟩:BA))++y76).size+(⟨#[32]⟩:BA).size≤9223372036854775807)) (.ask (decide (0≤v.2.1∧v.2.1<v.2.2.2.2.length)) (.opt (v.2.2.2.2[(v.2.1).toNat]?) fun e77=>(.ask (decide (e77.length=2)) (.opt (zD .i64 e77 1) fun y78=>(.opt (qr n y78) fun r79=>(.ask (decide ((((v.1++(⟨#[98,114,97,110,99,104,32]⟩:BA))++y76)++(⟨#[32]⟩:BA)).size+r79.size≤9223372036854775807)) (.ask (decide (((((v.1++(⟨#[98,114,97,110,99,104,32]⟩:BA))++y76)++(⟨#[32]⟩:BA))++r79).size+(⟨#[10]⟩:BA).size≤9223372036854775807)) (.done (.inl ((((((v.1++(⟨#[98,114,97,110,99,104,32]⟩:BA))++y76)++(⟨#[32]⟩:BA))++r79)++(⟨#[10]⟩:BA)),(IntKind.i64.wrap (v.2.1+(1:Int))),v.2.2.1,v.2.2.2.1,v.2.2.2.2))) .fail) .fail))) .fail)) .fail) .fail) .fail)) .fail)) .fail) .fail) (.done (.inr ((v.1,v.2.2.1,v.2.2.2.1,v.2.2.2.2)))))
def qC6 (n:Nat) (v:BA×Int×Int×Int×RW×RW×Int×RW×RW):Tr ((BA×Int×Int×Int×RW×RW×Int×RW×RW)⊕((BA×Int×Int×RW×RW×Int×RW×RW))):=(.ask ((decide (v.2.2.1<(v.2.2.2.2.2.2.2.1.length:Int)))) (.ask (decide (v.1.size+(⟨#[32]⟩:BA).size≤9223372036854775807)) (.ask (decide (0≤v.2.2.1∧v.2.2.1<v.2.2.2.2.2.2.2.1.length)) (.opt (v.2.2.2.2.2.2.2.1[(v.2.2.1).toNat]?) fun e86=>(.ask (decide (e86.length=1)) (.opt (zD .i64 e86 0) fun y87=>(.opt (qr n y87) fun r88=>(.ask (decide ((v.1++(⟨#[32]⟩:BA)).size+r88.size≤9223372036854775807)) (.done (.inl (((v.1++(⟨#[32]⟩:BA))++r88),v.2.1,(IntKind.i64.wrap (v.2.2.1+(1:Int))),v.2.2.2.1,v.2.2.2.2.1,v.2.2.2.2.2.1,v.2.2.2.2.2.2.1,v.2.2.2.2.2.2.2.1,v.2.2.2.2.2.2.2.2))) .fail))) .fail)) .fail) .fail) (.done (.inr ((v.1,v.2.1,v.2.2.2.1,v.2.2.2.2.1,v.2.2.2.2.2.1,v.2.2.2.2.2.2.1,v.2.2.2.2.2.2.2.1,v.2.2.2.2.2.2.2.2)))))
def qCl (n:Nat) (v:BA×Int×Int×Int×RW×RW×Int×RW×RW):Tr ((BA×Int×Int×Int×RW×RW×Int×RW×RW)⊕((BA×Int×Int×RW×RW))):=(.ask ((decide (v.2.2.1<(v.2.2.2.2.2.2.2.2.length:Int)))) (.ask (decide (0≤v.2.2.1∧v.2.2.1<v.2.2.2.2.2.2.2.2.length)) (.opt (v.2.2.2.2.2.2.2.2[(v.2.2.1).toNat]?) fun e90=>(.ask (decide (e90.length=3)) (.opt (zD .i64 e90 0) fun y91=>(.opt (zD .i64 e90 1) fun y92=>(.ask (decide (0≤v.2.2.1∧v.2.2.1<v.2.2.2.2.2.2.2.2.length)) (.opt (v.2.2.2.2.2.2.2.2[(v.2.2.1).toNat]?) fun e93=>(.ask (decide (e93.length=3)) (.opt (zT e93 2) fun y94=>(.opt (qAn n y91 y92 false false) fun r95=>(.ask (decide (v.1.size+r95.size≤9223372036854775807)) (.ask (decide ((v.1++r95).size+(⟨#[32]⟩:BA).size≤9223372036854775807)) (.ask (decide (((v.1++r95)++(⟨#[32]⟩:BA)).size+y94.size≤9223372036854775807)) (.ask (decide ((((v.1++r95)++(⟨#[32]⟩:BA))++y94).size+(⟨#[10]⟩:BA).size≤9223372036854775807)) (.done (.inl (((((v.1++r95)++(⟨#[32]⟩:BA))++y94)++(⟨#[10]⟩:BA)),v.2.1,(IntKind.i64.wrap (v.2.2.1+(1:Int))),v.2.2.2.1,v.2.2.2.2.1,v.2.2.2.2.2.1,v.2.2.2.2.2.2.1,v.2.2.2.2.2.2.2.1,v.2.2.2.2.2.2.2.2))) .fail) .fail) .fail) .fail))) .fail)) .fail))) .fail)) .fail) (.done (.inr ((v.1,v.2.1,v.2.2.2.1,v.2.2.2.2.1,v.2.2.2.2.2.1)))))
def qDR (n:Nat) (v:BA×Int×Int×RW×RW):Tr ((BA×Int×Int×RW×RW)⊕((BA))):=(.ask ((decide (v.2.1<(v.2.2.2.1.length:Int)))) (.ask (decide (0≤v.2.1∧v.2.1<v.2.2.2.1.length)) (.opt (v.2.2.2.1[(v.2.1).toNat]?) fun e81=>(.ask (decide (e81.length=3)) (.opt (zD .i64 e81 0) fun y82=>(.opt (zg e81 1) fun y83=>(.opt (zg e81 2) fun y84=>(.ask (decide (v.1.size+(⟨#[118,101,114,115,105,111,110,32]⟩:BA).size≤9223372036854775807)) (.opt (qr n y82) fun r85=>(.ask (decide ((v.1++(⟨#[118,101,114,115,105,111,110,32]⟩:BA)).size+r85.size≤9223372036854775807)) (.opt (zC (qC6 n) n (((v.1++(⟨#[118,101,114,115,105,111,110,32]⟩:BA))++r85),v.2.1,(0:Int),v.2.2.1,v.2.2.2.1,v.2.2.2.2,y82,y83,y84)) fun r89=>(.ask (decide (r89.1.size+(⟨#[10]⟩:BA).size≤9223372036854775807)) (.opt (zC (qCl n) n ((r89.1++(⟨#[10]⟩:BA)),r89.2.1,(0:Int),r89.2.2.1,r89.2.2.2.1,r89.2.2.2.2.1,r89.2.2.2.2.2.1,r89.2.2.2.2.2.2.1,r89.2.2.2.2.2.2.2)) fun r96=>(.done (.inl (r96.1,(IntKind.i64.wrap (r96.2.1+(1:Int))),r96.2.2.1,r96.2.2.2.1,r96.2.2.2.2)))) .fail)) .fail)) .fail)))) .fail)) .fail) (.done (.inr (v.1))))
def qHE (n:Nat) (x0:Int) (x1 x2:RW):Tr (BA):=(.opt (qJN n x0 x1 x2) fun r73=>(.ask ((!r73)) (.done (⟨#[]⟩:BA)) (.opt (qr n x0) fun r74=>(.ask (decide ((⟨#[100,97,103,32]⟩:BA).size+r74.size≤9223372036854775807)) (.ask (decide (((⟨#[100,97,103,32]⟩:BA)++r74).size+(⟨#[10]⟩:BA).size≤9223372036854775807)) (.opt (zC (qDi n) n ((((⟨#[100,97,103,32]⟩:BA)++r74)++(⟨#[10]⟩:BA)),(0:Int),x0,x1,x2)) fun r80=>(.opt (zC (qDR n) n (r80.1,(0:Int),r80.2.1,r80.2.2.1,r80.2.2.2)) fun r97=>(.done r97))) .fail) .fail))))
def qHF:Nat→Int→RW→RW→Option (BA)
 |0,_,_,_=>none
 |n+1,x0,x1,x2=>(qHE n x0 x1 x2).run
abbrev qDq (n:Nat):List (Ent (Rn n)):= [en (qRr n),en (qES n),en (qHx n)]
def qNT (n:Nat):LEnt (KB 30) (Rn n) n:=lok (zJ 30) 61 ⟨⟨[(1,(.c (.ptr 0 64 0 0 0))),(3,aS),(4,aI)],[(64,⟨0,3,59,(.box [qI,qL,qL])⟩)],[]⟩,[(.exit 0,⟨[(1,(.c (.ptr 0 64 0 0 0))),(3,aS)],[(64,⟨0,3,59,(.box [qI,qL,qL])⟩)],[]⟩)]⟩ (qDi n) (qDq n) [] fun _=>(by kernel_rfl)
def qLp (n:Nat):LEnt (lb 125 (KB 30)) (Rn n) n:=lok (Uniq.pick (zJ 30) 125) 8045 ⟨⟨[(1,(.c (.ptr 0 64 0 0 0))),(3,aS),(5,aI),(6,(.c (.ptr 0 384 0 0 0))),(7,aI)],[(64,⟨0,3,59,(.box [qI,qL,qL])⟩),(384,⟨0,3,124,(.box [qI,qL,qL])⟩)],[]⟩,[(.exit 4,⟨[(1,(.c (.ptr 0 64 0 0 0))),(3,aS),(5,aI),(6,(.c (.ptr 0 384 0 0 0)))],[(64,⟨0,3,59,(.box [qI,qL,qL])⟩),(384,⟨0,3,124,(.box [qI,qL,qL])⟩)],[]⟩)]⟩ (qC6 n) (qDq n) [] fun _=>(by kernel_rfl)
def qKp (n:Nat):LEnt (lb 125 (KB 30)) (Rn n) n:=lok (Uniq.pick (zJ 30) 125) 16095 ⟨⟨[(1,(.c (.ptr 0 64 0 0 0))),(3,aS),(5,aI),(6,(.c (.ptr 0 384 0 0 0))),(8,aI)],[(64,⟨0,3,59,(.box [qI,qL,qL])⟩),(384,⟨0,3,124,(.box [qI,qL,qL])⟩)],[]⟩,[(.exit 6,⟨[(1,(.c (.ptr 0 64 0 0 0))),(3,aS),(5,aI)],[(64,⟨0,3,59,(.box [qI,qL,qL])⟩)],[]⟩)]⟩ (qCl n) (qDq n) [] fun _=>(by kernel_rfl)
def qMb (n:Nat):LEnt (KB 30) (Rn n) n:=lok (zJ 30) 125 ⟨⟨[(1,(.c (.ptr 0 64 0 0 0))),(3,aS),(5,aI)],[(64,⟨0,3,59,(.box [qI,qL,qL])⟩)],[]⟩,[(.exit 2,⟨[(3,aS)],[],[]⟩)]⟩ (qDR n) (qDq n) [qLp n,qKp n] fun _=>(by kernel_rfl)
theorem qPo:∀n,Ok (Rn n) qQp (qHF n)
 |0=>ok0 fun _=>rfl
 |n+1=>stO (T:=qHE n) (by kernel_rfl) (qDq n) [qNT n,qMb n] (fun _=>(by kernel_rfl)) fun _=>(by kernel_rfl)
def qRs:Sg:=⟨128,[aI,aI,aI],[],⟨aB,[],[]⟩⟩
def qIQ (n:Nat) (x0 x1 x2:Int):Tr (Bool):=(.ask ((decide (x0≥x1))) (.done (decide (x0≤x2))) (.done false))
def q8:Nat→Int→Int→Int→Option (Bool)
 |0,_,_,_=>none
 |n+1,x0,x1,x2=>(qIQ n x0 x1 x2).run
theorem qDH:∀n,Ok (Rn n) qRs (q8 n)
 |0=>ok0 fun _=>rfl
 |n+1=>stO (T:=qIQ n) (by kernel_rfl) [] [] (fun _=>(by kernel_rfl)) fun _=>(by kernel_rfl)
def qKq:Sg:=⟨229,[(.agg [qI,qL,qL]),(.c (.rp [vI] 0))],[],⟨aB,[],[]⟩⟩
def qF6 (n:Nat) (x0:Int) (x1 x2:RW) (x3:Int):Tr (Bool):=(.opt (some x3:Option Int) fun y116=>(.done (x0==y116)))
def qF7:Nat→Int→RW→RW→Int→Option (Bool)
 |0,_,_,_,_=>none
 |n+1,x0,x1,x2,x3=>(qF6 n x0 x1 x2 x3).run
theorem qKK:∀n,Ok (Rn n) qKq (qF7 n)
 |0=>ok0 fun _=>rfl
 |n+1=>stO (T:=qF6 n) (by kernel_rfl) [] [] (fun _=>(by kernel_rfl)) fun _=>(by kernel_rfl)
def qBR:Sg:=⟨228,[aL,(.c (.fn 229 [(.rp [vI])]))],[],⟨aI,[],[]⟩⟩
def qh (n:Nat) (v:RW×Int×Int×Int):Tr ((RW×Int×Int×Int)⊕((Int)⊕(Unit))):=(.ask ((decide (v.2.2.2<v.2.2.1))) (.ask (decide (0≤v.2.2.2∧v.2.2.2<v.1.length)) (.opt (v.1[(v.2.2.2).toNat]?) fun e112=>(.ask (decide (e112.length=3)) (.opt (zD .i64 e112 0) fun y113=>(.opt (zg e112 1) fun y114=>(.opt (zg e112 2) fun y115=>(.opt (qF7 n y113 y114 y115 v.2.1) fun r116=>(.ask (r116) (.done (.inr (.inl (v.2.2.2)))) (.done (.inl (v.1,v.2.1,v.2.2.1,(IntKind.i64.wrap (v.2.2.2+(1:Int))))))))))) .fail)) .fail) (.done (.inr (.inr (())))))
def ql (n:Nat) (x0:RW) (x1:Int):Tr (Int):=(.opt (zC (qh n) n (x0,x1,(x0.length:Int),(0:Int))) fun r117=>(.alt r117 (fun r118=>(.done r118)) (fun r119=>(.done (-1:Int)))))
def qm:Nat→RW→Int→Option (Int)
 |0,_,_=>none
 |n+1,x0,x1=>(ql n x0 x1).run
abbrev qAO (n:Nat):List (Ent (Rn n)):= [en (qKK n)]
def qBG (n:Nat):LEnt (KB 228) (Rn n) n:=lok (zJ 228) 13 ⟨⟨[(0,aL),(1,(.c (.fn 229 [(.rp [vI])]))),(7,aI),(8,aI)],[],[]⟩,[(.ret,⟨[(4,aI)],[],[]⟩),(.exit 0,⟨[],[],[]⟩)]⟩ (qh n) (qAO n) [] fun _=>(by kernel_rfl)
theorem qBO:∀n,Ok (Rn n) qBR (qm n)
 |0=>ok0 fun _=>rfl
 |n+1=>stO (T:=ql n) (by kernel_rfl) (qAO n) [qBG n] (fun _=>(by kernel_rfl)) fun _=>(by kernel_rfl)
def qMc:Sg:=⟨164,[(.agg [qI,qL,qL]),aI],[],⟨aI,[],[]⟩⟩
def qEn (n:Nat) (x0:Int) (x1 x2:RW) (x3:Int):Tr (Int):=(.opt (qm n x1 x3) fun r120=>(.done r120))
def qBS:Nat→Int→RW→RW→Int→Option (Int)
 |0,_,_,_,_=>none
 |n+1,x0,x1,x2,x3=>(qEn n x0 x1 x2 x3).run
abbrev qMd (n:Nat):List (Ent (Rn n)):= [en (qBO n)]
theorem qGc:∀n,Ok (Rn n) qMc (qBS n)
 |0=>ok0 fun _=>rfl
 |n+1=>stO (T:=qEn n) (by kernel_rfl) (qMd n) [] (fun _=>(by kernel_rfl)) fun _=>(by kernel_rfl)
def qOX:Sg:=⟨162,[(.agg [qI,qL,qL]),aL,aI],[],⟨aB,[],[]⟩⟩
def qEK (n:Nat) (v:RW×Int×RW×Int×Int×Int×RW×RW):Tr ((RW×Int×RW×Int×Int×Int×RW×RW)⊕((Bool)⊕(RW))):=(.ask ((decide (v.2.2.2.2.1<v.2.2.2.1))) (.ask (decide (0≤v.2.2.2.2.1∧v.2.2.2.2.1<v.2.2.1.length)) (.opt (v.2.2.1[(v.2.2.2.2.1).toNat]?) fun e110=>(.ask (decide (e110.length=1)) (.opt (zD .i64 e110 0) fun y111=>(.ask ((decide (y111≥v.2.1))) (.done (.inr (.inl (false)))) (.opt (qBS n v.2.2.2.2.2.1 v.2.2.2.2.2.2.1 v.2.2.2.2.2.2.2 y111) fun r112=>(.ask ((decide (r112<(0:Int)))) (.done (.inr (.inl (false)))) (.ask ((decide (v.2.2.2.2.1>(0:Int)))) (.ask (decide (0≤(IntKind.i64.wrap (v.2.2.2.2.1-(1:Int)))∧(IntKind.i64.wrap (v.2.2.2.2.1-(1:Int)))<v.1.length)) (.opt (v.1[((IntKind.i64.wrap (v.2.2.2.2.1-(1:Int)))).toNat]?) fun e113=>(.ask (decide (e113.length=1)) (.opt (zD .i64 e113 0) fun y114=>(.ask ((decide (y114≥y111))) (.done (.inr (.inl (false)))) (.done (.inl (v.1,v.2.1,v.2.2.1,v.2.2.2.1,(IntKind.i64.wrap (v.2.2.2.2.1+(1:Int))),v.2.2.2.2.2.1,v.2.2.2.2.2.2.1,v.2.2.2.2.2.2.2))))) .fail)) .fail) (.done (.inl (v.1,v.2.1,v.2.2.1,v.2.2.2.1,(IntKind.i64.wrap (v.2.2.2.2.1+(1:Int))),v.2.2.2.2.2.1,v.2.2.2.2.2.2.1,v.2.2.2.2.2.2.2)))))))) .fail)) .fail) (.done (.inr (.inr (v.1)))))
def qIt (n:Nat) (x0:Int) (x1 x2 x3:RW) (x4:Int):Tr (Bool):=(.opt (zC (qEK n) n (x3,x4,x3,(x3.length:Int),(0:Int),x0,x1,x2)) fun r115=>(.alt r115 (fun r116=>(.done r116)) (fun r117=>(.done (decide ((r117.length:Int)≤(2:Int)))))))
def qDI:Nat→Int→RW→RW→RW→Int→Option (Bool)
 |0,_,_,_,_,_=>none
 |n+1,x0,x1,x2,x3,x4=>(qIt n x0 x1 x2 x3 x4).run
abbrev qIu (n:Nat):List (Ent (Rn n)):= [en (qGc n)]
def qLq (n:Nat):LEnt (KB 162) (Rn n) n:=lok (zJ 162) 13 ⟨⟨[(1,aL),(2,aI),(3,(.c (.ptr 0 192 0 0 0))),(9,aL),(10,aI),(11,aI)],[(192,⟨0,3,59,(.box [qI,qL,qL])⟩)],[]⟩,[(.ret,⟨[(6,aB)],[],[]⟩),(.exit 0,⟨[(1,aL)],[],[]⟩)]⟩ (qEK n) (qIu n) [] fun _=>(by kernel_rfl)
theorem qNU:∀n,Ok (Rn n) qOX (qDI n)
 |0=>ok0 fun _=>rfl
 |n+1=>stO (T:=qIt n) (by kernel_rfl) (qIu n) [qLq n] (fun _=>(by kernel_rfl)) fun _=>(by kernel_rfl)
def qS2:Sg:=⟨59,[(.agg [qI,qI])],[],⟨aB,[],[]⟩⟩
def qJO (n:Nat) (x0 x1:Int):Tr (Bool):=(.opt (q8 n x0 (1:Int) (52:Int)) fun r123=>(.ask (r123) (.opt (q8 n x1 (1:Int) (99:Int)) fun r124=>(.done r124)) (.done false)))
def qB1:Nat→Int→Int→Option (Bool)
 |0,_,_=>none
 |n+1,x0,x1=>(qJO n x0 x1).run
abbrev qS3 (n:Nat):List (Ent (Rn n)):= [en (qDH n)]
theorem qF1:∀n,Ok (Rn n) qS2 (qB1 n)
 |0=>ok0 fun _=>rfl
 |n+1=>stO (T:=qJO n) (by kernel_rfl) (qS3 n) [] (fun _=>(by kernel_rfl)) fun _=>(by kernel_rfl)
def qNV:Sg:=⟨223,[aI],[],⟨aB,[],[]⟩⟩
def qFH (n:Nat) (x0:Int):Tr (Bool):=(.done (x0 !=x0))
def qCm:Nat→Int→Option (Bool)
 |0,_=>none
 |n+1,x0=>(qFH n x0).run
theorem qMe:∀n,Ok (Rn n) qNV (qCm n)
 |0=>ok0 fun _=>rfl
 |n+1=>stO (T:=qFH n) (by kernel_rfl) [] [] (fun _=>(by kernel_rfl)) fun _=>(by kernel_rfl)
def qLr:Sg:=⟨153,[aI,aI],[],⟨aI,[],[]⟩⟩
def qEL (n:Nat) (x0 x1:Int):Tr (Int):=(.opt (qCm n x0) fun r129=>(.opt (qCm n x1) fun r130=>(.ask (r129) (.ask (r130) (.done (0:Int)) (.done (-1:Int))) (.ask (r130) (.done (1:Int)) (.ask ((decide (x0<x1))) (.done (-1:Int)) (.ask ((decide (x0>x1))) (.done (1:Int)) (.done (0:Int))))))))
def qCE:Nat→Int→Int→Option (Int)
 |0,_,_=>none
 |n+1,x0,x1=>(qEL n x0 x1).run
abbrev qLs (n:Nat):List (Ent (Rn n)):= [en (qMe n)]
theorem qKr:∀n,Ok (Rn n) qLr (qCE n)
 |0=>ok0 fun _=>rfl
 |n+1=>stO (T:=qEL n) (by kernel_rfl) (qLs n) [] (fun _=>(by kernel_rfl)) fun _=>(by kernel_rfl)
def qS4:Sg:=⟨152,[aL],[],⟨aI,[],[]⟩⟩
def qCg (n:Nat) (v:Int×RW×Int×Int):Tr ((Int×RW×Int×Int)⊕((Int)⊕(Int))):=(.ask ((decide (v.2.2.2<v.2.2.1))) (.ask (decide (0≤v.2.2.2∧v.2.2.2<v.2.1.length)) (.opt (v.2.1[(v.2.2.2).toNat]?) fun e133=>(.ask (decide (e133.length=1)) (.opt (zD .i64 e133 0) fun y134=>(.ask ((y134 !=v.1)) (.done (.inr (.inl (y134)))) (.done (.inl (v.1,v.2.1,v.2.2.1,(IntKind.i64.wrap (v.2.2.2+(1:Int)))))))) .fail)) .fail) (.done (.inr (.inr (v.1)))))
def qJP (n:Nat) (x0:RW):Tr (Int):=(.opt (zC (qCg n) n ((0:Int),x0,(x0.length:Int),(0:Int))) fun r135=>(.alt r135 (fun r136=>(.done r136)) (fun r137=>(.done r137))))
def qGo:Nat→RW→Option (Int)
 |0,_=>none
 |n+1,x0=>(qJP n x0).run
def qPp (n:Nat):LEnt (KB 152) (Rn n) n:=lok (zJ 152) 29 ⟨⟨[(3,aI),(6,aL),(7,aI),(8,aI)],[],[]⟩,[(.ret,⟨[(2,aI)],[],[]⟩),(.exit 0,⟨[(3,aI)],[],[]⟩)]⟩ (qCg n) [] [] fun _=>(by kernel_rfl)
theorem qRt:∀n,Ok (Rn n) qS4 (qGo n)
 |0=>ok0 fun _=>rfl
 |n+1=>stO (T:=qJP n) (by kernel_rfl) [] [qPp n] (fun _=>(by kernel_rfl)) fun _=>(by kernel_rfl)
def qMf:Sg:=⟨80,[(.agg [qI,qI]),(.agg [qI,qI])],[],⟨aI,[],[]⟩⟩
def qEo (n:Nat) (x0 x1 x2 x3:Int):Tr (Int):=(.opt (qCE n x1 x3) fun r131=>(.opt (qCE n x0 x2) fun r132=>(.ask (decide (2=([[(.i .i64 r131)],[(.i .i64 r132)]]:RW).length)) (.opt (qGo n ([[(.i .i64 r131)],[(.i .i64 r132)]]:RW)) fun r138=>(.ask (zBF (⟨(.c (.p (.i .i64 r138))),[],[]⟩:Res)) (.done r138) .fail)) .fail)))
def qBt:Nat→Int→Int→Int→Int→Option (Int)
 |0,_,_,_,_=>none
 |n+1,x0,x1,x2,x3=>(qEo n x0 x1 x2 x3).run
abbrev qMg (n:Nat):List (Ent (Rn n)):= [en (qKr n),en (qRt n)]
theorem qLt:∀n,Ok (Rn n) qMf (qBt n)
 |0=>ok0 fun _=>rfl
 |n+1=>stO (T:=qEo n) (by kernel_rfl) (qMg n) [] (fun _=>(by kernel_rfl)) fun _=>(by kernel_rfl)
def qRu:Sg:=⟨69,[aS,aI],[],⟨aB,[],[]⟩⟩
def qBu (n:Nat) (v:BA×Int×Int×Int):Tr ((BA×Int×Int×Int)⊕((Bool)⊕(BA×Int))):=(.ask ((decide (v.2.2.2<v.2.2.1))) (.ask (decide (0≤v.2.2.2)) (.opt (v.1.toList[(v.2.2.2).toNat]?) fun c140=>(.ask ((decide ((c140.toNat:Int)<(32:Int)))) (.done (.inr (.inl (false)))) (.ask (decide (0≤v.2.2.2)) (.opt (v.1.toList[(v.2.2.2).toNat]?) fun c141=>(.ask ((decide ((c141.toNat:Int)>(126:Int)))) (.done (.inr (.inl (false)))) (.done (.inl (v.1,v.2.1,v.2.2.1,(IntKind.i64.wrap (v.2.2.2+(1:Int)))))))) .fail))) .fail) (.done (.inr (.inr ((v.1,v.2.1))))))
def qIR (n:Nat) (x0:BA) (x1:Int):Tr (Bool):=(.opt (zC (qBu n) n (x0,x1,(x0.size:Int),(0:Int))) fun r142=>(.alt r142 (fun r143=>(.done r143)) (fun r144=>(.done (decide ((r144.1.size:Int)≤r144.2))))))
def qC1:Nat→BA→Int→Option (Bool)
 |0,_,_=>none
 |n+1,x0,x1=>(qIR n x0 x1).run
def qOY (n:Nat):LEnt (KB 69) (Rn n) n:=lok (zJ 69) 13 ⟨⟨[(0,aS),(1,aI),(7,aI),(8,aI)],[],[]⟩,[(.ret,⟨[(4,aB)],[],[]⟩),(.exit 0,⟨[(0,aS),(1,aI)],[],[]⟩)]⟩ (qBu n) [] [] fun _=>(by kernel_rfl)
theorem qHG:∀n,Ok (Rn n) qRu (qC1 n)
 |0=>ok0 fun _=>rfl
 |n+1=>stO (T:=qIR n) (by kernel_rfl) [] [qOY n] (fun _=>(by kernel_rfl)) fun _=>(by kernel_rfl)
def qGd:Sg:=⟨70,[aS,aS],[],⟨(.tup [(false,[qS]),(false,[qB])]),[],[]⟩⟩
def qAL:Nat→BA→BA→Option ((BA×Bool))
 |0,_,_=>none
 |n+1,x0,x1=>ze x0 x1
theorem qCn:∀n,Ok (Rn n) qGd (qAL n)
 |0=>ok0 fun _=>rfl
 |n+1=>stL zAN (by kernel_rfl) (fun _ _=>rfl) (fun a r e=>congrArg (Option.map fun r=>(qGd.Of r).v) e) rfl rfl rfl
def qHH:Sg:=⟨206,[aS,aS],[],⟨aS,[],[]⟩⟩
def qBT:Nat→BA→BA→Option ((BA))
 |0,_,_=>none
 |n+1,x0,x1=>zR x0 x1
theorem qEM:∀n,Ok (Rn n) qHH (qBT n)
 |0=>ok0 fun _=>rfl
 |n+1=>stL zAS (by kernel_rfl) (fun _ _=>rfl) (fun a r e=>congrArg (Option.map fun r=>(qHH.Of r).v) e) rfl rfl rfl
def qKs:Sg:=⟨139,[(.c (.ptr 0 0 0 0 0))],[[(0,⟨0,3,174,(.box [qS,(.own 0 1 1 0),qB])⟩),(1,⟨1,14,210,(.row [])⟩)]],⟨(.tup []),[[(0,⟨0,3,174,(.box [qS,(.own 0 1 1 0),qB])⟩),(1,⟨1,14,210,(.row [])⟩)]],[]⟩⟩
def qDr (n:Nat) (x0:BA) (x1:Nat) (x2:Bool) (x3:RW):Tr (BA×Nat×Bool×RW):=(.opt (qBT n x0 (⟨#[32]⟩:BA)) fun r148=>(.done (r148,x1,x2,x3)))
def qA5:Nat→BA→Nat→Bool→RW→Option (BA×Nat×Bool×RW)
 |0,_,_,_,_=>none
 |n+1,x0,x1,x2,x3=>(qDr n x0 x1 x2 x3).run
abbrev qKt (n:Nat):List (Ent (Rn n)):= [en (qEM n)]
theorem qCY:∀n,Ok (Rn n) qKs (qA5 n)
 |0=>ok0 fun _=>rfl
 |n+1=>stO (T:=qDr n) (by kernel_rfl) (qKt n) [] (fun _=>(by kernel_rfl)) fun _=>(by kernel_rfl)
def qFI:Sg:=⟨199,[aS,aS],[],⟨aB,[],[]⟩⟩
def qA4 (n:Nat) (x0 x1:BA):Tr (Bool):=(.ask ((decide ((x0.size:Int)≥(x1.size:Int)))) (.ask (decide (0≤(0:Int)∧(0:Int)≤(x1.size:Int)∧(x1.size:Int)≤x0.size)) (.done ((x0.extract ((0:Int)).toNat ((x1.size:Int)).toNat).toList==x1.toList)) .fail) (.done false))
def qAE:Nat→BA→BA→Option (Bool)
 |0,_,_=>none
 |n+1,x0,x1=>(qA4 n x0 x1).run
theorem qCb:∀n,Ok (Rn n) qFI (qAE n)
 |0=>ok0 fun _=>rfl
 |n+1=>stO (T:=qA4 n) (by kernel_rfl) [] [] (fun _=>(by kernel_rfl)) fun _=>(by kernel_rfl)
def qLu:Sg:=⟨148,[aS,aS],[],⟨aB,[],[]⟩⟩
def qCF (n:Nat) (x0 x1:BA):Tr (Bool):=(.opt (qAE n x0 x1) fun r152=>(.done r152))
def qn:Nat→BA→BA→Option (Bool)
 |0,_,_=>none
 |n+1,x0,x1=>(qCF n x0 x1).run
abbrev qLv (n:Nat):List (Ent (Rn n)):= [en (qCb n)]
theorem qCo:∀n,Ok (Rn n) qLu (qn n)
 |0=>ok0 fun _=>rfl
 |n+1=>stO (T:=qCF n) (by kernel_rfl) (qLv n) [] (fun _=>(by kernel_rfl)) fun _=>(by kernel_rfl)
def qMh:Sg:=⟨201,[(.c (.ptr 0 0 0 0 0))],[[(0,⟨0,3,174,(.box [qS,(.own 0 1 1 0),qB])⟩),(1,⟨1,14,210,(.row [])⟩)]],⟨aS,[[(0,⟨0,3,174,(.box [qS,(.own 0 1 1 0),qB])⟩),(1,⟨1,14,210,(.row [])⟩)]],[]⟩⟩
def qCZ (n:Nat) (v:Nat×Int×Int×RW×BA×Nat×Bool×RW):Tr ((Nat×Int×Int×RW×BA×Nat×Bool×RW)⊕((BA×BA×Nat×Bool×RW)⊕(BA×Nat×Bool×RW))):=(.ask ((decide (v.2.2.1<v.2.1))) (.ask (decide (v.1=v.2.2.2.1.length∧0≤v.2.2.1∧v.2.2.1<((v.1:Nat):Int))) (.opt (v.2.2.2.1[(v.2.2.1).toNat]?) fun e150=>(.opt (zT e150 0) fun y151=>(.opt (qn n v.2.2.2.2.1 y151) fun r152=>(.ask (r152) (.done (.inr (.inl ((y151,v.2.2.2.2.1,v.2.2.2.2.2.1,v.2.2.2.2.2.2.1,v.2.2.2.2.2.2.2))))) (.done (.inl (v.1,v.2.1,(IntKind.i64.wrap (v.2.2.1+(1:Int))),v.2.2.2.1,v.2.2.2.2.1,v.2.2.2.2.2.1,v.2.2.2.2.2.2.1,v.2.2.2.2.2.2.2))))))) .fail) (.done (.inr (.inr ((v.2.2.2.2.1,v.2.2.2.2.2.1,v.2.2.2.2.2.2.1,v.2.2.2.2.2.2.2))))))
def qHI (n:Nat) (x0:BA) (x1:Nat) (x2:Bool) (x3:RW):Tr (BA×BA×Nat×Bool×RW):=(.opt (qA5 n x0 x1 x2 x3) fun r149=>(.opt (zC (qCZ n) n ((15:Nat),(15:Int),(0:Int),([[(.s (⟨#[60,62]⟩:BA))],[(.s (⟨#[60,61]⟩:BA))],[(.s (⟨#[62,61]⟩:BA))],[(.s (⟨#[60]⟩:BA))],[(.s (⟨#[62]⟩:BA))],[(.s (⟨#[61]⟩:BA))],[(.s (⟨#[38]⟩:BA))],[(.s (⟨#[43]⟩:BA))],[(.s (⟨#[45]⟩:BA))],[(.s (⟨#[42]⟩:BA))],[(.s (⟨#[47]⟩:BA))],[(.s (⟨#[40]⟩:BA))],[(.s (⟨#[41]⟩:BA))],[(.s (⟨#[44]⟩:BA))],[(.s (⟨#[58]⟩:BA))]]:RW),r149.1,r149.2.1,r149.2.2.1,r149.2.2.2)) fun r153=>(.alt r153 (fun r154=>(.done (r154.1,r154.2.1,r154.2.2.1,r154.2.2.2.1,r154.2.2.2.2))) (fun r155=>(.done ((⟨#[]⟩:BA),r155.1,r155.2.1,r155.2.2.1,r155.2.2.2))))))
def qBv:Nat→BA→Nat→Bool→RW→Option (BA×BA×Nat×Bool×RW)
 |0,_,_,_,_=>none
 |n+1,x0,x1,x2,x3=>(qHI n x0 x1 x2 x3).run
abbrev qHJ (n:Nat):List (Ent (Rn n)):= [en (qCY n),en (qCo n)]
def qKL (n:Nat):LEnt (KB 201) (Rn n) n:=lok (zJ 201) 29 ⟨⟨[(0,(.c (.ptr 0 0 0 0 0))),(7,(.c (.own 1 448 0 0))),(8,aI),(9,aI)],[(448,⟨0,1,9,(.row [])⟩)],[[(0,⟨0,3,174,(.box [qS,(.own 0 1 1 0),qB])⟩),(1,⟨1,14,210,(.row [])⟩)]]⟩,[(.ret,⟨[(2,aS)],[],[[(0,⟨0,3,174,(.box [qS,(.own 0 1 1 0),qB])⟩),(1,⟨1,14,210,(.row [])⟩)]]⟩),(.exit 0,⟨[],[],[[(0,⟨0,3,174,(.box [qS,(.own 0 1 1 0),qB])⟩),(1,⟨1,14,210,(.row [])⟩)]]⟩)]⟩ (qCZ n) (qHJ n) [] fun _=>(by kernel_rfl)
theorem qGe:∀n,Ok (Rn n) qMh (qBv n)
 |0=>ok0 fun _=>rfl
 |n+1=>stO (T:=qHI n) (by kernel_rfl) (qHJ n) [qKL n] (fun _=>(by kernel_rfl)) fun _=>(by kernel_rfl)
def qMi:Sg:=⟨204,[(.c (.ptr 0 0 0 0 0)),aS],[[(0,⟨0,3,174,(.box [qS,(.own 0 1 1 0),qB])⟩),(1,⟨1,14,210,(.row [])⟩)]],⟨aB,[[(0,⟨0,3,174,(.box [qS,(.own 0 1 1 0),qB])⟩),(1,⟨1,14,210,(.row [])⟩)]],[]⟩⟩
def qHK (n:Nat) (x0 x1:BA) (x2:Nat) (x3:Bool) (x4:RW):Tr (Bool×BA×Nat×Bool×RW):=(.opt (qBv n x1 x2 x3 x4) fun r156=>(.ask ((!(r156.1.toList==x0.toList))) (.done (false,r156.2.1,r156.2.2.1,r156.2.2.2.1,r156.2.2.2.2)) (.ask (decide (0≤(x0.size:Int)∧(x0.size:Int)≤(r156.2.1.size:Int)∧(r156.2.1.size:Int)≤r156.2.1.size)) (.done (true,(r156.2.1.extract ((x0.size:Int)).toNat ((r156.2.1.size:Int)).toNat),r156.2.2.1,r156.2.2.2.1,r156.2.2.2.2)) .fail)))
def qt:Nat→BA→BA→Nat→Bool→RW→Option (Bool×BA×Nat×Bool×RW)
 |0,_,_,_,_,_=>none
 |n+1,x0,x1,x2,x3,x4=>(qHK n x0 x1 x2 x3 x4).run
abbrev qMj (n:Nat):List (Ent (Rn n)):= [en (qGe n)]
theorem qCG:∀n,Ok (Rn n) qMi (qt n)
 |0=>ok0 fun _=>rfl
 |n+1=>stO (T:=qHK n) (by kernel_rfl) (qMj n) [] (fun _=>(by kernel_rfl)) fun _=>(by kernel_rfl)
def qNW:Sg:=⟨205,[(.c (.ptr 0 0 0 0 0)),(.agg [qI,qI,qI,qI,qS,qI,qI,qB,qB,qI,qI,qB,qB,qL])],[[(0,⟨0,3,174,(.box [qS,(.own 0 1 1 0),qB])⟩),(1,⟨1,14,210,(.row [])⟩)]],⟨aI,[[(0,⟨0,3,174,(.box [qS,(.own 0 1 1 0),qB])⟩),(1,⟨1,14,210,(.row [])⟩)]],[]⟩⟩
def qHy (n:Nat) (x0 x1 x2 x3:Int) (x4:BA) (x5 x6:Int) (x7 x8:Bool) (x9 x10:Int) (x11 x12:Bool) (x13:RW) (x14:BA) (x15:Nat) (x16:Bool) (x17:RW):Tr (Int×BA×Nat×Bool×RW):=(.ask (x16) (.ask (false) (.ask (decide (1=([[(.i .i64 x0),(.i .i64 x1),(.i .i64 x2),(.i .i64 x3),(.s x4),(.i .i64 x5),(.i .i64 x6),(.b x7),(.b x8),(.i .i64 x9),(.i .i64 x10),(.b x11),(.b x12),(.ls x13)]]:RW).length)) (.ask (decide (x15=x17.length∧0<14∧0<120∧(x15+([[(.i .i64 x0),(.i .i64 x1),(.i .i64 x2),(.i .i64 x3),(.s x4),(.i .i64 x5),(.i .i64 x6),(.b x7),(.b x8),(.i .i64 x9),(.i .i64 x10),(.b x11),(.b x12),(.ls x13)]]:RW).length)*120≤140737488355328∧([[(.i .i64 x0),(.i .i64 x1),(.i .i64 x2),(.i .i64 x3),(.s x4),(.i .i64 x5),(.i .i64 x6),(.b x7),(.b x8),(.i .i64 x9),(.i .i64 x10),(.b x11),(.b x12),(.ls x13)]]:RW).all (fun e=>e.length==14)=true)) (.done ((IntKind.i64.wrap ((((x15+1):Nat):Int)-(1:Int))),x14,(x15+1),true,(x17++([[(.i .i64 x0),(.i .i64 x1),(.i .i64 x2),(.i .i64 x3),(.s x4),(.i .i64 x5),(.i .i64 x6),(.b x7),(.b x8),(.i .i64 x9),(.i .i64 x10),(.b x11),(.b x12),(.ls x13)]]:RW)))) .fail) .fail) (.done ((IntKind.i64.wrap (((x15:Nat):Int)-(1:Int))),x14,x15,true,x17))) (.ask ((!(decide (((x15:Nat):Int)≥(60:Int))))) (.ask (decide (1=([[(.i .i64 x0),(.i .i64 x1),(.i .i64 x2),(.i .i64 x3),(.s x4),(.i .i64 x5),(.i .i64 x6),(.b x7),(.b x8),(.i .i64 x9),(.i .i64 x10),(.b x11),(.b x12),(.ls x13)]]:RW).length)) (.ask (decide (x15=x17.length∧0<14∧0<120∧(x15+([[(.i .i64 x0),(.i .i64 x1),(.i .i64 x2),(.i .i64 x3),(.s x4),(.i .i64 x5),(.i .i64 x6),(.b x7),(.b x8),(.i .i64 x9),(.i .i64 x10),(.b x11),(.b x12),(.ls x13)]]:RW).length)*120≤140737488355328∧([[(.i .i64 x0),(.i .i64 x1),(.i .i64 x2),(.i .i64 x3),(.s x4),(.i .i64 x5),(.i .i64 x6),(.b x7),(.b x8),(.i .i64 x9),(.i .i64 x10),(.b x11),(.b x12),(.ls x13)]]:RW).all (fun e=>e.length==14)=true)) (.done ((IntKind.i64.wrap ((((x15+1):Nat):Int)-(1:Int))),x14,(x15+1),(decide (((x15:Nat):Int)≥(60:Int))),(x17++([[(.i .i64 x0),(.i .i64 x1),(.i .i64 x2),(.i .i64 x3),(.s x4),(.i .i64 x5),(.i .i64 x6),(.b x7),(.b x8),(.i .i64 x9),(.i .i64 x10),(.b x11),(.b x12),(.ls x13)]]:RW)))) .fail) .fail) (.done ((IntKind.i64.wrap (((x15:Nat):Int)-(1:Int))),x14,x15,(decide (((x15:Nat):Int)≥(60:Int))),x17))))
def qu:Nat→Int→Int→Int→Int→BA→Int→Int→Bool→Bool→Int→Int→Bool→Bool→RW→BA→Nat→Bool→RW→Option (Int×BA×Nat×Bool×RW)
 |0,_,_,_,_,_,_,_,_,_,_,_,_,_,_,_,_,_,_=>none
 |n+1,x0,x1,x2,x3,x4,x5,x6,x7,x8,x9,x10,x11,x12,x13,x14,x15,x16,x17=>(qHy n x0 x1 x2 x3 x4 x5 x6 x7 x8 x9 x10 x11 x12 x13 x14 x15 x16 x17).run
theorem qCU:∀n,Ok (Rn n) qNW (qu n)
 |0=>ok0 fun _=>rfl
 |n+1=>stO (T:=qHy n) (by kernel_rfl) [] [] (fun _=>(by kernel_rfl)) fun _=>(by kernel_rfl)
def qMF:Sg:=⟨101,[aS,aS],[],⟨(.tup [(false,[qS]),(false,[qS]),(false,[qB])]),[],[]⟩⟩
def qIS:Nat→BA→BA→Option ((BA×BA×Bool))
 |0,_,_=>none
 |n+1,x0,x1=>zAk x0 x1
theorem qQq:∀n,Ok (Rn n) qMF (qIS n)
 |0=>ok0 fun _=>rfl
 |n+1=>stL zA2 (by kernel_rfl) (fun _ _=>rfl) (fun a r e=>congrArg (Option.map fun r=>(qMF.Of r).v) e) rfl rfl rfl
def qJQ:Sg:=⟨301,[(.c (.ptr 0 0 0 0 0)),(.agg [qI,qI,qS])],[[(0,⟨0,3,174,(.box [qS,(.own 0 1 1 0),qB])⟩),(1,⟨1,14,210,(.row [])⟩)]],⟨aI,[[(0,⟨0,3,174,(.box [qS,(.own 0 1 1 0),qB])⟩),(1,⟨1,14,210,(.row [])⟩)]],[]⟩⟩
def qFJ (n:Nat) (x0 x1:Int) (x2 x3:BA) (x4:Nat) (x5:Bool) (x6:RW):Tr (Int×BA×Nat×Bool×RW):=(.opt (qu n (1:Int) (0:Int) x0 x1 x2 (0:Int) (0:Int) false false (0:Int) (0:Int) false false ([]:RW) x3 x4 x5 x6) fun r167=>(.done (r167.1,r167.2.1,r167.2.2.1,r167.2.2.2.1,r167.2.2.2.2)))
def qj:Nat→Int→Int→BA→BA→Nat→Bool→RW→Option (Int×BA×Nat×Bool×RW)
 |0,_,_,_,_,_,_,_=>none
 |n+1,x0,x1,x2,x3,x4,x5,x6=>(qFJ n x0 x1 x2 x3 x4 x5 x6).run
abbrev qJR (n:Nat):List (Ent (Rn n)):= [en (qCU n)]
theorem qEw:∀n,Ok (Rn n) qJQ (qj n)
 |0=>ok0 fun _=>rfl
 |n+1=>stO (T:=qFJ n) (by kernel_rfl) (qJR n) [] (fun _=>(by kernel_rfl)) fun _=>(by kernel_rfl)
def qKu:Sg:=⟨300,[(.c (.ptr 0 0 0 0 0))],[[(0,⟨0,3,174,(.box [qS,(.own 0 1 1 0),qB])⟩),(1,⟨1,14,210,(.row [])⟩)]],⟨aI,[[(0,⟨0,3,174,(.box [qS,(.own 0 1 1 0),qB])⟩),(1,⟨1,14,210,(.row [])⟩)]],[]⟩⟩
def qDJ (n:Nat) (v:BA×BA×BA×Nat×Bool×RW):Tr ((BA×BA×BA×Nat×Bool×RW)⊕((Int×BA×Nat×Bool×RW)⊕(BA×BA×BA×Nat×Bool×RW))):=(.opt (qIS n v.2.1 (⟨#[34]⟩:BA)) fun r162=>(.ask ((!r162.2.2)) (.done (.inr (.inl (((-1:Int),v.2.2.1,v.2.2.2.1,true,v.2.2.2.2.2))))) (.ask (decide (v.1.size+r162.1.size≤9223372036854775807)) (.opt (qn n r162.2.1 (⟨#[34]⟩:BA)) fun r163=>(.ask ((!r163)) (.done (.inr (.inr (((v.1++r162.1),r162.2.1,v.2.2.1,v.2.2.2.1,v.2.2.2.2.1,v.2.2.2.2.2))))) (.ask (decide ((v.1++r162.1).size+(⟨#[34]⟩:BA).size≤9223372036854775807)) (.ask (decide (0≤(1:Int)∧(1:Int)≤(r162.2.1.size:Int)∧(r162.2.1.size:Int)≤r162.2.1.size)) (.done (.inl (((v.1++r162.1)++(⟨#[34]⟩:BA)),(r162.2.1.extract ((1:Int)).toNat ((r162.2.1.size:Int)).toNat),v.2.2.1,v.2.2.2.1,v.2.2.2.2.1,v.2.2.2.2.2))) .fail) .fail))) .fail)))
def qF8 (n:Nat) (x0:BA) (x1:Nat) (x2:Bool) (x3:RW):Tr (Int×BA×Nat×Bool×RW):=(.ask (decide (0≤(1:Int)∧(1:Int)≤(x0.size:Int)∧(x0.size:Int)≤x0.size)) (.opt (zC (qDJ n) n ((⟨#[]⟩:BA),(x0.extract ((1:Int)).toNat ((x0.size:Int)).toNat),x0,x1,x2,x3)) fun r164=>(.alt r164 (fun r165=>(.done (r165.1,r165.2.1,r165.2.2.1,r165.2.2.2.1,r165.2.2.2.2))) (fun r166=>(.opt (qj n (2:Int) (0:Int) r166.1 r166.2.1 r166.2.2.2.1 r166.2.2.2.2.1 r166.2.2.2.2.2) fun r168=>(.done (r168.1,r168.2.1,r168.2.2.1,r168.2.2.2.1,r168.2.2.2.2)))))) .fail)
def qDs:Nat→BA→Nat→Bool→RW→Option (Int×BA×Nat×Bool×RW)
 |0,_,_,_,_=>none
 |n+1,x0,x1,x2,x3=>(qF8 n x0 x1 x2 x3).run
abbrev qF9 (n:Nat):List (Ent (Rn n)):= [en (qQq n),en (qCo n),en (qEw n)]
def qIv (n:Nat):LEnt (KB 300) (Rn n) n:=lok (zJ 300) 14 ⟨⟨[(0,(.c (.ptr 0 0 0 0 0))),(3,aS),(4,aS)],[],[[(0,⟨0,3,174,(.box [qS,(.own 0 1 1 0),qB])⟩),(1,⟨1,14,210,(.row [])⟩)]]⟩,[(.ret,⟨[(2,aI)],[],[[(0,⟨0,3,174,(.box [qS,(.own 0 1 1 0),qB])⟩),(1,⟨1,14,210,(.row [])⟩)]]⟩),(.exit 0,⟨[(0,(.c (.ptr 0 0 0 0 0))),(3,aS),(4,aS)],[],[[(0,⟨0,3,174,(.box [qS,(.own 0 1 1 0),qB])⟩),(1,⟨1,14,210,(.row [])⟩)]]⟩)]⟩ (qDJ n) (qF9 n) [] fun _=>(by kernel_rfl)
theorem qKM:∀n,Ok (Rn n) qKu (qDs n)
 |0=>ok0 fun _=>rfl
 |n+1=>stO (T:=qF8 n) (by kernel_rfl) (qF9 n) [qIv n] (fun _=>(by kernel_rfl)) fun _=>(by kernel_rfl)
def qOZ:Sg:=⟨149,[aI],[],⟨aS,[],[]⟩⟩
def qFm (n:Nat) (x0:Int):Tr (BA):=(.ask (decide (6=([[(.s (⟨#[]⟩:BA))],[(.s (⟨#[35,68,73,86,33]⟩:BA))],[(.s (⟨#[35,84,89,80,69,33]⟩:BA))],[(.s (⟨#[35,82,69,70,33]⟩:BA))],[(.s (⟨#[35,79,86,69,82,33]⟩:BA))],[(.s (⟨#[35,67,89,67,76,69,33]⟩:BA))]]:RW).length∧0≤x0∧x0<((6:Nat):Int))) (.opt (([[(.s (⟨#[]⟩:BA))],[(.s (⟨#[35,68,73,86,33]⟩:BA))],[(.s (⟨#[35,84,89,80,69,33]⟩:BA))],[(.s (⟨#[35,82,69,70,33]⟩:BA))],[(.s (⟨#[35,79,86,69,82,33]⟩:BA))],[(.s (⟨#[35,67,89,67,76,69,33]⟩:BA))]]:RW)[(x0).toNat]?) fun e171=>(.opt (zT e171 0) fun y172=>(.done y172))) .fail)
def qAo:Nat→Int→Option (BA)
 |0,_=>none
 |n+1,x0=>(qFm n x0).run
theorem qFK:∀n,Ok (Rn n) qOZ (qAo n)
 |0=>ok0 fun _=>rfl
 |n+1=>stO (T:=qFm n) (by kernel_rfl) [] [] (fun _=>(by kernel_rfl)) fun _=>(by kernel_rfl)
def qS5:Sg:=⟨150,[aI],[],⟨(.agg [qI,qI,qS]),[],[]⟩⟩
def qJS (n:Nat) (x0:Int):Tr (Int×Int×BA):=(.done ((4:Int),x0,(⟨#[]⟩:BA)))
def qB2:Nat→Int→Option (Int×Int×BA)
 |0,_=>none
 |n+1,x0=>(qJS n x0).run
theorem qMG:∀n,Ok (Rn n) qS5 (qB2 n)
 |0=>ok0 fun _=>rfl
 |n+1=>stO (T:=qJS n) (by kernel_rfl) [] [] (fun _=>(by kernel_rfl)) fun _=>(by kernel_rfl)
def qMk:Sg:=⟨302,[(.c (.ptr 0 0 0 0 0))],[[(0,⟨0,3,174,(.box [qS,(.own 0 1 1 0),qB])⟩),(1,⟨1,14,210,(.row [])⟩)]],⟨aS,[[(0,⟨0,3,174,(.box [qS,(.own 0 1 1 0),qB])⟩),(1,⟨1,14,210,(.row [])⟩)]],[]⟩⟩
def qHL (n:Nat) (x0:BA) (x1:Nat) (x2:Bool) (x3:RW):Tr (BA×BA×Nat×Bool×RW):=(.opt (qA5 n x0 x1 x2 x3) fun r178=>(.opt (qBT n r178.1 (⟨#[65,66,67,68,69,70,71,72,73,74,75,76,77,78,79,80,81,82,83,84,85,86,87,88,89,90,48,49,50,51,52,53,54,55,56,57,36]⟩:BA)) fun r179=>(.ask (decide (0≤(0:Int)∧(0:Int)≤(IntKind.i64.wrap ((r178.1.size:Int)-(r179.size:Int)))∧(IntKind.i64.wrap ((r178.1.size:Int)-(r179.size:Int)))≤r178.1.size)) (.ask (decide (0≤(IntKind.i64.wrap ((r178.1.size:Int)-(r179.size:Int)))∧(IntKind.i64.wrap ((r178.1.size:Int)-(r179.size:Int)))≤(r178.1.size:Int)∧(r178.1.size:Int)≤r178.1.size)) (.done ((r178.1.extract ((0:Int)).toNat ((IntKind.i64.wrap ((r178.1.size:Int)-(r179.size:Int)))).toNat),(r178.1.extract ((IntKind.i64.wrap ((r178.1.size:Int)-(r179.size:Int)))).toNat ((r178.1.size:Int)).toNat),r178.2.1,r178.2.2.1,r178.2.2.2)) .fail) .fail)))
def qBU:Nat→BA→Nat→Bool→RW→Option (BA×BA×Nat×Bool×RW)
 |0,_,_,_,_=>none
 |n+1,x0,x1,x2,x3=>(qHL n x0 x1 x2 x3).run
abbrev qMl (n:Nat):List (Ent (Rn n)):= [en (qCY n),en (qEM n)]
theorem qGf:∀n,Ok (Rn n) qMk (qBU n)
 |0=>ok0 fun _=>rfl
 |n+1=>stO (T:=qHL n) (by kernel_rfl) (qMl n) [] (fun _=>(by kernel_rfl)) fun _=>(by kernel_rfl)
def qQr:Sg:=⟨75,[(.agg [qI,qI,qS])],[],⟨aB,[],[]⟩⟩
def qHM (n:Nat) (x0 x1:Int) (x2:BA):Tr (Bool):=(.ask ((x0==(2:Int))) (.ask ((x1==(0:Int))) (.opt (qC1 n x2 (200:Int)) fun r182=>(.done r182)) (.done false)) (.ask ((!(x2.toList==(⟨#[]⟩:BA).toList))) (.done false) (.ask ((x0==(0:Int))) (.done (x1==(0:Int))) (.ask ((x0==(1:Int))) (.opt (q8 n x1 (-1000000000000000:Int) (1000000000000000:Int)) fun r183=>(.done r183)) (.ask ((x0==(3:Int))) (.opt (q8 n x1 (0:Int) (1:Int)) fun r184=>(.done r184)) (.ask ((x0==(4:Int))) (.opt (q8 n x1 (1:Int) (5:Int)) fun r185=>(.done r185)) (.done false)))))))
def qAX:Nat→Int→Int→BA→Option (Bool)
 |0,_,_,_=>none
 |n+1,x0,x1,x2=>(qHM n x0 x1 x2).run
abbrev qQs (n:Nat):List (Ent (Rn n)):= [en (qHG n),en (qDH n)]
theorem qGV:∀n,Ok (Rn n) qQr (qAX n)
 |0=>ok0 fun _=>rfl
 |n+1=>stO (T:=qHM n) (by kernel_rfl) (qQs n) [] (fun _=>(by kernel_rfl)) fun _=>(by kernel_rfl)
def qGg:Sg:=⟨146,[aI,aI],[],⟨aS,[],[]⟩⟩
def qEN:Nat→Int→Int→Option ((BA))
 |0,_,_=>none
 |n+1,x0,x1=>zo x0 x1
theorem qKv:∀n,Ok (Rn n) qGg (qEN n)
 |0=>ok0 fun _=>rfl
 |n+1=>stL zAM (by kernel_rfl) (fun _ _=>rfl) (fun a r e=>congrArg (Option.map fun r=>(qGg.Of r).v) e) rfl rfl rfl
def qQt:Sg:=⟨77,[aI],[],⟨aS,[],[]⟩⟩
def qHN (n:Nat) (x0:Int):Tr (BA):=(.opt (qEN n x0 (10:Int)) fun r187=>(.done r187))
def qv:Nat→Int→Option (BA)
 |0,_=>none
 |n+1,x0=>(qHN n x0).run
abbrev qQu (n:Nat):List (Ent (Rn n)):= [en (qKv n)]
theorem qEe:∀n,Ok (Rn n) qQt (qv n)
 |0=>ok0 fun _=>rfl
 |n+1=>stO (T:=qHN n) (by kernel_rfl) (qQu n) [] (fun _=>(by kernel_rfl)) fun _=>(by kernel_rfl)
def qOa:Sg:=⟨151,[(.agg [qI,qI,qS])],[],⟨aS,[],[]⟩⟩
def qBw (n:Nat) (x0 x1:Int) (x2:BA):Tr (BA):=(.ask ((x0==(1:Int))) (.opt (qv n x1) fun r188=>(.done r188)) (.ask ((x0==(2:Int))) (.ask (decide ((⟨#[39]⟩:BA).size+x2.size≤9223372036854775807)) (.done ((⟨#[39]⟩:BA)++x2)) .fail) (.ask ((x0==(3:Int))) (.ask (decide (2=([[(.s (⟨#[70,65,76,83,69]⟩:BA))],[(.s (⟨#[84,82,85,69]⟩:BA))]]:RW).length∧0≤x1∧x1<((2:Nat):Int))) (.opt (([[(.s (⟨#[70,65,76,83,69]⟩:BA))],[(.s (⟨#[84,82,85,69]⟩:BA))]]:RW)[(x1).toNat]?) fun e189=>(.opt (zT e189 0) fun y190=>(.done y190))) .fail) (.ask ((x0==(4:Int))) (.opt (qAo n x1) fun r191=>(.done r191)) (.done (⟨#[]⟩:BA))))))
def qw:Nat→Int→Int→BA→Option (BA)
 |0,_,_,_=>none
 |n+1,x0,x1,x2=>(qBw n x0 x1 x2).run
abbrev qOb (n:Nat):List (Ent (Rn n)):= [en (qEe n),en (qFK n)]
theorem qHz:∀n,Ok (Rn n) qOa (qw n)
 |0=>ok0 fun _=>rfl
 |n+1=>stO (T:=qBw n) (by kernel_rfl) (qOb n) [] (fun _=>(by kernel_rfl)) fun _=>(by kernel_rfl)
def qS6:Sg:=⟨147,[aB],[],⟨(.agg [qI,qI,qS]),[],[]⟩⟩
def qJT (n:Nat) (x0:Bool):Tr (Int×Int×BA):=(.ask (x0) (.done ((3:Int),(1:Int),(⟨#[]⟩:BA))) (.done ((3:Int),(0:Int),(⟨#[]⟩:BA))))
def qFL:Nat→Bool→Option (Int×Int×BA)
 |0,_=>none
 |n+1,x0=>(qJT n x0).run
theorem qRv:∀n,Ok (Rn n) qS6 (qFL n)
 |0=>ok0 fun _=>rfl
 |n+1=>stO (T:=qJT n) (by kernel_rfl) [] [] (fun _=>(by kernel_rfl)) fun _=>(by kernel_rfl)
def qMm:Sg2:=⟨73,[aS,aI,aI],(.tup [(false,[qI]),(false,[(.p .nif)])]),(.tup [(false,[qI]),(false,[(.p .ifc)])])⟩
def qA6:Nat→BA→Int→Int→Option ((Int)⊕(Int))
 |0,_,_,_=>none
 |n+1,x0,x1,x2=>zL x0 x1 x2
theorem qEO:∀n,Ok2 (Rn n) qMm (qA6 n)
 |0=>fun a r e=>by cases e
 |n+1=>zLR zAR (by kernel_rfl) (fun _ _=>rfl) fun a r e=>by
  rcases r with r|r
  ·exact congrArg (Option.map zAW) e
  ·exact congrArg (Option.map zAW) e
def qRw:Sg:=⟨76,[aI],[],⟨(.agg [qI,qI,qS]),[],[]⟩⟩
def qIT (n:Nat) (x0:Int):Tr (Int×Int×BA):=(.done ((1:Int),x0,(⟨#[]⟩:BA)))
def qC2:Nat→Int→Option (Int×Int×BA)
 |0,_=>none
 |n+1,x0=>(qIT n x0).run
theorem qKw:∀n,Ok (Rn n) qRw (qC2 n)
 |0=>ok0 fun _=>rfl
 |n+1=>stO (T:=qIT n) (by kernel_rfl) [] [] (fun _=>(by kernel_rfl)) fun _=>(by kernel_rfl)
def qOc:Sg:=⟨78,[aS],[],⟨(.tup [(true,[qI,qI,qS]),(false,[qB])]),[],[]⟩⟩
def qBH (n:Nat) (v:BA×Int×Int×Int×BA×Int×Int×BA):Tr ((BA×Int×Int×Int×BA×Int×Int×BA)⊕((BA×Int×Int×BA×Int×Int×BA))):=(.ask ((decide (v.2.1≤(5:Int)))) (.opt (qAo n v.2.1) fun r200=>(.ask ((r200.toList==v.1.toList)) (.opt (qB2 n v.2.1) fun r201=>(.done (.inl (v.1,(IntKind.i64.wrap (v.2.1+(1:Int))),v.2.2.1,v.2.2.2.1,v.2.2.2.2.1,r201.1,r201.2.1,r201.2.2)))) (.done (.inl (v.1,(IntKind.i64.wrap (v.2.1+(1:Int))),v.2.2.1,v.2.2.2.1,v.2.2.2.2.1,v.2.2.2.2.2.1,v.2.2.2.2.2.2.1,v.2.2.2.2.2.2.2))))) (.done (.inr ((v.1,v.2.2.1,v.2.2.2.1,v.2.2.2.2.1,v.2.2.2.2.2.1,v.2.2.2.2.2.2.1,v.2.2.2.2.2.2.2)))))
def qBX (n:Nat) (x0:BA):Tr (Int×Int×BA×Bool):=(.opt (qAL n x0 (⟨#[39]⟩:BA)) fun r181=>(.ask (r181.2) (.opt (qAX n (2:Int) (0:Int) r181.1) fun r186=>(.ask ((!r186)) (.done ((0:Int),(0:Int),(⟨#[]⟩:BA),false)) (.opt (qw n (2:Int) (0:Int) r181.1) fun r192=>(.ask ((!(r192.toList==x0.toList))) (.done ((0:Int),(0:Int),(⟨#[]⟩:BA),false)) (.done ((2:Int),(0:Int),r181.1,true)))))) (.ask ((x0.toList==(⟨#[70,65,76,83,69]⟩:BA).toList)) (.opt (qFL n (x0.toList==(⟨#[84,82,85,69]⟩:BA).toList)) fun r193=>(.opt (qAX n r193.1 r193.2.1 r193.2.2) fun r194=>(.ask ((!r194)) (.done ((0:Int),(0:Int),(⟨#[]⟩:BA),false)) (.opt (qw n r193.1 r193.2.1 r193.2.2) fun r195=>(.ask ((!(r195.toList==x0.toList))) (.done ((0:Int),(0:Int),(⟨#[]⟩:BA),false)) (.done (r193.1,r193.2.1,r193.2.2,true))))))) (.ask ((x0.toList==(⟨#[84,82,85,69]⟩:BA).toList)) (.opt (qFL n (x0.toList==(⟨#[84,82,85,69]⟩:BA).toList)) fun r196=>(.opt (qAX n r196.1 r196.2.1 r196.2.2) fun r197=>(.ask ((!r197)) (.done ((0:Int),(0:Int),(⟨#[]⟩:BA),false)) (.opt (qw n r196.1 r196.2.1 r196.2.2) fun r198=>(.ask ((!(r198.toList==x0.toList))) (.done ((0:Int),(0:Int),(⟨#[]⟩:BA),false)) (.done (r196.1,r196.2.1,r196.2.2,true))))))) (.opt (qn n x0 (⟨#[35]⟩:BA)) fun r199=>(.ask (r199) (.opt (zC (qBH n) n (x0,(1:Int),(0:Int),(0:Int),(⟨#[]⟩:BA),(0:Int),(0:Int),(⟨#[]⟩:BA))) fun r202=>(.opt (qAX n r202.2.2.2.2.1 r202.2.2.2.2.2.1 r202.2.2.2.2.2.2) fun r203=>(.ask ((!r203)) (.done ((0:Int),(0:Int),(⟨#[]⟩:BA),false)) (.opt (qw n r202.2.2.2.2.1 r202.2.2.2.2.2.1 r202.2.2.2.2.2.2) fun r204=>(.ask ((!(r204.toList==r202.1.toList))) (.done ((0:Int),(0:Int),(⟨#[]⟩:BA),false)) (.done (r202.2.2.2.2.1,r202.2.2.2.2.2.1,r202.2.2.2.2.2.2,true))))))) (.ask ((!(x0.toList==(⟨#[]⟩:BA).toList))) (.opt (qA6 n x0 (10:Int) (64:Int)) fun r205=>(.alt r205 (fun r206=>(.opt (qC2 n r206) fun r208=>(.opt (qAX n r208.1 r208.2.1 r208.2.2) fun r209=>(.ask ((!r209)) (.done ((0:Int),(0:Int),(⟨#[]⟩:BA),false)) (.opt (qw n r208.1 r208.2.1 r208.2.2) fun r210=>(.ask ((!(r210.toList==x0.toList))) (.done ((0:Int),(0:Int),(⟨#[]⟩:BA),false)) (.done (r208.1,r208.2.1,r208.2.2,true)))))))) (fun r207=>(.opt (qC2 n r207) fun r211=>(.opt (qAX n r211.1 r211.2.1 r211.2.2) fun r212=>(.ask ((!r212)) (.done ((0:Int),(0:Int),(⟨#[]⟩:BA),false)) (.opt (qw n r211.1 r211.2.1 r211.2.2) fun r213=>(.ask ((!(r213.toList==x0.toList))) (.done ((0:Int),(0:Int),(⟨#[]⟩:BA),false)) (.done (r211.1,r211.2.1,r211.2.2,true)))))))))) (.opt (qAX n (0:Int) (0:Int) (⟨#[]⟩:BA)) fun r214=>(.ask ((!r214)) (.done ((0:Int),(0:Int),(⟨#[]⟩:BA),false)) (.opt (qw n (0:Int) (0:Int) (⟨#[]⟩:BA)) fun r215=>(.ask ((!(r215.toList==x0.toList))) (.done ((0:Int),(0:Int),(⟨#[]⟩:BA),false)) (.done ((0:Int),(0:Int),(⟨#[]⟩:BA),true)))))))))))))
def qe:Nat→BA→Option (Int×Int×BA×Bool)
 |0,_=>none
 |n+1,x0=>(qBX n x0).run
abbrev qIw (n:Nat):List (Ent (Rn n)):= [en (qCn n),en (qGV n),en (qHz n),en (qRv n),en (qCo n),en (qFK n),en (qMG n),en2 (qEO n),en (qKw n)]
def qKN (n:Nat):LEnt (KB 78) (Rn n) n:=lok (zJ 78) 3837 ⟨⟨[(0,aS),(2,(.c (.ptr 0 128 0 0 0))),(4,(.c (.ptr 0 256 0 0 0))),(7,aI)],[(128,⟨0,3,107,(.box [qI,qI,qS])⟩),(256,⟨0,3,107,(.box [qI,qI,qS])⟩)],[]⟩,[(.exit 1,⟨[(0,aS),(2,(.c (.ptr 0 128 0 0 0))),(4,(.c (.ptr 0 256 0 0 0)))],[(128,⟨0,3,107,(.box [qI,qI,qS])⟩),(256,⟨0,3,107,(.box [qI,qI,qS])⟩)],[]⟩)]⟩ (qBH n) (qIw n) [] fun _=>(by kernel_rfl)
theorem qH0:∀n,Ok (Rn n) qOc (qe n)
 |0=>ok0 fun _=>rfl
 |n+1=>stO (T:=qBX n) (by kernel_rfl) (qIw n) [qKN n] (fun _=>(by kernel_rfl)) fun _=>(by kernel_rfl)
def qQv:Sg:=⟨281,[aI],[],⟨aS,[],[]⟩⟩
def qDt (n:Nat) (x0:Int):Tr (BA):=(.opt (q8 n x0 (1:Int) (52:Int)) fun r221=>(.ask ((!r221)) (.done (⟨#[]⟩:BA)) (.ask ((decide (x0≤(26:Int)))) (.ask (decide (1=([[(.i .u8 (IntKind.u8.wrap (IntKind.i64.wrap ((IntKind.i64.wrap ((65:Int)+x0))-(1:Int)))))]]:RW).length)) (.opt (bytesOf ([[(.i .u8 (IntKind.u8.wrap (IntKind.i64.wrap ((IntKind.i64.wrap ((65:Int)+x0))-(1:Int)))))]]:RW)) fun l222=>(.done (⟨l222.toArray⟩:BA))) .fail) (.ask (decide (2=([[(.i .u8 (IntKind.u8.wrap (IntKind.i64.wrap ((IntKind.i64.wrap ((65:Int)+(IntKind.i64.wrap (Int.tdiv (IntKind.i64.wrap (x0-(1:Int))) (26:Int)))))-(1:Int)))))],[(.i .u8 (IntKind.u8.wrap (IntKind.i64.wrap ((65:Int)+(Int.tmod (IntKind.i64.wrap (x0-(1:Int))) (26:Int))))))]]:RW).length)) (.opt (bytesOf ([[(.i .u8 (IntKind.u8.wrap (IntKind.i64.wrap ((IntKind.i64.wrap ((65:Int)+(IntKind.i64.wrap (Int.tdiv (IntKind.i64.wrap (x0-(1:Int))) (26:Int)))))-(1:Int)))))],[(.i .u8 (IntKind.u8.wrap (IntKind.i64.wrap ((65:Int)+(Int.tmod (IntKind.i64.wrap (x0-(1:Int))) (26:Int))))))]]:RW)) fun l223=>(.done (⟨l223.toArray⟩:BA))) .fail))))
def qB6:Nat→Int→Option (BA)
 |0,_=>none
 |n+1,x0=>(qDt n x0).run
abbrev qQw (n:Nat):List (Ent (Rn n)):= [en (qDH n)]
theorem qJ7:∀n,Ok (Rn n) qQv (qB6 n)
 |0=>ok0 fun _=>rfl
 |n+1=>stO (T:=qDt n) (by kernel_rfl) (qQw n) [] (fun _=>(by kernel_rfl)) fun _=>(by kernel_rfl)
def qQx:Sg:=⟨237,[aS],[],⟨aI,[],[]⟩⟩
def qCp (n:Nat) (v:BA×Int):Tr ((BA×Int)⊕((Int)⊕(Unit))):=(.ask ((decide (v.2≤(52:Int)))) (.opt (qB6 n v.2) fun r221=>(.ask ((r221.toList==v.1.toList)) (.done (.inr (.inl (v.2)))) (.done (.inl (v.1,(IntKind.i64.wrap (v.2+(1:Int)))))))) (.done (.inr (.inr (())))))
def qHO (n:Nat) (x0:BA):Tr (Int):=(.opt (zC (qCp n) n (x0,(1:Int))) fun r222=>(.alt r222 (fun r223=>(.done r223)) (fun r224=>(.done (0:Int)))))
def qFM:Nat→BA→Option (Int)
 |0,_=>none
 |n+1,x0=>(qHO n x0).run
abbrev qKx (n:Nat):List (Ent (Rn n)):= [en (qJ7 n)]
def qNX (n:Nat):LEnt (KB 237) (Rn n) n:=lok (zJ 237) 13 ⟨⟨[(0,aS),(3,aI)],[],[]⟩,[(.ret,⟨[(2,aI)],[],[]⟩),(.exit 0,⟨[],[],[]⟩)]⟩ (qCp n) (qKx n) [] fun _=>(by kernel_rfl)
theorem qPq:∀n,Ok (Rn n) qQx (qFM n)
 |0=>ok0 fun _=>rfl
 |n+1=>stO (T:=qHO n) (by kernel_rfl) (qKx n) [qNX n] (fun _=>(by kernel_rfl)) fun _=>(by kernel_rfl)
def qOd:Sg:=⟨231,[(.agg [qI,qI,qB,qB])],[],⟨aS,[],[]⟩⟩
def qD9 (n:Nat) (x0 x1:Int) (x2 x3:Bool):Tr (BA):=(.opt (qB1 n x0 x1) fun r231=>(.ask ((!r231)) (.done (⟨#[]⟩:BA)) (.ask (x2) (.opt (qB6 n x0) fun r232=>(.ask (decide ((⟨#[36]⟩:BA).size+r232.size≤9223372036854775807)) (.ask (x3) (.ask (decide (((⟨#[36]⟩:BA)++r232).size+(⟨#[36]⟩:BA).size≤9223372036854775807)) (.opt (qv n x1) fun r233=>(.ask (decide ((((⟨#[36]⟩:BA)++r232)++(⟨#[36]⟩:BA)).size+r233.size≤9223372036854775807)) (.done ((((⟨#[36]⟩:BA)++r232)++(⟨#[36]⟩:BA))++r233)) .fail)) .fail) (.opt (qv n x1) fun r234=>(.ask (decide (((⟨#[36]⟩:BA)++r232).size+r234.size≤9223372036854775807)) (.done (((⟨#[36]⟩:BA)++r232)++r234)) .fail))) .fail)) (.opt (qB6 n x0) fun r235=>(.ask (decide ((⟨#[]⟩:BA).size+r235.size≤9223372036854775807)) (.ask (x3) (.ask (decide (((⟨#[]⟩:BA)++r235).size+(⟨#[36]⟩:BA).size≤9223372036854775807)) (.opt (qv n x1) fun r236=>(.ask (decide ((((⟨#[]⟩:BA)++r235)++(⟨#[36]⟩:BA)).size+r236.size≤9223372036854775807)) (.done ((((⟨#[]⟩:BA)++r235)++(⟨#[36]⟩:BA))++r236)) .fail)) .fail) (.opt (qv n x1) fun r237=>(.ask (decide (((⟨#[]⟩:BA)++r235).size+r237.size≤9223372036854775807)) (.done (((⟨#[]⟩:BA)++r235)++r237)) .fail))) .fail)))))
def qAz:Nat→Int→Int→Bool→Bool→Option (BA)
 |0,_,_,_,_=>none
 |n+1,x0,x1,x2,x3=>(qD9 n x0 x1 x2 x3).run
abbrev qOe (n:Nat):List (Ent (Rn n)):= [en (qF1 n),en (qJ7 n),en (qEe n)]
theorem qFN:∀n,Ok (Rn n) qOd (qAz n)
 |0=>ok0 fun _=>rfl
 |n+1=>stO (T:=qD9 n) (by kernel_rfl) (qOe n) [] (fun _=>(by kernel_rfl)) fun _=>(by kernel_rfl)
def qOf:Sg:=⟨173,[aS],[],⟨(.tup [(true,[qI,qI,qB,qB]),(false,[qB])]),[],[]⟩⟩
def qFn (n:Nat) (x0:BA):Tr (Int×Int×Bool×Bool×Bool):=(.opt (qAL n x0 (⟨#[36]⟩:BA)) fun r219=>(.opt (qBT n r219.1 (⟨#[65,66,67,68,69,70,71,72,73,74,75,76,77,78,79,80,81,82,83,84,85,86,87,88,89,90]⟩:BA)) fun r220=>(.ask (decide (0≤(0:Int)∧(0:Int)≤(IntKind.i64.wrap ((r219.1.size:Int)-(r220.size:Int)))∧(IntKind.i64.wrap ((r219.1.size:Int)-(r220.size:Int)))≤r219.1.size)) (.opt (qFM n (r219.1.extract ((0:Int)).toNat ((IntKind.i64.wrap ((r219.1.size:Int)-(r220.size:Int)))).toNat)) fun r225=>(.ask (decide (0≤(IntKind.i64.wrap ((r219.1.size:Int)-(r220.size:Int)))∧(IntKind.i64.wrap ((r219.1.size:Int)-(r220.size:Int)))≤(r219.1.size:Int)∧(r219.1.size:Int)≤r219.1.size)) (.opt (qAL n (r219.1.extract ((IntKind.i64.wrap ((r219.1.size:Int)-(r220.size:Int)))).toNat ((r219.1.size:Int)).toNat) (⟨#[36]⟩:BA)) fun r226=>(.opt (qA6 n r226.1 (10:Int) (64:Int)) fun r227=>(.alt r227 (fun r228=>(.opt (qB1 n r225 r228) fun r230=>(.ask ((!r230)) (.done ((0:Int),(0:Int),false,false,false)) (.opt (qAz n r225 r228 r219.2 r226.2) fun r238=>(.ask ((!(r238.toList==x0.toList))) (.done ((0:Int),(0:Int),false,false,false)) (.done (r225,r228,r219.2,r226.2,true))))))) (fun r229=>(.opt (qB1 n r225 r229) fun r239=>(.ask ((!r239)) (.done ((0:Int),(0:Int),false,false,false)) (.opt (qAz n r225 r229 r219.2 r226.2) fun r240=>(.ask ((!(r240.toList==x0.toList))) (.done ((0:Int),(0:Int),false,false,false)) (.done (r225,r229,r219.2,r226.2,true)))))))))) .fail)) .fail)))
def qAp:Nat→BA→Option (Int×Int×Bool×Bool×Bool)
 |0,_=>none
 |n+1,x0=>(qFn n x0).run
abbrev qOg (n:Nat):List (Ent (Rn n)):= [en (qCn n),en (qEM n),en (qPq n),en2 (qEO n),en (qF1 n),en (qFN n)]
theorem qH1:∀n,Ok (Rn n) qOf (qAp n)
 |0=>ok0 fun _=>rfl
 |n+1=>stO (T:=qFn n) (by kernel_rfl) (qOg n) [] (fun _=>(by kernel_rfl)) fun _=>(by kernel_rfl)
def qRx:Sg:=⟨264,[aI],[],⟨aS,[],[]⟩⟩
def qIU (n:Nat) (x0:Int):Tr (BA):=(.ask (decide (11=([[(.s (⟨#[]⟩:BA))],[(.s (⟨#[83,85,77]⟩:BA))],[(.s (⟨#[77,73,78]⟩:BA))],[(.s (⟨#[77,65,88]⟩:BA))],[(.s (⟨#[67,79,85,78,84]⟩:BA))],[(.s (⟨#[73,70]⟩:BA))],[(.s (⟨#[65,78,68]⟩:BA))],[(.s (⟨#[79,82]⟩:BA))],[(.s (⟨#[78,79,84]⟩:BA))],[(.s (⟨#[65,66,83]⟩:BA))],[(.s (⟨#[76,69,78]⟩:BA))]]:RW).length∧0≤x0∧x0<((11:Nat):Int))) (.opt (([[(.s (⟨#[]⟩:BA))],[(.s (⟨#[83,85,77]⟩:BA))],[(.s (⟨#[77,73,78]⟩:BA))],[(.s (⟨#[77,65,88]⟩:BA))],[(.s (⟨#[67,79,85,78,84]⟩:BA))],[(.s (⟨#[73,70]⟩:BA))],[(.s (⟨#[65,78,68]⟩:BA))],[(.s (⟨#[79,82]⟩:BA))],[(.s (⟨#[78,79,84]⟩:BA))],[(.s (⟨#[65,66,83]⟩:BA))],[(.s (⟨#[76,69,78]⟩:BA))]]:RW)[(x0).toNat]?) fun e243=>(.opt (zT e243 0) fun y244=>(.done y244))) .fail)
def qCM:Nat→Int→Option (BA)
 |0,_=>none
 |n+1,x0=>(qIU n x0).run
theorem qKy:∀n,Ok (Rn n) qRx (qCM n)
 |0=>ok0 fun _=>rfl
 |n+1=>stO (T:=qIU n) (by kernel_rfl) [] [] (fun _=>(by kernel_rfl)) fun _=>(by kernel_rfl)
def qJU:Sg:=⟨328,[(.c (.ptr 0 0 0 0 0))],[[(0,⟨0,3,174,(.box [qS,(.own 0 1 1 0),qB])⟩),(1,⟨1,14,210,(.row [])⟩)]],⟨(.tup [(true,[qI,qI,qI,qI,qS,qI,qI,qB,qB,qI,qI,qB,qB,qL]),(false,[qB])]),[[(0,⟨0,3,174,(.box [qS,(.own 0 1 1 0),qB])⟩),(1,⟨1,14,210,(.row [])⟩)]],[]⟩⟩
def qFO (n:Nat) (x0:BA) (x1:Nat) (x2:Bool) (x3:RW):Tr (Int×Int×Int×Int×BA×Int×Int×Bool×Bool×Int×Int×Bool×Bool×RW×Bool×BA×Nat×Bool×RW):=(.opt (qBU n x0 x1 x2 x3) fun r246=>(.opt (qAp n r246.1) fun r247=>(.ask (r247.2.2.2.2) (.opt (qt n (⟨#[58]⟩:BA) r246.2.1 r246.2.2.1 r246.2.2.2.1 r246.2.2.2.2) fun r248=>(.ask ((!r248.1)) (.done ((0:Int),(0:Int),(0:Int),(0:Int),(⟨#[]⟩:BA),(0:Int),(0:Int),false,false,(0:Int),(0:Int),false,false,([]:RW),false,x0,r248.2.2.1,r248.2.2.2.1,r248.2.2.2.2)) (.opt (qBU n r248.2.1 r248.2.2.1 r248.2.2.2.1 r248.2.2.2.2) fun r249=>(.opt (qAp n r249.1) fun r250=>(.ask (r249.2.2.2.1) (.done ((3:Int),(0:Int),(0:Int),(0:Int),(⟨#[]⟩:BA),r247.1,r247.2.1,r247.2.2.1,r247.2.2.2.1,r250.1,r250.2.1,r250.2.2.1,r250.2.2.2.1,([]:RW),true,r249.2.1,r249.2.2.1,true,r249.2.2.2.2)) (.done ((3:Int),(0:Int),(0:Int),(0:Int),(⟨#[]⟩:BA),r247.1,r247.2.1,r247.2.2.1,r247.2.2.2.1,r250.1,r250.2.1,r250.2.2.1,r250.2.2.2.1,([]:RW),true,r249.2.1,r249.2.2.1,(!r250.2.2.2.2),r249.2.2.2.2))))))) (.done ((0:Int),(0:Int),(0:Int),(0:Int),(⟨#[]⟩:BA),(0:Int),(0:Int),false,false,(0:Int),(0:Int),false,false,([]:RW),false,x0,r246.2.2.1,r246.2.2.2.1,r246.2.2.2.2)))))
def qDS:Nat→BA→Nat→Bool→RW→Option (Int×Int×Int×Int×BA×Int×Int×Bool×Bool×Int×Int×Bool×Bool×RW×Bool×BA×Nat×Bool×RW)
 |0,_,_,_,_=>none
 |n+1,x0,x1,x2,x3=>(qFO n x0 x1 x2 x3).run
abbrev qJV (n:Nat):List (Ent (Rn n)):= [en (qGf n),en (qH1 n),en (qCG n)]
theorem qIx:∀n,Ok (Rn n) qJU (qDS n)
 |0=>ok0 fun _=>rfl
 |n+1=>stO (T:=qFO n) (by kernel_rfl) (qJV n) [] (fun _=>(by kernel_rfl)) fun _=>(by kernel_rfl)
def qRy:Sg:=⟨202,[aI],[],⟨aS,[],[]⟩⟩
def qIV (n:Nat) (x0:Int):Tr (BA):=(.ask (decide (12=([[(.s (⟨#[]⟩:BA))],[(.s (⟨#[43]⟩:BA))],[(.s (⟨#[45]⟩:BA))],[(.s (⟨#[42]⟩:BA))],[(.s (⟨#[47]⟩:BA))],[(.s (⟨#[38]⟩:BA))],[(.s (⟨#[61]⟩:BA))],[(.s (⟨#[60,62]⟩:BA))],[(.s (⟨#[60]⟩:BA))],[(.s (⟨#[60,61]⟩:BA))],[(.s (⟨#[62]⟩:BA))],[(.s (⟨#[62,61]⟩:BA))]]:RW).length∧0≤x0∧x0<((12:Nat):Int))) (.opt (([[(.s (⟨#[]⟩:BA))],[(.s (⟨#[43]⟩:BA))],[(.s (⟨#[45]⟩:BA))],[(.s (⟨#[42]⟩:BA))],[(.s (⟨#[47]⟩:BA))],[(.s (⟨#[38]⟩:BA))],[(.s (⟨#[61]⟩:BA))],[(.s (⟨#[60,62]⟩:BA))],[(.s (⟨#[60]⟩:BA))],[(.s (⟨#[60,61]⟩:BA))],[(.s (⟨#[62]⟩:BA))],[(.s (⟨#[62,61]⟩:BA))]]:RW)[(x0).toNat]?) fun e277=>(.opt (zT e277 0) fun y278=>(.done y278))) .fail)
def qBb:Nat→Int→Option (BA)
 |0,_=>none
 |n+1,x0=>(qIV n x0).run
theorem qKz:∀n,Ok (Rn n) qRy (qBb n)
 |0=>ok0 fun _=>rfl
 |n+1=>stO (T:=qIV n) (by kernel_rfl) [] [] (fun _=>(by kernel_rfl)) fun _=>(by kernel_rfl)
def qS7:Sg:=⟨203,[aI],[],⟨aI,[],[]⟩⟩
def qJW (n:Nat) (x0:Int):Tr (Int):=(.ask ((x0==(3:Int))) (.done (4:Int)) (.ask ((x0==(4:Int))) (.done (4:Int)) (.ask ((x0==(1:Int))) (.done (3:Int)) (.ask ((x0==(2:Int))) (.done (3:Int)) (.ask ((x0==(5:Int))) (.done (2:Int)) (.done (1:Int)))))))
def qEA:Nat→Int→Option (Int)
 |0,_=>none
 |n+1,x0=>(qJW n x0).run
theorem qMH:∀n,Ok (Rn n) qS7 (qEA n)
 |0=>ok0 fun _=>rfl
 |n+1=>stO (T:=qJW n) (by kernel_rfl) [] [] (fun _=>(by kernel_rfl)) fun _=>(by kernel_rfl)
def qGA:Sg:=⟨138,[(.c (.ptr 0 0 0 0 0)),aI,aI],[[(0,⟨0,3,174,(.box [qS,(.own 0 1 1 0),qB])⟩),(1,⟨1,14,210,(.row [])⟩)]],⟨aI,[[(0,⟨0,3,174,(.box [qS,(.own 0 1 1 0),qB])⟩),(1,⟨1,14,210,(.row [])⟩)]],[]⟩⟩
def qLw:Sg:=⟨200,[(.c (.ptr 0 0 0 0 0)),aI],[[(0,⟨0,3,174,(.box [qS,(.own 0 1 1 0),qB])⟩),(1,⟨1,14,210,(.row [])⟩)]],⟨aI,[[(0,⟨0,3,174,(.box [qS,(.own 0 1 1 0),qB])⟩),(1,⟨1,14,210,(.row [])⟩)]],[]⟩⟩
def qMn:Sg:=⟨261,[(.c (.ptr 0 0 0 0 0)),aI],[[(0,⟨0,3,174,(.box [qS,(.own 0 1 1 0),qB])⟩),(1,⟨1,14,210,(.row [])⟩)]],⟨aI,[[(0,⟨0,3,174,(.box [qS,(.own 0 1 1 0),qB])⟩),(1,⟨1,14,210,(.row [])⟩)]],[]⟩⟩
def qMo:Sg:=⟨303,[(.c (.ptr 0 0 0 0 0)),aI,aI],[[(0,⟨0,3,174,(.box [qS,(.own 0 1 1 0),qB])⟩),(1,⟨1,14,210,(.row [])⟩)]],⟨aI,[[(0,⟨0,3,174,(.box [qS,(.own 0 1 1 0),qB])⟩),(1,⟨1,14,210,(.row [])⟩)]],[]⟩⟩
structure G_impl_reader_binary where
 impl_reader_binary:Int→Int→BA→Nat→Bool→RW→Option (Int×BA×Nat×Bool×RW)
 impl_reader_unary:Int→BA→Nat→Bool→RW→Option (Int×BA×Nat×Bool×RW)
 impl_reader_atom:Int→BA→Nat→Bool→RW→Option (Int×BA×Nat×Bool×RW)
 impl_reader_call:Int→Int→BA→Nat→Bool→RW→Option (Int×BA×Nat×Bool×RW)
def qBI (n:Nat) (v:Int×Int×Int×Int×Int×BA×Nat×Bool×RW):Tr ((Int×Int×Int×Int×Int×BA×Nat×Bool×RW)⊕((Int×Int×Int×Int×BA×Nat×Bool×RW))):=(.ask ((decide (v.2.2.2.2.1≤(11:Int)))) (.opt (qBv n v.2.2.2.2.2.1 v.2.2.2.2.2.2.1 v.2.2.2.2.2.2.2.1 v.2.2.2.2.2.2.2.2) fun r276=>(.opt (qBb n v.2.2.2.2.1) fun r277=>(.ask ((r276.1.toList==r277.toList)) (.done (.inl (v.1,v.2.1,v.2.2.1,v.2.2.2.2.1,(IntKind.i64.wrap (v.2.2.2.2.1+(1:Int))),r276.2.1,r276.2.2.1,r276.2.2.2.1,r276.2.2.2.2))) (.done (.inl (v.1,v.2.1,v.2.2.1,v.2.2.2.1,(IntKind.i64.wrap (v.2.2.2.2.1+(1:Int))),r276.2.1,r276.2.2.1,r276.2.2.2.1,r276.2.2.2.2)))))) (.done (.inr ((v.1,v.2.1,v.2.2.1,v.2.2.2.1,v.2.2.2.2.2.1,v.2.2.2.2.2.2.1,v.2.2.2.2.2.2.2.1,v.2.2.2.2.2.2.2.2)))))
def qDK (rec:G_impl_reader_binary) (n:Nat) (v:Int×Int×Int×BA×Nat×Bool×RW):Tr ((Int×Int×Int×BA×Nat×Bool×RW)⊕((Int×BA×Nat×Bool×RW))):=(.ask ((!v.2.2.2.2.2.1)) (.opt (zC (qBI n) n (v.1,v.2.1,v.2.2.1,(0:Int),(1:Int),v.2.2.2.1,v.2.2.2.2.1,v.2.2.2.2.2.1,v.2.2.2.2.2.2)) fun r278=>(.ask ((r278.2.2.2.1==(0:Int))) (.done (.inr ((r278.2.2.1,r278.2.2.2.2.1,r278.2.2.2.2.2.1,r278.2.2.2.2.2.2.1,r278.2.2.2.2.2.2.2)))) (.opt (qEA n r278.2.2.2.1) fun r279=>(.ask ((decide (r279<r278.1))) (.done (.inr ((r278.2.2.1,r278.2.2.2.2.1,r278.2.2.2.2.2.1,r278.2.2.2.2.2.2.1,r278.2.2.2.2.2.2.2)))) (.opt (qBb n r278.2.2.2.1) fun r280=>(.opt (qt n r280 r278.2.2.2.2.1 r278.2.2.2.2.2.1 r278.2.2.2.2.2.2.1 r278.2.2.2.2.2.2.2) fun r281=>(.opt (qEA n r278.2.2.2.1) fun r282=>(.opt (rec.impl_reader_binary (IntKind.i64.wrap (r282+(1:Int))) r278.2.1 r281.2.1 r281.2.2.1 r281.2.2.2.1 r281.2.2.2.2) fun r283=>(.ask (decide (2=([[(.i .i64 r278.2.2.1)],[(.i .i64 r283.1)]]:RW).length)) (.opt (qu n (5:Int) r278.2.2.2.1 (0:Int) (0:Int) (⟨#[]⟩:BA) (0:Int) (0:Int) false false (0:Int) (0:Int) false false ([[(.i .i64 r278.2.2.1)],[(.i .i64 r283.1)]]:RW) r283.2.1 r283.2.2.1 r283.2.2.2.1 r283.2.2.2.2) fun r284=>(.done (.inl (r278.1,r278.2.1,r284.1,r284.2.1,r284.2.2.1,r284.2.2.2.1,r284.2.2.2.2)))) .fail))))))))) (.done (.inr ((v.2.2.1,v.2.2.2.1,v.2.2.2.2.1,v.2.2.2.2.2.1,v.2.2.2.2.2.2)))))
def qGB (rec:G_impl_reader_binary) (n:Nat) (x0 x1:Int) (x2:BA) (x3:Nat) (x4:Bool) (x5:RW):Tr (Int×BA×Nat×Bool×RW):=(.opt (rec.impl_reader_unary x1 x2 x3 x4 x5) fun r275=>(.opt (zC (qDK rec n) n (x0,x1,r275.1,r275.2.1,r275.2.2.1,r275.2.2.2.1,r275.2.2.2.2)) fun r285=>(.done (r285.1,r285.2.1,r285.2.2.1,r285.2.2.2.1,r285.2.2.2.2))))
def qGh (rec:G_impl_reader_binary) (n:Nat) (x0:Int) (x1:BA) (x2:Nat) (x3:Bool) (x4:RW):Tr (Int×BA×Nat×Bool×RW):=(.ask ((decide (x0>(400:Int)))) (.ask (true) (.done ((-1:Int),x1,x2,true,x4)) (.opt (qt n (⟨#[45]⟩:BA) x1 x2 true x4) fun r157=>(.ask (r157.1) (.opt (rec.impl_reader_unary (IntKind.i64.wrap (x0+(1:Int))) r157.2.1 r157.2.2.1 r157.2.2.2.1 r157.2.2.2.2) fun r158=>(.ask (decide (1=([[(.i .i64 r158.1)]]:RW).length)) (.opt (qu n (4:Int) (0:Int) (0:Int) (0:Int) (⟨#[]⟩:BA) (0:Int) (0:Int) false false (0:Int) (0:Int) false false ([[(.i .i64 r158.1)]]:RW) r158.2.1 r158.2.2.1 r158.2.2.2.1 r158.2.2.2.2) fun r159=>(.done (r159.1,r159.2.1,r159.2.2.1,r159.2.2.2.1,r159.2.2.2.2))) .fail)) (.opt (rec.impl_reader_atom x0 r157.2.1 r157.2.2.1 r157.2.2.2.1 r157.2.2.2.2) fun r270=>(.done (r270.1,r270.2.1,r270.2.2.1,r270.2.2.2.1,r270.2.2.2.2)))))) (.ask (x3) (.done ((-1:Int),x1,x2,x3,x4)) (.opt (qt n (⟨#[45]⟩:BA) x1 x2 x3 x4) fun r271=>(.ask (r271.1) (.opt (rec.impl_reader_unary (IntKind.i64.wrap (x0+(1:Int))) r271.2.1 r271.2.2.1 r271.2.2.2.1 r271.2.2.2.2) fun r272=>(.ask (decide (1=([[(.i .i64 r272.1)]]:RW).length)) (.opt (qu n (4:Int) (0:Int) (0:Int) (0:Int) (⟨#[]⟩:BA) (0:Int) (0:Int) false false (0:Int) (0:Int) false false ([[(.i .i64 r272.1)]]:RW) r272.2.1 r272.2.2.1 r272.2.2.2.1 r272.2.2.2.2) fun r273=>(.done (r273.1,r273.2.1,r273.2.2.1,r273.2.2.2.1,r273.2.2.2.2))) .fail)) (.opt (rec.impl_reader_atom x0 r271.2.1 r271.2.2.1 r271.2.2.2.1 r271.2.2.2.2) fun r274=>(.done (r274.1,r274.2.1,r274.2.2.1,r274.2.2.2.1,r274.2.2.2.2)))))))
def qCK (n:Nat) (v:Int×Int×BA×Nat×Bool×RW):Tr ((Int×Int×BA×Nat×Bool×RW)⊕((Int×BA×Nat×Bool×RW)⊕(Int×BA×Nat×Bool×RW))):=(.ask ((decide (v.2.1≤(5:Int)))) (.opt (qAo n v.2.1) fun r171=>(.opt (qAL n v.2.2.1 r171) fun r172=>(.ask (r172.2) (.opt (qB2 n v.2.1) fun r173=>(.opt (qj n r173.1 r173.2.1 r173.2.2 r172.1 v.2.2.2.1 v.2.2.2.2.1 v.2.2.2.2.2) fun r174=>(.done (.inr (.inl ((r174.1,r174.2.1,r174.2.2.1,r174.2.2.2.1,r174.2.2.2.2))))))) (.done (.inl (v.1,(IntKind.i64.wrap (v.2.1+(1:Int))),v.2.2.1,v.2.2.2.1,v.2.2.2.2.1,v.2.2.2.2.2)))))) (.done (.inr (.inr ((v.1,v.2.2.1,v.2.2.2.1,v.2.2.2.2.1,v.2.2.2.2.2))))))
def qAs (rec:G_impl_reader_binary) (n:Nat) (v:Int×BA×Int×BA×Nat×Bool×RW):Tr ((Int×BA×Int×BA×Nat×Bool×RW)⊕((Int×BA×Nat×Bool×RW)⊕(BA×Nat×Bool×RW))):=(.ask ((decide (v.2.2.1≤(10:Int)))) (.opt (qCM n v.2.2.1) fun r243=>(.ask ((v.2.1.toList==r243.toList)) (.opt (rec.impl_reader_call v.2.2.1 v.1 v.2.2.2.1 v.2.2.2.2.1 v.2.2.2.2.2.1 v.2.2.2.2.2.2) fun r244=>(.done (.inr (.inl ((r244.1,r244.2.1,r244.2.2.1,r244.2.2.2.1,r244.2.2.2.2)))))) (.done (.inl (v.1,v.2.1,(IntKind.i64.wrap (v.2.2.1+(1:Int))),v.2.2.2.1,v.2.2.2.2.1,v.2.2.2.2.2.1,v.2.2.2.2.2.2))))) (.done (.inr (.inr ((v.2.2.2.1,v.2.2.2.2.1,v.2.2.2.2.2.1,v.2.2.2.2.2.2))))))
def qHP (rec:G_impl_reader_binary) (n:Nat) (x0:Int) (x1:BA) (x2:Nat) (x3:Bool) (x4:RW):Tr (Int×BA×Nat×Bool×RW):=(.opt (qA5 n x1 x2 x3 x4) fun r160=>(.opt (qn n r160.1 (⟨#[34]⟩:BA)) fun r161=>(.ask (r161) (.opt (qDs n r160.1 r160.2.1 r160.2.2.1 r160.2.2.2) fun r169=>(.done (r169.1,r169.2.1,r169.2.2.1,r169.2.2.2.1,r169.2.2.2.2))) (.opt (qn n r160.1 (⟨#[35]⟩:BA)) fun r170=>(.ask (r170) (.opt (zC (qCK n) n (x0,(1:Int),r160.1,r160.2.1,r160.2.2.1,r160.2.2.2)) fun r175=>(.alt r175 (fun r176=>(.done (r176.1,r176.2.1,r176.2.2.1,r176.2.2.2.1,r176.2.2.2.2))) (fun r177=>(.opt (qBU n r177.2.1 r177.2.2.1 r177.2.2.2.1 r177.2.2.2.2) fun r180=>(.opt (qe n r180.1) fun r216=>(.ask (r216.2.2.2) (.ask ((r216.1==(1:Int))) (.opt (qj n r216.1 r216.2.1 r216.2.2.1 r180.2.1 r180.2.2.1 r180.2.2.2.1 r180.2.2.2.2) fun r217=>(.done (r217.1,r217.2.1,r217.2.2.1,r217.2.2.2.1,r217.2.2.2.2))) (.ask ((r216.1==(3:Int))) (.opt (qj n r216.1 r216.2.1 r216.2.2.1 r180.2.1 r180.2.2.1 r180.2.2.2.1 r180.2.2.2.2) fun r218=>(.done (r218.1,r218.2.1,r218.2.2.1,r218.2.2.2.1,r218.2.2.2.2))) (.opt (qAp n r180.1) fun r241=>(.ask (r241.2.2.2.2) (.opt (qu n (2:Int) (0:Int) (0:Int) (0:Int) (⟨#[]⟩:BA) r241.1 r241.2.1 r241.2.2.1 r241.2.2.2.1 (0:Int) (0:Int) false false ([]:RW) r180.2.1 r180.2.2.1 r180.2.2.2.1 r180.2.2.2.2) fun r242=>(.done (r242.1,r242.2.1,r242.2.2.1,r242.2.2.2.1,r242.2.2.2.2))) (.opt (zC (qAs rec n) n (r177.1,r180.1,(1:Int),r180.2.1,r180.2.2.1,r180.2.2.2.1,r180.2.2.2.2)) fun r245=>(.alt r245 (fun r246=>(.done (r246.1,r246.2.1,r246.2.2.1,r246.2.2.2.1,r246.2.2.2.2))) (fun r247=>(.done ((-1:Int),r247.1,r247.2.1,true,r247.2.2.2))))))))) (.opt (qAp n r180.1) fun r248=>(.ask (r248.2.2.2.2) (.opt (qu n (2:Int) (0:Int) (0:Int) (0:Int) (⟨#[]⟩:BA) r248.1 r248.2.1 r248.2.2.1 r248.2.2.2.1 (0:Int) (0:Int) false false ([]:RW) r180.2.1 r180.2.2.1 r180.2.2.2.1 r180.2.2.2.2) fun r249=>(.done (r249.1,r249.2.1,r249.2.2.1,r249.2.2.2.1,r249.2.2.2.2))) (.opt (zC (qAs rec n) n (r177.1,r180.1,(1:Int),r180.2.1,r180.2.2.1,r180.2.2.2.1,r180.2.2.2.2)) fun r250=>(.alt r250 (fun r251=>(.done (r251.1,r251.2.1,r251.2.2.1,r251.2.2.2.1,r251.2.2.2.2))) (fun r252=>(.done ((-1:Int),r252.1,r252.2.1,true,r252.2.2.2))))))))))))) (.opt (qt n (⟨#[40]⟩:BA) r160.1 r160.2.1 r160.2.2.1 r160.2.2.2) fun r253=>(.ask (r253.1) (.opt (rec.impl_reader_binary (1:Int) (IntKind.i64.wrap (x0+(1:Int))) r253.2.1 r253.2.2.1 r253.2.2.2.1 r253.2.2.2.2) fun r254=>(.ask (r254.2.2.2.1) (.done (r254.1,r254.2.1,r254.2.2.1,true,r254.2.2.2.2)) (.opt (qt n (⟨#[41]⟩:BA) r254.2.1 r254.2.2.1 r254.2.2.2.1 r254.2.2.2.2) fun r255=>(.done (r254.1,r255.2.1,r255.2.2.1,(!r255.1),r255.2.2.2.2))))) (.opt (qBU n r253.2.1 r253.2.2.1 r253.2.2.2.1 r253.2.2.2.2) fun r256=>(.opt (qe n r256.1) fun r257=>(.ask (r257.2.2.2) (.ask ((r257.1==(1:Int))) (.opt (qj n r257.1 r257.2.1 r257.2.2.1 r256.2.1 r256.2.2.1 r256.2.2.2.1 r256.2.2.2.2) fun r258=>(.done (r258.1,r258.2.1,r258.2.2.1,r258.2.2.2.1,r258.2.2.2.2))) (.ask ((r257.1==(3:Int))) (.opt (qj n r257.1 r257.2.1 r257.2.2.1 r256.2.1 r256.2.2.1 r256.2.2.2.1 r256.2.2.2.2) fun r259=>(.done (r259.1,r259.2.1,r259.2.2.1,r259.2.2.2.1,r259.2.2.2.2))) (.opt (qAp n r256.1) fun r260=>(.ask (r260.2.2.2.2) (.opt (qu n (2:Int) (0:Int) (0:Int) (0:Int) (⟨#[]⟩:BA) r260.1 r260.2.1 r260.2.2.1 r260.2.2.2.1 (0:Int) (0:Int) false false ([]:RW) r256.2.1 r256.2.2.1 r256.2.2.2.1 r256.2.2.2.2) fun r261=>(.done (r261.1,r261.2.1,r261.2.2.1,r261.2.2.2.1,r261.2.2.2.2))) (.opt (zC (qAs rec n) n (x0,r256.1,(1:Int),r256.2.1,r256.2.2.1,r256.2.2.2.1,r256.2.2.2.2)) fun r262=>(.alt r262 (fun r263=>(.done (r263.1,r263.2.1,r263.2.2.1,r263.2.2.2.1,r263.2.2.2.2))) (fun r264=>(.done ((-1:Int),r264.1,r264.2.1,true,r264.2.2.2))))))))) (.opt (qAp n r256.1) fun r265=>(.ask (r265.2.2.2.2) (.opt (qu n (2:Int) (0:Int) (0:Int) (0:Int) (⟨#[]⟩:BA) r265.1 r265.2.1 r265.2.2.1 r265.2.2.2.1 (0:Int) (0:Int) false false ([]:RW) r256.2.1 r256.2.2.1 r256.2.2.2.1 r256.2.2.2.2) fun r266=>(.done (r266.1,r266.2.1,r266.2.2.1,r266.2.2.2.1,r266.2.2.2.2))) (.opt (zC (qAs rec n) n (x0,r256.1,(1:Int),r256.2.1,r256.2.2.1,r256.2.2.2.1,r256.2.2.2.2)) fun r267=>(.alt r267 (fun r268=>(.done (r268.1,r268.2.1,r268.2.2.1,r268.2.2.2.1,r268.2.2.2.2))) (fun r269=>(.done ((-1:Int),r269.1,r269.2.1,true,r269.2.2.2)))))))))))))))))
def qCa (rec:G_impl_reader_binary) (n:Nat) (v:Int×Int×Nat×RW×BA×Nat×Bool×RW):Tr ((Int×Int×Nat×RW×BA×Nat×Bool×RW)⊕((Int×Nat×RW×BA×Nat×Bool×RW))):=(.ask ((!v.2.2.2.2.2.2.1)) (.opt (qDS n v.2.2.2.2.1 v.2.2.2.2.2.1 v.2.2.2.2.2.2.1 v.2.2.2.2.2.2.2) fun r246=>(.ask (r246.2.2.2.2.2.2.2.2.2.2.2.2.2.2.1) (.opt (qu n r246.1 r246.2.1 r246.2.2.1 r246.2.2.2.1 r246.2.2.2.2.1 r246.2.2.2.2.2.1 r246.2.2.2.2.2.2.1 r246.2.2.2.2.2.2.2.1 r246.2.2.2.2.2.2.2.2.1 r246.2.2.2.2.2.2.2.2.2.1 r246.2.2.2.2.2.2.2.2.2.2.1 r246.2.2.2.2.2.2.2.2.2.2.2.1 r246.2.2.2.2.2.2.2.2.2.2.2.2.1 r246.2.2.2.2.2.2.2.2.2.2.2.2.2.1 r246.2.2.2.2.2.2.2.2.2.2.2.2.2.2.2.1 r246.2.2.2.2.2.2.2.2.2.2.2.2.2.2.2.2.1 r246.2.2.2.2.2.2.2.2.2.2.2.2.2.2.2.2.2.1 r246.2.2.2.2.2.2.2.2.2.2.2.2.2.2.2.2.2.2) fun r247=>(.ask (decide (1=([[(.i .i64 r247.1)]]:RW).length)) (.ask (decide (v.2.2.1=v.2.2.2.1.length∧0<1∧0<8∧(v.2.2.1+([[(.i .i64 r247.1)]]:RW).length)*8≤140737488355328∧([[(.i .i64 r247.1)]]:RW).all (fun e=>e.length==1)=true)) (.opt (qt n (⟨#[44]⟩:BA) r247.2.1 r247.2.2.1 r247.2.2.2.1 r247.2.2.2.2) fun r248=>(.ask ((!r248.1)) (.ask (r248.2.2.2.1) (.done (.inr ((v.1,(v.2.2.1+1),(v.2.2.2.1++([[(.i .i64 r247.1)]]:RW)),r248.2.1,r248.2.2.1,true,r248.2.2.2.2)))) (.opt (qt n (⟨#[41]⟩:BA) r248.2.1 r248.2.2.1 r248.2.2.2.1 r248.2.2.2.2) fun r249=>(.done (.inr ((v.1,(v.2.2.1+1),(v.2.2.2.1++([[(.i .i64 r247.1)]]:RW)),r249.2.1,r249.2.2.1,(!r249.1),r249.2.2.2.2)))))) (.done (.inl (v.1,v.2.1,(v.2.2.1+1),(v.2.2.2.1++([[(.i .i64 r247.1)]]:RW)),r248.2.1,r248.2.2.1,r248.2.2.2.1,r248.2.2.2.2))))) .fail) .fail)) (.opt (rec.impl_reader_binary (1:Int) (IntKind.i64.wrap (v.2.1+(1:Int))) r246.2.2.2.2.2.2.2.2.2.2.2.2.2.2.2.1 r246.2.2.2.2.2.2.2.2.2.2.2.2.2.2.2.2.1 r246.2.2.2.2.2.2.2.2.2.2.2.2.2.2.2.2.2.1 r246.2.2.2.2.2.2.2.2.2.2.2.2.2.2.2.2.2.2) fun r250=>(.ask (decide (1=([[(.i .i64 r250.1)]]:RW).length)) (.ask (decide (v.2.2.1=v.2.2.2.1.length∧0<1∧0<8∧(v.2.2.1+([[(.i .i64 r250.1)]]:RW).length)*8≤140737488355328∧([[(.i .i64 r250.1)]]:RW).all (fun e=>e.length==1)=true)) (.opt (qt n (⟨#[44]⟩:BA) r250.2.1 r250.2.2.1 r250.2.2.2.1 r250.2.2.2.2) fun r251=>(.ask ((!r251.1)) (.ask (r251.2.2.2.1) (.done (.inr ((v.1,(v.2.2.1+1),(v.2.2.2.1++([[(.i .i64 r250.1)]]:RW)),r251.2.1,r251.2.2.1,true,r251.2.2.2.2)))) (.opt (qt n (⟨#[41]⟩:BA) r251.2.1 r251.2.2.1 r251.2.2.2.1 r251.2.2.2.2) fun r252=>(.done (.inr ((v.1,(v.2.2.1+1),(v.2.2.2.1++([[(.i .i64 r250.1)]]:RW)),r252.2.1,r252.2.2.1,(!r252.1),r252.2.2.2.2)))))) (.done (.inl (v.1,v.2.1,(v.2.2.1+1),(v.2.2.2.1++([[(.i .i64 r250.1)]]:RW)),r251.2.1,r251.2.2.1,r251.2.2.2.1,r251.2.2.2.2))))) .fail) .fail)))) (.done (.inr ((v.1,v.2.2.1,v.2.2.2.1,v.2.2.2.2.1,v.2.2.2.2.2.1,v.2.2.2.2.2.2.1,v.2.2.2.2.2.2.2)))))
def qHQ (rec:G_impl_reader_binary) (n:Nat) (x0 x1:Int) (x2:BA) (x3:Nat) (x4:Bool) (x5:RW):Tr (Int×BA×Nat×Bool×RW):=(.ask (x4) (.opt (zC (qCa rec n) n (x0,x1,(0:Nat),([]:RW),x2,x3,true,x5)) fun r253=>(.ask (decide (r253.2.1=r253.2.2.1.length)) (.opt (qu n (6:Int) r253.1 (0:Int) (0:Int) (⟨#[]⟩:BA) (0:Int) (0:Int) false false (0:Int) (0:Int) false false r253.2.2.1 r253.2.2.2.1 r253.2.2.2.2.1 r253.2.2.2.2.2.1 r253.2.2.2.2.2.2) fun r254=>(.done (r254.1,r254.2.1,r254.2.2.1,r254.2.2.2.1,r254.2.2.2.2))) .fail)) (.opt (qt n (⟨#[40]⟩:BA) x2 x3 x4 x5) fun r255=>(.opt (zC (qCa rec n) n (x0,x1,(0:Nat),([]:RW),r255.2.1,r255.2.2.1,(!r255.1),r255.2.2.2.2)) fun r256=>(.ask (decide (r256.2.1=r256.2.2.1.length)) (.opt (qu n (6:Int) r256.1 (0:Int) (0:Int) (⟨#[]⟩:BA) (0:Int) (0:Int) false false (0:Int) (0:Int) false false r256.2.2.1 r256.2.2.2.1 r256.2.2.2.2.1 r256.2.2.2.2.2.1 r256.2.2.2.2.2.2) fun r257=>(.done (r257.1,r257.2.1,r257.2.2.1,r257.2.2.2.1,r257.2.2.2.2))) .fail))))
def qR:Nat→G_impl_reader_binary
 |0=>⟨fun _ _ _ _ _ _=>none,fun _ _ _ _ _=>none,fun _ _ _ _ _=>none,fun _ _ _ _ _ _=>none⟩
 |n+1=>⟨fun x0 x1 x2 x3 x4 x5=>(qGB (qR n) n x0 x1 x2 x3 x4 x5).run,fun x0 x1 x2 x3 x4=>(qGh (qR n) n x0 x1 x2 x3 x4).run,fun x0 x1 x2 x3 x4=>(qHP (qR n) n x0 x1 x2 x3 x4).run,fun x0 x1 x2 x3 x4 x5=>(qHQ (qR n) n x0 x1 x2 x3 x4 x5).run⟩
def qCq (n:Nat) (x0 x1:Int) (x2:BA) (x3:Nat) (x4:Bool) (x5:RW):Option (Int×BA×Nat×Bool×RW):=(qR n).impl_reader_binary x0 x1 x2 x3 x4 x5
def qGi (n:Nat) (x0:Int) (x1:BA) (x2:Nat) (x3:Bool) (x4:RW):Option (Int×BA×Nat×Bool×RW):=(qR n).impl_reader_unary x0 x1 x2 x3 x4
def qHR (n:Nat) (x0:Int) (x1:BA) (x2:Nat) (x3:Bool) (x4:RW):Option (Int×BA×Nat×Bool×RW):=(qR n).impl_reader_atom x0 x1 x2 x3 x4
def qCV (n:Nat) (x0 x1:Int) (x2:BA) (x3:Nat) (x4:Bool) (x5:RW):Option (Int×BA×Nat×Bool×RW):=(qR n).impl_reader_call x0 x1 x2 x3 x4 x5
def qAF (n:Nat):Prop:=
 Ok (Rn n) qGA (qCq n)∧
 Ok (Rn n) qLw (qGi n)∧
 Ok (Rn n) qMn (qHR n)∧
 Ok (Rn n) qMo (qCV n)
abbrev qDu (n:Nat) (ih:qAF n):List (Ent (Rn n)):= [en ih.2.1,en (qGe n),en (qKz n),en (qMH n),en (qCG n),en ih.1,en (qCU n)]
def qIW (n:Nat) (ih:qAF n):LEnt (lb 14 (KB 138)) (Rn n) n:=lok (Uniq.pick (zJ 138) 14) 237 ⟨⟨[(0,(.c (.ptr 0 0 0 0 0))),(1,aI),(2,aI),(7,aI),(8,aI),(9,aI)],[],[[(0,⟨0,3,174,(.box [qS,(.own 0 1 1 0),qB])⟩),(1,⟨1,14,210,(.row [])⟩)]]⟩,[(.exit 2,⟨[(0,(.c (.ptr 0 0 0 0 0))),(1,aI),(2,aI),(7,aI),(8,aI)],[],[[(0,⟨0,3,174,(.box [qS,(.own 0 1 1 0),qB])⟩),(1,⟨1,14,210,(.row [])⟩)]]⟩)]⟩ (qBI n) (qDu n ih) [] fun _=>(by kernel_rfl)
def qIy (n:Nat) (ih:qAF n):LEnt (KB 138) (Rn n) n:=lok (zJ 138) 14 ⟨⟨[(0,(.c (.ptr 0 0 0 0 0))),(1,aI),(2,aI),(7,aI)],[],[[(0,⟨0,3,174,(.box [qS,(.own 0 1 1 0),qB])⟩),(1,⟨1,14,210,(.row [])⟩)]]⟩,[(.exit 0,⟨[(7,aI)],[],[[(0,⟨0,3,174,(.box [qS,(.own 0 1 1 0),qB])⟩),(1,⟨1,14,210,(.row [])⟩)]]⟩)]⟩ (qDK (qR n) n) (qDu n ih) [qIW n ih] fun _=>(by kernel_rfl)
abbrev qLx (n:Nat) (ih:qAF n):List (Ent (Rn n)):= [en (qCG n),en ih.2.1,en (qCU n),en ih.2.2.1]
abbrev qEp (n:Nat) (ih:qAF n):List (Ent (Rn n)):= [en (qCY n),en (qCo n),en (qKM n),en (qFK n),en (qCn n),en (qMG n),en (qEw n),en (qGf n),en (qH0 n),en (qH1 n),en (qCU n),en (qKy n),en ih.2.2.2,en (qCG n),en ih.1]
def qJX (n:Nat) (ih:qAF n):LEnt (KB 261) (Rn n) n:=lok (zJ 261) 477 ⟨⟨[(0,(.c (.ptr 0 0 0 0 0))),(1,aI),(5,aI)],[],[[(0,⟨0,3,174,(.box [qS,(.own 0 1 1 0),qB])⟩),(1,⟨1,14,210,(.row [])⟩)]]⟩,[(.ret,⟨[(4,aI)],[],[[(0,⟨0,3,174,(.box [qS,(.own 0 1 1 0),qB])⟩),(1,⟨1,14,210,(.row [])⟩)]]⟩),(.exit 1,⟨[(0,(.c (.ptr 0 0 0 0 0))),(1,aI)],[],[[(0,⟨0,3,174,(.box [qS,(.own 0 1 1 0),qB])⟩),(1,⟨1,14,210,(.row [])⟩)]]⟩)]⟩ (qCK n) (qEp n ih) [] fun _=>(by kernel_rfl)
def qJY (n:Nat) (ih:qAF n):LEnt (KB 261) (Rn n) n:=lok (zJ 261) 509 ⟨⟨[(0,(.c (.ptr 0 0 0 0 0))),(1,aI),(9,aS),(14,aI)],[],[[(0,⟨0,3,174,(.box [qS,(.own 0 1 1 0),qB])⟩),(1,⟨1,14,210,(.row [])⟩)]]⟩,[(.ret,⟨[(4,aI)],[],[[(0,⟨0,3,174,(.box [qS,(.own 0 1 1 0),qB])⟩),(1,⟨1,14,210,(.row [])⟩)]]⟩),(.exit 3,⟨[(0,(.c (.ptr 0 0 0 0 0)))],[],[[(0,⟨0,3,174,(.box [qS,(.own 0 1 1 0),qB])⟩),(1,⟨1,14,210,(.row [])⟩)]]⟩)]⟩ (qAs (qR n) n) (qEp n ih) [] fun _=>(by kernel_rfl)
abbrev qHS (n:Nat) (ih:qAF n):List (Ent (Rn n)):= [en (qIx n),en (qCU n),en (qCG n),en ih.1]
def qKO (n:Nat) (ih:qAF n):LEnt (KB 303) (Rn n) n:=lok (zJ 303) 30 ⟨⟨[(0,(.c (.ptr 0 0 0 0 0))),(1,aI),(2,aI),(7,(.c (.own 1 640 0 0)))],[(640,⟨0,1,2,(.row [])⟩)],[[(0,⟨0,3,174,(.box [qS,(.own 0 1 1 0),qB])⟩),(1,⟨1,14,210,(.row [])⟩)]]⟩,[(.exit 0,⟨[(0,(.c (.ptr 0 0 0 0 0))),(1,aI),(7,(.c (.own 1 640 0 0)))],[(640,⟨0,1,2,(.row [])⟩)],[[(0,⟨0,3,174,(.box [qS,(.own 0 1 1 0),qB])⟩),(1,⟨1,14,210,(.row [])⟩)]]⟩)]⟩ (qCa (qR n) n) (qHS n ih) [] fun _=>(by kernel_rfl)
theorem qAQ:∀n,qAF n
 |0=>⟨ok0 fun _=>rfl,ok0 fun _=>rfl,ok0 fun _=>rfl,ok0 fun _=>rfl⟩
 |n+1=>⟨stO (T:=qGB (qR n) n) (by kernel_rfl) (qDu n (qAQ n)) [qIy n (qAQ n)] (fun _=>(by kernel_rfl)) fun _=>(by kernel_rfl),stO (T:=qGh (qR n) n) (by kernel_rfl) (qLx n (qAQ n)) [] (fun _=>(by kernel_rfl)) fun _=>(by kernel_rfl),stO (T:=qHP (qR n) n) (by kernel_rfl) (qEp n (qAQ n)) [qJX n (qAQ n),qJY n (qAQ n)] (fun _=>(by kernel_rfl)) fun _=>(by kernel_rfl),stO (T:=qHQ (qR n) n) (by kernel_rfl) (qHS n (qAQ n)) [qKO n (qAQ n)] (fun _=>(by kernel_rfl)) fun _=>(by kernel_rfl)⟩
theorem qKP (n:Nat):Ok (Rn n) qGA (qCq n):=(qAQ n).1
def qNY:Sg:=⟨180,[(.agg [qI,qI,qI,qI,qS,qI,qI,qB,qB,qI,qI,qB,qB,qL])],[],⟨(.agg [qI,qI,qI,qI]),[],[]⟩⟩
def qFP (n:Nat) (x0 x1 x2 x3:Int) (x4:BA) (x5 x6:Int) (x7 x8:Bool) (x9 x10:Int) (x11 x12:Bool) (x13:RW):Tr (Int×Int×Int×Int):=(.ask ((x0==(2:Int))) (.done (x5,x6,x5,x6)) (.done (x5,x6,x9,x10)))
def qCr:Nat→Int→Int→Int→Int→BA→Int→Int→Bool→Bool→Int→Int→Bool→Bool→RW→Option (Int×Int×Int×Int)
 |0,_,_,_,_,_,_,_,_,_,_,_,_,_,_=>none
 |n+1,x0,x1,x2,x3,x4,x5,x6,x7,x8,x9,x10,x11,x12,x13=>(qFP n x0 x1 x2 x3 x4 x5 x6 x7 x8 x9 x10 x11 x12 x13).run
theorem qMp:∀n,Ok (Rn n) qNY (qCr n)
 |0=>ok0 fun _=>rfl
 |n+1=>stO (T:=qFP n) (by kernel_rfl) [] [] (fun _=>(by kernel_rfl)) fun _=>(by kernel_rfl)
def qRz:Sg:=⟨329,[(.agg [qI,qI,qI,qI])],[],⟨aB,[],[]⟩⟩
def qIX (n:Nat) (x0 x1 x2 x3:Int):Tr (Bool):=(.opt (qB1 n x0 x1) fun r308=>(.ask (r308) (.opt (qB1 n x2 x3) fun r309=>(.ask (r309) (.ask ((decide (x0≤x2))) (.done (decide (x1≤x3))) (.done false)) (.done false))) (.done false)))
def qET:Nat→Int→Int→Int→Int→Option (Bool)
 |0,_,_,_,_=>none
 |n+1,x0,x1,x2,x3=>(qIX n x0 x1 x2 x3).run
abbrev qR0 (n:Nat):List (Ent (Rn n)):= [en (qF1 n)]
theorem qQy:∀n,Ok (Rn n) qRz (qET n)
 |0=>ok0 fun _=>rfl
 |n+1=>stO (T:=qIX n) (by kernel_rfl) (qR0 n) [] (fun _=>(by kernel_rfl)) fun _=>(by kernel_rfl)
def qKQ:Sg:=⟨304,[(.agg [qI,qI,qI,qI,qS,qI,qI,qB,qB,qI,qI,qB,qB,qL])],[],⟨aB,[],[]⟩⟩
def qDe (n:Nat) (x0 x1 x2 x3:Int) (x4:BA) (x5 x6:Int) (x7 x8:Bool) (x9 x10:Int) (x11 x12:Bool) (x13:RW):Tr (Bool):=(.ask ((x0 !=(2:Int))) (.ask ((x0 !=(3:Int))) (.done true) (.opt (qCr n x0 x1 x2 x3 x4 x5 x6 x7 x8 x9 x10 x11 x12 x13) fun r307=>(.opt (qET n r307.1 r307.2.1 r307.2.2.1 r307.2.2.2) fun r310=>(.done r310)))) (.opt (qCr n x0 x1 x2 x3 x4 x5 x6 x7 x8 x9 x10 x11 x12 x13) fun r311=>(.opt (qET n r311.1 r311.2.1 r311.2.2.1 r311.2.2.2) fun r312=>(.done r312))))
def qAG:Nat→Int→Int→Int→Int→BA→Int→Int→Bool→Bool→Int→Int→Bool→Bool→RW→Option (Bool)
 |0,_,_,_,_,_,_,_,_,_,_,_,_,_,_=>none
 |n+1,x0,x1,x2,x3,x4,x5,x6,x7,x8,x9,x10,x11,x12,x13=>(qDe n x0 x1 x2 x3 x4 x5 x6 x7 x8 x9 x10 x11 x12 x13).run
abbrev qKR (n:Nat):List (Ent (Rn n)):= [en (qMp n),en (qQy n)]
theorem qJZ:∀n,Ok (Rn n) qKQ (qAG n)
 |0=>ok0 fun _=>rfl
 |n+1=>stO (T:=qDe n) (by kernel_rfl) (qKR n) [] (fun _=>(by kernel_rfl)) fun _=>(by kernel_rfl)
def qLy:Sg:=⟨305,[(.agg [qI,qI,qI,qI,qS,qI,qI,qB,qB,qI,qI,qB,qB,qL])],[],⟨aB,[],[]⟩⟩
def qEP (n:Nat) (x0 x1 x2 x3:Int) (x4:BA) (x5 x6:Int) (x7 x8:Bool) (x9 x10:Int) (x11 x12:Bool) (x13:RW):Tr (Bool):=(.ask ((x0==(4:Int))) (.ask ((x1==(0:Int))) (.done ((x13.length:Int)==(1:Int))) (.done false)) (.ask ((x0==(5:Int))) (.opt (q8 n x1 (1:Int) (11:Int)) fun r314=>(.ask (r314) (.done ((x13.length:Int)==(2:Int))) (.done false))) (.ask ((x0==(6:Int))) (.opt (q8 n x1 (1:Int) (10:Int)) fun r315=>(.ask ((!r315)) (.done false) (.ask ((x1==(5:Int))) (.opt (q8 n (x13.length:Int) (2:Int) (3:Int)) fun r316=>(.done r316)) (.ask ((decide (x1≥(8:Int)))) (.done ((x13.length:Int)==(1:Int))) (.opt (q8 n (x13.length:Int) (1:Int) (10:Int)) fun r317=>(.done r317)))))) (.ask ((x1==(0:Int))) (.done ((x13.length:Int)==(0:Int))) (.done false)))))
def qAU:Nat→Int→Int→Int→Int→BA→Int→Int→Bool→Bool→Int→Int→Bool→Bool→RW→Option (Bool)
 |0,_,_,_,_,_,_,_,_,_,_,_,_,_,_=>none
 |n+1,x0,x1,x2,x3,x4,x5,x6,x7,x8,x9,x10,x11,x12,x13=>(qEP n x0 x1 x2 x3 x4 x5 x6 x7 x8 x9 x10 x11 x12 x13).run
abbrev qLz (n:Nat):List (Ent (Rn n)):= [en (qDH n)]
theorem qK0:∀n,Ok (Rn n) qLy (qAU n)
 |0=>ok0 fun _=>rfl
 |n+1=>stO (T:=qEP n) (by kernel_rfl) (qLz n) [] (fun _=>(by kernel_rfl)) fun _=>(by kernel_rfl)
def qMq:Sg:=⟨262,[(.agg [qI,qI,qI,qI,qS,qI,qI,qB,qB,qI,qI,qB,qB,qL])],[],⟨aB,[],[]⟩⟩
def qEq (n:Nat) (x0 x1 x2 x3:Int) (x4:BA) (x5 x6:Int) (x7 x8:Bool) (x9 x10:Int) (x11 x12:Bool) (x13:RW):Tr (Bool):=(.ask ((x0==(1:Int))) (.opt (qAX n x2 x3 x4) fun r306=>(.ask ((!r306)) (.done false) (.ask ((x2==(0:Int))) (.done false) (.ask ((x2==(1:Int))) (.ask ((decide (x3<(0:Int)))) (.done false) (.opt (qAG n x0 x1 x2 x3 x4 x5 x6 x7 x8 x9 x10 x11 x12 x13) fun r313=>(.ask (r313) (.opt (qAU n x0 x1 x2 x3 x4 x5 x6 x7 x8 x9 x10 x11 x12 x13) fun r318=>(.ask (r318) (.ask (((x2==x2)&&((x3==x3)&&((x4.toList==x4.toList)&&true)))) (.ask ((((0:Int)==x5)&&(((0:Int)==x6)&&((false==x7)&&((false==x8)&&true))))) (.done (((0:Int)==x9)&&(((0:Int)==x10)&&((false==x11)&&((false==x12)&&true))))) (.done false)) (.done false)) (.done false))) (.done false)))) (.opt (qAG n x0 x1 x2 x3 x4 x5 x6 x7 x8 x9 x10 x11 x12 x13) fun r319=>(.ask (r319) (.opt (qAU n x0 x1 x2 x3 x4 x5 x6 x7 x8 x9 x10 x11 x12 x13) fun r320=>(.ask (r320) (.ask (((x2==x2)&&((x3==x3)&&((x4.toList==x4.toList)&&true)))) (.ask ((((0:Int)==x5)&&(((0:Int)==x6)&&((false==x7)&&((false==x8)&&true))))) (.done (((0:Int)==x9)&&(((0:Int)==x10)&&((false==x11)&&((false==x12)&&true))))) (.done false)) (.done false)) (.done false))) (.done false))))))) (.ask ((x0==(2:Int))) (.opt (qAG n x0 x1 x2 x3 x4 x5 x6 x7 x8 x9 x10 x11 x12 x13) fun r321=>(.ask (r321) (.opt (qAU n x0 x1 x2 x3 x4 x5 x6 x7 x8 x9 x10 x11 x12 x13) fun r322=>(.ask (r322) (.ask ((((0:Int)==x2)&&(((0:Int)==x3)&&(((⟨#[]⟩:BA).toList==x4.toList)&&true)))) (.ask (((x5==x5)&&((x6==x6)&&((x7==x7)&&((x8==x8)&&true))))) (.done (((0:Int)==x9)&&(((0:Int)==x10)&&((false==x11)&&((false==x12)&&true))))) (.done false)) (.done false)) (.done false))) (.done false))) (.ask ((x0==(3:Int))) (.opt (qAG n x0 x1 x2 x3 x4 x5 x6 x7 x8 x9 x10 x11 x12 x13) fun r323=>(.ask (r323) (.opt (qAU n x0 x1 x2 x3 x4 x5 x6 x7 x8 x9 x10 x11 x12 x13) fun r324=>(.ask (r324) (.ask ((((0:Int)==x2)&&(((0:Int)==x3)&&(((⟨#[]⟩:BA).toList==x4.toList)&&true)))) (.ask (((x5==x5)&&((x6==x6)&&((x7==x7)&&((x8==x8)&&true))))) (.done ((x9==x9)&&((x10==x10)&&((x11==x11)&&((x12==x12)&&true))))) (.done false)) (.done false)) (.done false))) (.done false))) (.ask ((x0==(4:Int))) (.opt (qAG n x0 x1 x2 x3 x4 x5 x6 x7 x8 x9 x10 x11 x12 x13) fun r325=>(.ask (r325) (.opt (qAU n x0 x1 x2 x3 x4 x5 x6 x7 x8 x9 x10 x11 x12 x13) fun r326=>(.ask (r326) (.ask ((((0:Int)==x2)&&(((0:Int)==x3)&&(((⟨#[]⟩:BA).toList==x4.toList)&&true)))) (.ask ((((0:Int)==x5)&&(((0:Int)==x6)&&((false==x7)&&((false==x8)&&true))))) (.done (((0:Int)==x9)&&(((0:Int)==x10)&&((false==x11)&&((false==x12)&&true))))) (.done false)) (.done false)) (.done false))) (.done false))) (.ask ((x0==(5:Int))) (.opt (qAG n x0 x1 x2 x3 x4 x5 x6 x7 x8 x9 x10 x11 x12 x13) fun r327=>(.ask (r327) (.opt (qAU n x0 x1 x2 x3 x4 x5 x6 x7 x8 x9 x10 x11 x12 x13) fun r328=>(.ask (r328) (.ask ((((0:Int)==x2)&&(((0:Int)==x3)&&(((⟨#[]⟩:BA).toList==x4.toList)&&true)))) (.ask ((((0:Int)==x5)&&(((0:Int)==x6)&&((false==x7)&&((false==x8)&&true))))) (.done (((0:Int)==x9)&&(((0:Int)==x10)&&((false==x11)&&((false==x12)&&true))))) (.done false)) (.done false)) (.done false))) (.done false))) (.ask ((x0==(6:Int))) (.opt (qAG n x0 x1 x2 x3 x4 x5 x6 x7 x8 x9 x10 x11 x12 x13) fun r329=>(.ask (r329) (.opt (qAU n x0 x1 x2 x3 x4 x5 x6 x7 x8 x9 x10 x11 x12 x13) fun r330=>(.ask (r330) (.ask ((((0:Int)==x2)&&(((0:Int)==x3)&&(((⟨#[]⟩:BA).toList==x4.toList)&&true)))) (.ask ((((0:Int)==x5)&&(((0:Int)==x6)&&((false==x7)&&((false==x8)&&true))))) (.done (((0:Int)==x9)&&(((0:Int)==x10)&&((false==x11)&&((false==x12)&&true))))) (.done false)) (.done false)) (.done false))) (.done false))) (.done false)))))))
def qDT:Nat→Int→Int→Int→Int→BA→Int→Int→Bool→Bool→Int→Int→Bool→Bool→RW→Option (Bool)
 |0,_,_,_,_,_,_,_,_,_,_,_,_,_,_=>none
 |n+1,x0,x1,x2,x3,x4,x5,x6,x7,x8,x9,x10,x11,x12,x13=>(qEq n x0 x1 x2 x3 x4 x5 x6 x7 x8 x9 x10 x11 x12 x13).run
abbrev qMr (n:Nat):List (Ent (Rn n)):= [en (qGV n),en (qJZ n),en (qK0 n)]
theorem qL0:∀n,Ok (Rn n) qMq (qDT n)
 |0=>ok0 fun _=>rfl
 |n+1=>stO (T:=qEq n) (by kernel_rfl) (qMr n) [] (fun _=>(by kernel_rfl)) fun _=>(by kernel_rfl)
def qK1:Sg:=⟨207,[aL,aI,aI],[],⟨aI,[],[]⟩⟩
def qAY (rec:RW→Int→Int→Option (Int)) (n:Nat) (v:RW×Int×Int×Int×Int):Tr ((RW×Int×Int×Int×Int)⊕((Int)⊕(Int))):=(.ask ((decide (v.2.2.2.2≥(0:Int)))) (.ask (decide (0≤v.2.1∧v.2.1<v.1.length)) (.opt (v.1[(v.2.1).toNat]?) fun e334=>(.ask (decide (e334.length=14)) (.opt (zg e334 13) fun y335=>(.ask (decide (0≤v.2.2.2.2∧v.2.2.2.2<y335.length)) (.opt (y335[(v.2.2.2.2).toNat]?) fun e336=>(.ask (decide (e336.length=1)) (.opt (zD .i64 e336 0) fun y337=>(.ask ((y337 !=(IntKind.i64.wrap (v.2.2.2.1-(1:Int))))) (.done (.inr (.inl ((-1:Int))))) (.ask ((decide (y337<(0:Int)))) (.done (.inr (.inl ((-1:Int))))) (.ask (decide (0≤y337∧y337<v.1.length)) (.opt (v.1[(y337).toNat]?) fun e338=>(.ask (decide (e338.length=14)) (.opt (zD .i64 e338 0) fun y339=>(.ask ((y339==(3:Int))) (.ask (decide (0≤v.2.1∧v.2.1<v.1.length)) (.opt (v.1[(v.2.1).toNat]?) fun e340=>(.ask (decide (e340.length=14)) (.opt (zD .i64 e340 0) fun y341=>(.ask ((y341 !=(6:Int))) (.done (.inr (.inl ((-1:Int))))) (.opt (rec v.1 y337 (IntKind.i64.wrap (v.2.2.1+(1:Int)))) fun r342=>(.ask ((decide (r342<(0:Int)))) (.done (.inr (.inl ((-1:Int))))) (.done (.inl (v.1,v.2.1,v.2.2.1,r342,(IntKind.i64.wrap (v.2.2.2.2-(1:Int)))))))))) .fail)) .fail) (.opt (rec v.1 y337 (IntKind.i64.wrap (v.2.2.1+(1:Int)))) fun r343=>(.ask ((decide (r343<(0:Int)))) (.done (.inr (.inl ((-1:Int))))) (.done (.inl (v.1,v.2.1,v.2.2.1,r343,(IntKind.i64.wrap (v.2.2.2.2-(1:Int)))))))))) .fail)) .fail)))) .fail)) .fail)) .fail)) .fail) (.done (.inr (.inr (v.2.2.2.1)))))
def qGC (rec:RW→Int→Int→Option (Int)) (n:Nat) (x0:RW) (x1 x2:Int):Tr (Int):=(.ask ((decide (x1<(0:Int)))) (.done (-1:Int)) (.ask ((decide (x2≥(12:Int)))) (.done (-1:Int)) (.ask (decide (0≤x1∧x1<x0.length)) (.opt (x0[(x1).toNat]?) fun e291=>(.ask (decide (e291.length=14)) (.opt (zD .i64 e291 0) fun y292=>(.opt (zD .i64 e291 1) fun y293=>(.opt (zD .i64 e291 2) fun y294=>(.opt (zD .i64 e291 3) fun y295=>(.opt (zT e291 4) fun y296=>(.opt (zD .i64 e291 5) fun y297=>(.opt (zD .i64 e291 6) fun y298=>(.opt (zAZ e291 7) fun y299=>(.opt (zAZ e291 8) fun y300=>(.opt (zD .i64 e291 9) fun y301=>(.opt (zD .i64 e291 10) fun y302=>(.opt (zAZ e291 11) fun y303=>(.opt (zAZ e291 12) fun y304=>(.opt (zg e291 13) fun y305=>(.opt (qDT n y292 y293 y294 y295 y296 y297 y298 y299 y300 y301 y302 y303 y304 y305) fun r331=>(.ask ((!r331)) (.done (-1:Int)) (.ask (decide (0≤x1∧x1<x0.length)) (.opt (x0[(x1).toNat]?) fun e332=>(.ask (decide (e332.length=14)) (.opt (zg e332 13) fun y333=>(.opt (zC (qAY rec n) n (x0,x1,x2,x1,(IntKind.i64.wrap ((y333.length:Int)-(1:Int))))) fun r344=>(.alt r344 (fun r345=>(.done r345)) (fun r346=>(.done r346))))) .fail)) .fail))))))))))))))))) .fail)) .fail)))
def qAr:Nat→RW→Int→Int→Option (Int)
 |0,_,_,_=>none
 |n+1,x0,x1,x2=>(qGC (qAr n) n x0 x1 x2).run
abbrev qPE (n:Nat) (ih:Ok (Rn n) qK1 (qAr n)):List (Ent (Rn n)):= [en (qL0 n),en ih]
def qQz (n:Nat) (ih:Ok (Rn n) qK1 (qAr n)):LEnt (KB 207) (Rn n) n:=lok (zJ 207) 61 ⟨⟨[(0,aL),(1,aI),(2,aI),(7,aI),(8,aI)],[],[]⟩,[(.ret,⟨[(6,aI)],[],[]⟩),(.exit 0,⟨[(7,aI)],[],[]⟩)]⟩ (qAY (qAr n) n) (qPE n ih) [] fun _=>(by kernel_rfl)
theorem qJa:∀n,Ok (Rn n) qK1 (qAr n)
 |0=>ok0 fun _=>rfl
 |n+1=>stO (T:=qGC (qAr n) n) (by kernel_rfl) (qPE n (qJa n)) [qQz n (qJa n)] (fun _=>(by kernel_rfl)) fun _=>(by kernel_rfl)
def qOh:Sg:=⟨140,[aL],[],⟨aB,[],[]⟩⟩
def qDL (n:Nat) (x0:RW):Tr (Bool):=(.opt (q8 n (x0.length:Int) (1:Int) (60:Int)) fun r288=>(.ask (r288) (.ask (decide (0≤(IntKind.i64.wrap ((x0.length:Int)-(1:Int)))∧(IntKind.i64.wrap ((x0.length:Int)-(1:Int)))<x0.length)) (.opt (x0[((IntKind.i64.wrap ((x0.length:Int)-(1:Int)))).toNat]?) fun e289=>(.ask (decide (e289.length=14)) (.opt (zD .i64 e289 0) fun y290=>(.ask ((y290 !=(3:Int))) (.opt (qAr n x0 (IntKind.i64.wrap ((x0.length:Int)-(1:Int))) (0:Int)) fun r347=>(.done (r347==(0:Int)))) (.done false))) .fail)) .fail) (.done false)))
def qBx:Nat→RW→Option (Bool)
 |0,_=>none
 |n+1,x0=>(qDL n x0).run
abbrev qOi (n:Nat):List (Ent (Rn n)):= [en (qDH n),en (qJa n)]
theorem qH2:∀n,Ok (Rn n) qOh (qBx n)
 |0=>ok0 fun _=>rfl
 |n+1=>stO (T:=qDL n) (by kernel_rfl) (qOi n) [] (fun _=>(by kernel_rfl)) fun _=>(by kernel_rfl)
def qMs:Sg:=⟨71,[aS],[],⟨(.tup [(false,[qL]),(false,[qB])]),[],[]⟩⟩
def qHT (n:Nat) (x0:BA):Tr (RW×Bool):=(.opt (qC1 n x0 (200:Int)) fun r147=>(.ask ((!r147)) (.ask (decide (0=([]:RW).length)) (.done (([]:RW),false)) .fail) (.opt (qCq n (1:Int) (0:Int) x0 (0:Nat) false ([]:RW)) fun r286=>(.opt (qA5 n r286.2.1 r286.2.2.1 r286.2.2.2.1 r286.2.2.2.2) fun r287=>(.ask (r287.2.2.1) (.ask (decide (0=([]:RW).length)) (.done (([]:RW),false)) .fail) (.ask ((!(r287.1.toList==(⟨#[]⟩:BA).toList))) (.ask (decide (0=([]:RW).length)) (.done (([]:RW),false)) .fail) (.ask (decide (r287.2.1=r287.2.2.2.length)) (.opt (qBx n r287.2.2.2) fun r348=>(.ask (zBF (⟨(.c (.p (.b r348))),[],[]⟩:Res)) (.ask ((!r348)) (.ask (decide (0=([]:RW).length)) (.done (([]:RW),false)) .fail) (.ask (decide (r287.2.1=r287.2.2.2.length)) (.done (r287.2.2.2,true)) .fail)) .fail)) .fail)))))))
def qEr:Nat→BA→Option (RW×Bool)
 |0,_=>none
 |n+1,x0=>(qHT n x0).run
abbrev qMt (n:Nat):List (Ent (Rn n)):= [en (qHG n),en (qKP n),en (qCY n),en (qH2 n)]
theorem qL1:∀n,Ok (Rn n) qMs (qEr n)
 |0=>ok0 fun _=>rfl
 |n+1=>stO (T:=qHT n) (by kernel_rfl) (qMt n) [] (fun _=>(by kernel_rfl)) fun _=>(by kernel_rfl)
def qGD:Sg:=⟨263,[aS,aS,aS],[],⟨aS,[],[]⟩⟩
def qDv:Nat→BA→BA→BA→Option ((BA))
 |0,_,_,_=>none
 |n+1,x0,x1,x2=>zj x0 x1 x2
theorem qKS:∀n,Ok (Rn n) qGD (qDv n)
 |0=>ok0 fun _=>rfl
 |n+1=>stL zAH (by kernel_rfl) (fun _ _=>rfl) (fun a r e=>congrArg (Option.map fun r=>(qGD.Of r).v) e) rfl rfl rfl
def qK2:Sg:=⟨265,[aL,aS],[],⟨aS,[],[]⟩⟩
def qHU:Nat→RW→BA→Option ((BA))
 |0,_,_=>none
 |n+1,x0,x1=>zAt x0 x1
theorem qPr:∀n,Ok (Rn n) qK2 (qHU n)
 |0=>ok0 fun _=>rfl
 |n+1=>stL zAu (by kernel_rfl) (fun _ _=>rfl) (fun a r e=>congrArg (Option.map fun r=>(qK2.Of r).v) e) rfl rfl rfl
def qEs:Sg:=⟨208,[aL,aI,aI],[],⟨aS,[],[]⟩⟩
def qBh (rec:RW→Int→Int→Option (BA)) (n:Nat) (v:RW×Nat×RW×Int×Int×Int×Int×Int×Int×BA×Int×Int×Bool×Bool×Int×Int×Bool×Bool×RW×RW):Tr ((RW×Nat×RW×Int×Int×Int×Int×Int×Int×BA×Int×Int×Bool×Bool×Int×Int×Bool×Bool×RW×RW)⊕((Nat×Int×Int×Int×Int×BA×Int×Int×Bool×Bool×Int×Int×Bool×Bool×RW×RW))):=(.ask ((decide (v.2.2.2.2.1<v.2.2.2.1))) (.ask (decide (0≤v.2.2.2.2.1∧v.2.2.2.2.1<v.2.2.1.length)) (.opt (v.2.2.1[(v.2.2.2.2.1).toNat]?) fun e382=>(.ask (decide (e382.length=1)) (.opt (zD .i64 e382 0) fun y383=>(.opt (rec v.1 y383 (1:Int)) fun r384=>(.ask (decide (1=([[(.s r384)]]:RW).length)) (.ask (decide (v.2.1=v.2.2.2.2.2.2.2.2.2.2.2.2.2.2.2.2.2.2.2.length∧0<1∧0<16∧(v.2.1+([[(.s r384)]]:RW).length)*16≤140737488355328∧([[(.s r384)]]:RW).all (fun e=>e.length==1)=true)) (.done (.inl (v.1,(v.2.1+1),v.2.2.1,v.2.2.2.1,(IntKind.i64.wrap (v.2.2.2.2.1+(1:Int))),v.2.2.2.2.2.1,v.2.2.2.2.2.2.1,v.2.2.2.2.2.2.2.1,v.2.2.2.2.2.2.2.2.1,v.2.2.2.2.2.2.2.2.2.1,v.2.2.2.2.2.2.2.2.2.2.1,v.2.2.2.2.2.2.2.2.2.2.2.1,v.2.2.2.2.2.2.2.2.2.2.2.2.1,v.2.2.2.2.2.2.2.2.2.2.2.2.2.1,v.2.2.2.2.2.2.2.2.2.2.2.2.2.2.1,v.2.2.2.2.2.2.2.2.2.2.2.2.2.2.2.1,v.2.2.2.2.2.2.2.2.2.2.2.2.2.2.2.2.1,v.2.2.2.2.2.2.2.2.2.2.2.2.2.2.2.2.2.1,v.2.2.2.2.2.2.2.2.2.2.2.2.2.2.2.2.2.2.1,(v.2.2.2.2.2.2.2.2.2.2.2.2.2.2.2.2.2.2.2++([[(.s r384)]]:RW))))) .fail) .fail))) .fail)) .fail) (.done (.inr ((v.2.1,v.2.2.2.2.2.1,v.2.2.2.2.2.2.1,v.2.2.2.2.2.2.2.1,v.2.2.2.2.2.2.2.2.1,v.2.2.2.2.2.2.2.2.2.1,v.2.2.2.2.2.2.2.2.2.2.1,v.2.2.2.2.2.2.2.2.2.2.2.1,v.2.2.2.2.2.2.2.2.2.2.2.2.1,v.2.2.2.2.2.2.2.2.2.2.2.2.2.1,v.2.2.2.2.2.2.2.2.2.2.2.2.2.2.1,v.2.2.2.2.2.2.2.2.2.2.2.2.2.2.2.1,v.2.2.2.2.2.2.2.2.2.2.2.2.2.2.2.2.1,v.2.2.2.2.2.2.2.2.2.2.2.2.2.2.2.2.2.1,v.2.2.2.2.2.2.2.2.2.2.2.2.2.2.2.2.2.2.1,v.2.2.2.2.2.2.2.2.2.2.2.2.2.2.2.2.2.2.2)))))
def qAt (rec:RW→Int→Int→Option (BA)) (n:Nat) (x0:RW) (x1 x2:Int):Tr (BA):=(.ask (decide (0≤x1∧x1<x0.length)) (.opt (x0[(x1).toNat]?) fun e351=>(.ask (decide (e351.length=14)) (.opt (zD .i64 e351 0) fun y352=>(.opt (zD .i64 e351 1) fun y353=>(.opt (zD .i64 e351 2) fun y354=>(.opt (zD .i64 e351 3) fun y355=>(.opt (zT e351 4) fun y356=>(.opt (zD .i64 e351 5) fun y357=>(.opt (zD .i64 e351 6) fun y358=>(.opt (zAZ e351 7) fun y359=>(.opt (zAZ e351 8) fun y360=>(.opt (zD .i64 e351 9) fun y361=>(.opt (zD .i64 e351 10) fun y362=>(.opt (zAZ e351 11) fun y363=>(.opt (zAZ e351 12) fun y364=>(.opt (zg e351 13) fun y365=>(.ask ((y352==(1:Int))) (.ask ((y354==(2:Int))) (.opt (qDv n y356 (⟨#[34]⟩:BA) (⟨#[34,34]⟩:BA)) fun r366=>(.ask (decide ((⟨#[34]⟩:BA).size+r366.size≤9223372036854775807)) (.ask (decide (((⟨#[34]⟩:BA)++r366).size+(⟨#[34]⟩:BA).size≤9223372036854775807)) (.done (((⟨#[34]⟩:BA)++r366)++(⟨#[34]⟩:BA))) .fail) .fail)) (.opt (qw n y354 y355 y356) fun r367=>(.done r367))) (.ask ((y352==(2:Int))) (.opt (qAz n y357 y358 y359 y360) fun r368=>(.done r368)) (.ask ((y352==(3:Int))) (.opt (qAz n y357 y358 y359 y360) fun r369=>(.ask (decide (r369.size+(⟨#[58]⟩:BA).size≤9223372036854775807)) (.opt (qAz n y361 y362 y363 y364) fun r370=>(.ask (decide ((r369++(⟨#[58]⟩:BA)).size+r370.size≤9223372036854775807)) (.done ((r369++(⟨#[58]⟩:BA))++r370)) .fail)) .fail)) (.ask ((y352==(4:Int))) (.ask (decide (0≤(0:Int)∧(0:Int)<y365.length)) (.opt (y365[((0:Int)).toNat]?) fun e371=>(.ask (decide (e371.length=1)) (.opt (zD .i64 e371 0) fun y372=>(.opt (rec x0 y372 (5:Int)) fun r373=>(.ask (decide ((⟨#[45]⟩:BA).size+r373.size≤9223372036854775807)) (.done ((⟨#[45]⟩:BA)++r373)) .fail))) .fail)) .fail) (.ask ((y352==(5:Int))) (.opt (qEA n y353) fun r374=>(.ask (decide (0≤(0:Int)∧(0:Int)<y365.length)) (.opt (y365[((0:Int)).toNat]?) fun e375=>(.ask (decide (e375.length=1)) (.opt (zD .i64 e375 0) fun y376=>(.ask (decide (0≤(1:Int)∧(1:Int)<y365.length)) (.opt (y365[((1:Int)).toNat]?) fun e377=>(.ask (decide (e377.length=1)) (.opt (zD .i64 e377 0) fun y378=>(.opt (rec x0 y376 r374) fun r379=>(.opt (qBb n y353) fun r380=>(.ask (decide (r379.size+r380.size≤9223372036854775807)) (.opt (rec x0 y378 (IntKind.i64.wrap (r374+(1:Int)))) fun r381=>(.ask (decide ((r379++r380).size+r381.size≤9223372036854775807)) (.ask ((decide (r374<x2))) (.ask (decide ((⟨#[40]⟩:BA).size+((r379++r380)++r381).size≤9223372036854775807)) (.ask (decide (((⟨#[40]⟩:BA)++((r379++r380)++r381)).size+(⟨#[41]⟩:BA).size≤9223372036854775807)) (.done (((⟨#[40]⟩:BA)++((r379++r380)++r381))++(⟨#[41]⟩:BA))) .fail) .fail) (.done ((r379++r380)++r381))) .fail)) .fail)))) .fail)) .fail)) .fail)) .fail)) (.opt (zC (qBh rec n) n (x0,(0:Nat),y365,(y365.length:Int),(0:Int),y352,y353,y354,y355,y356,y357,y358,y359,y360,y361,y362,y363,y364,y365,([]:RW))) fun r385=>(.opt (qCM n r385.2.2.1) fun r386=>(.ask (decide (r386.size+(⟨#[40]⟩:BA).size≤9223372036854775807)) (.ask (decide (r385.1=r385.2.2.2.2.2.2.2.2.2.2.2.2.2.2.2.length)) (.opt (qHU n r385.2.2.2.2.2.2.2.2.2.2.2.2.2.2.2 (⟨#[44]⟩:BA)) fun r387=>(.ask (zBF (⟨(.c (.p (.s r387))),[],[]⟩:Res)) (.ask (decide ((r386++(⟨#[40]⟩:BA)).size+r387.size≤9223372036854775807)) (.ask (decide (((r386++(⟨#[40]⟩:BA))++r387).size+(⟨#[41]⟩:BA).size≤9223372036854775807)) (.done (((r386++(⟨#[40]⟩:BA))++r387)++(⟨#[41]⟩:BA))) .fail) .fail) .fail)) .fail) .fail)))))))))))))))))))))) .fail)) .fail)
def qZ:Nat→RW→Int→Int→Option (BA)
 |0,_,_,_=>none
 |n+1,x0,x1,x2=>(qAt (qZ n) n x0 x1 x2).run
abbrev qHV (n:Nat) (ih:Ok (Rn n) qEs (qZ n)):List (Ent (Rn n)):= [en (qKS n),en (qHz n),en (qFN n),en ih,en (qMH n),en (qKz n),en (qKy n),en (qPr n)]
def qJb (n:Nat) (ih:Ok (Rn n) qEs (qZ n)):LEnt (KB 208) (Rn n) n:=lok (zJ 208) 125 ⟨⟨[(0,aL),(7,(.c (.ptr 0 448 0 0 0))),(10,(.c (.own 0 5760 0 0))),(92,aL),(93,aI),(94,aI)],[(448,⟨0,14,210,(.box [qI,qI,qI,qI,qS,qI,qI,qB,qB,qI,qI,qB,qB,qL])⟩),(5760,⟨0,1,9,(.row [])⟩)],[]⟩,[(.exit 1,⟨[(7,(.c (.ptr 0 448 0 0 0))),(10,(.c (.own 0 5760 0 0)))],[(448,⟨0,14,210,(.box [qI,qI,qI,qI,qS,qI,qI,qB,qB,qI,qI,qB,qB,qL])⟩),(5760,⟨0,1,9,(.row [])⟩)],[]⟩)]⟩ (qBh (qZ n) n) (qHV n ih) [] fun _=>(by kernel_rfl)
theorem qEQ:∀n,Ok (Rn n) qEs (qZ n)
 |0=>ok0 fun _=>rfl
 |n+1=>stO (T:=qAt (qZ n) n) (by kernel_rfl) (qHV n (qEQ n)) [qJb n (qEQ n)] (fun _=>(by kernel_rfl)) fun _=>(by kernel_rfl)
def qMu:Sg:=⟨141,[aL],[],⟨aS,[],[]⟩⟩
def qDU (n:Nat) (x0:RW):Tr (BA):=(.opt (qBx n x0) fun r350=>(.ask ((!r350)) (.done (⟨#[]⟩:BA)) (.opt (qZ n x0 (IntKind.i64.wrap ((x0.length:Int)-(1:Int))) (1:Int)) fun r388=>(.ask ((decide ((r388.size:Int)>(200:Int)))) (.done (⟨#[]⟩:BA)) (.done r388)))))
def qBy:Nat→RW→Option (BA)
 |0,_=>none
 |n+1,x0=>(qDU n x0).run
abbrev qMv (n:Nat):List (Ent (Rn n)):= [en (qH2 n),en (qEQ n)]
theorem qL2:∀n,Ok (Rn n) qMu (qBy n)
 |0=>ok0 fun _=>rfl
 |n+1=>stO (T:=qDU n) (by kernel_rfl) (qMv n) [] (fun _=>(by kernel_rfl)) fun _=>(by kernel_rfl)
def qPs:Sg:=⟨72,[aL],[],⟨(.tup [(false,[qS]),(false,[qB])]),[],[]⟩⟩
def qJ8 (n:Nat) (x0:RW):Tr (BA×Bool):=(.opt (qBy n x0) fun r389=>(.ask (decide ((⟨#[61]⟩:BA).size+r389.size≤9223372036854775807)) (.ask ((!(r389.toList==(⟨#[]⟩:BA).toList))) (.done (((⟨#[61]⟩:BA)++r389),(decide ((r389.size:Int)<(200:Int))))) (.done (((⟨#[61]⟩:BA)++r389),false))) .fail))
def qGW:Nat→RW→Option (BA×Bool)
 |0,_=>none
 |n+1,x0=>(qJ8 n x0).run
abbrev qPt (n:Nat):List (Ent (Rn n)):= [en (qL2 n)]
theorem qOj:∀n,Ok (Rn n) qPs (qGW n)
 |0=>ok0 fun _=>rfl
 |n+1=>stO (T:=qJ8 n) (by kernel_rfl) (qPt n) [] (fun _=>(by kernel_rfl)) fun _=>(by kernel_rfl)
def qE0:Sg:=⟨214,[aS,aS],[],⟨aS,[],[]⟩⟩
def qCc (n:Nat) (x0 x1:BA):Tr (BA):=(.opt (qAE n x0 x1) fun r394=>(.ask (r394) (.ask (decide (0≤(x1.size:Int)∧(x1.size:Int)≤(x0.size:Int)∧(x0.size:Int)≤x0.size)) (.done (x0.extract ((x1.size:Int)).toNat ((x0.size:Int)).toNat)) .fail) (.done x0)))
def qBZ:Nat→BA→BA→Option (BA)
 |0,_,_=>none
 |n+1,x0,x1=>(qCc n x0 x1).run
abbrev qE1 (n:Nat):List (Ent (Rn n)):= [en (qCb n)]
theorem qEt:∀n,Ok (Rn n) qE0 (qBZ n)
 |0=>ok0 fun _=>rfl
 |n+1=>stO (T:=qCc n) (by kernel_rfl) (qE1 n) [] (fun _=>(by kernel_rfl)) fun _=>(by kernel_rfl)
def qK3:Sg:=⟨144,[aS,aS],[],⟨aS,[],[]⟩⟩
def qGE (n:Nat) (x0 x1:BA):Tr (BA):=(.opt (qBZ n x0 x1) fun r395=>(.done r395))
def qDw:Nat→BA→BA→Option (BA)
 |0,_,_=>none
 |n+1,x0,x1=>(qGE n x0 x1).run
abbrev qK4 (n:Nat):List (Ent (Rn n)):= [en (qEt n)]
theorem qKT:∀n,Ok (Rn n) qK3 (qDw n)
 |0=>ok0 fun _=>rfl
 |n+1=>stO (T:=qGE n) (by kernel_rfl) (qK4 n) [] (fun _=>(by kernel_rfl)) fun _=>(by kernel_rfl)
def qK5:Sg:=⟨145,[aS,aS],[],⟨aS,[],[]⟩⟩
def qDx:Nat→BA→BA→Option ((BA))
 |0,_,_=>none
 |n+1,x0,x1=>zAA x0 x1
theorem qJ9:∀n,Ok (Rn n) qK5 (qDx n)
 |0=>ok0 fun _=>rfl
 |n+1=>stL zAs (by kernel_rfl) (fun _ _=>rfl) (fun a r e=>congrArg (Option.map fun r=>(qK5.Of r).v) e) rfl rfl rfl
def qPu:Sg:=⟨74,[aS],[],⟨aB,[],[]⟩⟩
def qKA (n:Nat) (x0:BA):Tr (Bool):=(.opt (qDw n x0 (⟨#[45]⟩:BA)) fun r396=>(.ask ((!(r396.toList==(⟨#[]⟩:BA).toList))) (.opt (qDx n r396 (⟨#[48,49,50,51,52,53,54,55,56,57]⟩:BA)) fun r397=>(.done (r397.toList==(⟨#[]⟩:BA).toList))) (.done false)))
def qEf:Nat→BA→Option (Bool)
 |0,_=>none
 |n+1,x0=>(qKA n x0).run
abbrev qPv (n:Nat):List (Ent (Rn n)):= [en (qKT n),en (qJ9 n)]
theorem qOk:∀n,Ok (Rn n) qPu (qEf n)
 |0=>ok0 fun _=>rfl
 |n+1=>stO (T:=qKA n) (by kernel_rfl) (qPv n) [] (fun _=>(by kernel_rfl)) fun _=>(by kernel_rfl)
def qQ0:Sg:=⟨21,[aS],[],⟨(.tup [(false,[qS]),(false,[qB])]),[],[]⟩⟩
def qK6 (n:Nat) (x0:BA):Tr (BA×Bool):=(.opt (qC1 n x0 (200:Int)) fun r145=>(.ask ((!r145)) (.done ((⟨#[]⟩:BA),(x0.toList==(⟨#[]⟩:BA).toList))) (.ask ((x0.toList==(⟨#[]⟩:BA).toList)) (.done ((⟨#[]⟩:BA),(x0.toList==(⟨#[]⟩:BA).toList))) (.opt (qAL n x0 (⟨#[61]⟩:BA)) fun r146=>(.ask (r146.2) (.opt (qEr n r146.1) fun r349=>(.opt (qGW n r349.1) fun r390=>(.ask ((!r349.2)) (.done ((⟨#[]⟩:BA),false)) (.ask ((!r390.2)) (.done ((⟨#[]⟩:BA),false)) (.done (r390.1,true)))))) (.opt (qA6 n x0 (10:Int) (64:Int)) fun r391=>(.alt r391 (fun r392=>(.ask (true) (.opt (qEf n x0) fun r398=>(.ask (r398) (.opt (qC2 n r392) fun r399=>(.opt (qAX n r399.1 r399.2.1 r399.2.2) fun r400=>(.ask (r400) (.opt (qv n r392) fun r401=>(.done (r401,true))) (.opt (qe n x0) fun r402=>(.ask (r402.2.2.2) (.done (x0,true)) (.ask (((x0.size:Int)==(200:Int))) (.done ((⟨#[]⟩:BA),false)) (.ask (decide ((⟨#[39]⟩:BA).size+x0.size≤9223372036854775807)) (.done (((⟨#[39]⟩:BA)++x0),true)) .fail))))))) (.opt (qe n x0) fun r403=>(.ask (r403.2.2.2) (.done (x0,true)) (.ask (((x0.size:Int)==(200:Int))) (.done ((⟨#[]⟩:BA),false)) (.ask (decide ((⟨#[39]⟩:BA).size+x0.size≤9223372036854775807)) (.done (((⟨#[39]⟩:BA)++x0),true)) .fail)))))) (.opt (qe n x0) fun r404=>(.ask (r404.2.2.2) (.done (x0,true)) (.ask (((x0.size:Int)==(200:Int))) (.done ((⟨#[]⟩:BA),false)) (.ask (decide ((⟨#[39]⟩:BA).size+x0.size≤9223372036854775807)) (.done (((⟨#[39]⟩:BA)++x0),true)) .fail)))))) (fun r393=>(.ask (false) (.opt (qEf n x0) fun r405=>(.ask (r405) (.opt (qC2 n r393) fun r406=>(.opt (qAX n r406.1 r406.2.1 r406.2.2) fun r407=>(.ask (r407) (.opt (qv n r393) fun r408=>(.done (r408,true))) (.opt (qe n x0) fun r409=>(.ask (r409.2.2.2) (.done (x0,true)) (.ask (((x0.size:Int)==(200:Int))) (.done ((⟨#[]⟩:BA),false)) (.ask (decide ((⟨#[39]⟩:BA).size+x0.size≤9223372036854775807)) (.done (((⟨#[39]⟩:BA)++x0),true)) .fail))))))) (.opt (qe n x0) fun r410=>(.ask (r410.2.2.2) (.done (x0,true)) (.ask (((x0.size:Int)==(200:Int))) (.done ((⟨#[]⟩:BA),false)) (.ask (decide ((⟨#[39]⟩:BA).size+x0.size≤9223372036854775807)) (.done (((⟨#[39]⟩:BA)++x0),true)) .fail)))))) (.opt (qe n x0) fun r411=>(.ask (r411.2.2.2) (.done (x0,true)) (.ask (((x0.size:Int)==(200:Int))) (.done ((⟨#[]⟩:BA),false)) (.ask (decide ((⟨#[39]⟩:BA).size+x0.size≤9223372036854775807)) (.done (((⟨#[39]⟩:BA)++x0),true)) .fail)))))))))))))
def qHW:Nat→BA→Option (BA×Bool)
 |0,_=>none
 |n+1,x0=>(qK6 n x0).run
abbrev qQ1 (n:Nat):List (Ent (Rn n)):= [en (qHG n),en (qCn n),en (qL1 n),en (qOj n),en2 (qEO n),en (qOk n),en (qKw n),en (qGV n),en (qEe n),en (qH0 n)]
theorem qPw:∀n,Ok (Rn n) qQ0 (qHW n)
 |0=>ok0 fun _=>rfl
 |n+1=>stO (T:=qK6 n) (by kernel_rfl) (qQ1 n) [] (fun _=>(by kernel_rfl)) fun _=>(by kernel_rfl)
def qPx:Sg:=⟨81,[aS],[],⟨aB,[],[]⟩⟩
def qKB (n:Nat) (x0:BA):Tr (Bool):=(.opt (qHW n x0) fun r412=>(.ask (r412.2) (.ask ((!(x0.toList==(⟨#[]⟩:BA).toList))) (.done (r412.1.toList==x0.toList)) (.done false)) (.done false)))
def qDZ:Nat→BA→Option (Bool)
 |0,_=>none
 |n+1,x0=>(qKB n x0).run
abbrev qPy (n:Nat):List (Ent (Rn n)):= [en (qPw n)]
theorem qOl:∀n,Ok (Rn n) qPx (qDZ n)
 |0=>ok0 fun _=>rfl
 |n+1=>stO (T:=qKB n) (by kernel_rfl) (qPy n) [] (fun _=>(by kernel_rfl)) fun _=>(by kernel_rfl)
def qQ2:Sg:=⟨23,[aL],[],⟨aB,[],[]⟩⟩
def qFQ (n:Nat) (v:RW×RW×Int×Int):Tr ((RW×RW×Int×Int)⊕((Bool)⊕(RW))):=(.ask ((decide (v.2.2.2<v.2.2.1))) (.ask (decide (0≤v.2.2.2∧v.2.2.2<v.2.1.length)) (.opt (v.2.1[(v.2.2.2).toNat]?) fun e119=>(.ask (decide (e119.length=3)) (.opt (zD .i64 e119 0) fun y120=>(.opt (zD .i64 e119 1) fun y121=>(.opt (zT e119 2) fun y122=>(.opt (qB1 n y120 y121) fun r123=>(.ask ((!r123)) (.done (.inr (.inl (false)))) (.ask ((decide (v.2.2.2>(0:Int)))) (.ask (decide (0≤(IntKind.i64.wrap (v.2.2.2-(1:Int)))∧(IntKind.i64.wrap (v.2.2.2-(1:Int)))<v.1.length)) (.opt (v.1[((IntKind.i64.wrap (v.2.2.2-(1:Int)))).toNat]?) fun e124=>(.ask (decide (e124.length=3)) (.opt (zD .i64 e124 0) fun y125=>(.opt (zD .i64 e124 1) fun y126=>(.opt (qBt n y125 y126 y120 y121) fun r127=>(.ask ((decide (r127≥(0:Int)))) (.done (.inr (.inl (false)))) (.opt (qDZ n y122) fun r128=>(.ask ((!r128)) (.done (.inr (.inl (false)))) (.done (.inl (v.1,v.2.1,v.2.2.1,(IntKind.i64.wrap (v.2.2.2+(1:Int)))))))))))) .fail)) .fail) (.opt (qDZ n y122) fun r129=>(.ask ((!r129)) (.done (.inr (.inl (false)))) (.done (.inl (v.1,v.2.1,v.2.2.1,(IntKind.i64.wrap (v.2.2.2+(1:Int)))))))))))))) .fail)) .fail) (.done (.inr (.inr (v.1)))))
def qK7 (n:Nat) (x0:RW):Tr (Bool):=(.opt (zC (qFQ n) n (x0,x0,(x0.length:Int),(0:Int))) fun r130=>(.alt r130 (fun r131=>(.done r131)) (fun r132=>(.done (decide ((r132.length:Int)≤(120:Int)))))))
def qDy:Nat→RW→Option (Bool)
 |0,_=>none
 |n+1,x0=>(qK7 n x0).run
abbrev qK8 (n:Nat):List (Ent (Rn n)):= [en (qF1 n),en (qLt n),en (qOl n)]
def qNZ (n:Nat):LEnt (KB 23) (Rn n) n:=lok (zJ 23) 13 ⟨⟨[(0,aL),(5,aL),(6,aI),(7,aI)],[],[]⟩,[(.ret,⟨[(2,aB)],[],[]⟩),(.exit 0,⟨[(0,aL)],[],[]⟩)]⟩ (qFQ n) (qK8 n) [] fun _=>(by kernel_rfl)
theorem qPz:∀n,Ok (Rn n) qQ2 (qDy n)
 |0=>ok0 fun _=>rfl
 |n+1=>stO (T:=qK7 n) (by kernel_rfl) (qK8 n) [qNZ n] (fun _=>(by kernel_rfl)) fun _=>(by kernel_rfl)
def qR1:Sg:=⟨163,[aS],[],⟨aB,[],[]⟩⟩
def qIY (n:Nat) (x0:BA):Tr (Bool):=(.ask ((decide ((x0.size:Int)≥(1:Int)))) (.ask ((decide ((x0.size:Int)≤(12:Int)))) (.opt (qDx n x0 (⟨#[97,98,99,100,101,102,103,104,105,106,107,108,109,110,111,112,113,114,115,116,117,118,119,120,121,122]⟩:BA)) fun r120=>(.done (r120.toList==(⟨#[]⟩:BA).toList))) (.done false)) (.done false))
def qF2:Nat→BA→Option (Bool)
 |0,_=>none
 |n+1,x0=>(qIY n x0).run
abbrev qR2 (n:Nat):List (Ent (Rn n)):= [en (qJ9 n)]
theorem qQ3:∀n,Ok (Rn n) qR1 (qF2 n)
 |0=>ok0 fun _=>rfl
 |n+1=>stO (T:=qIY n) (by kernel_rfl) (qR2 n) [] (fun _=>(by kernel_rfl)) fun _=>(by kernel_rfl)
def qS8:Sg:=⟨92,[(.agg [qI,qL,qL])],[],⟨aB,[],[]⟩⟩
def qEg (n:Nat) (v:RW×Int×Int×Int×RW×RW):Tr ((RW×Int×Int×Int×RW×RW)⊕((Bool)⊕(Int×RW×RW))):=(.ask ((decide (v.2.2.1<v.2.1))) (.ask (decide (0≤v.2.2.1∧v.2.2.1<v.1.length)) (.opt (v.1[(v.2.2.1).toNat]?) fun e103=>(.ask (decide (e103.length=3)) (.opt (zD .i64 e103 0) fun y104=>(.opt (zg e103 1) fun y105=>(.opt (zg e103 2) fun y106=>(.opt (q8 n y104 (1:Int) (IntKind.i64.wrap (v.2.2.2.1-(1:Int)))) fun r107=>(.ask ((!r107)) (.done (.inr (.inl (false)))) (.ask ((decide (v.2.2.1>(0:Int)))) (.ask (decide (0≤(IntKind.i64.wrap (v.2.2.1-(1:Int)))∧(IntKind.i64.wrap (v.2.2.1-(1:Int)))<v.2.2.2.2.1.length)) (.opt (v.2.2.2.2.1[((IntKind.i64.wrap (v.2.2.1-(1:Int)))).toNat]?) fun e108=>(.ask (decide (e108.length=3)) (.opt (zD .i64 e108 0) fun y109=>(.ask ((decide (y109≥y104))) (.done (.inr (.inl (false)))) (.opt (qDI n v.2.2.2.1 v.2.2.2.2.1 v.2.2.2.2.2 y105 y104) fun r110=>(.ask ((!r110)) (.done (.inr (.inl (false)))) (.opt (qDy n y106) fun r111=>(.ask ((!r111)) (.done (.inr (.inl (false)))) (.done (.inl (v.1,v.2.1,(IntKind.i64.wrap (v.2.2.1+(1:Int))),v.2.2.2.1,v.2.2.2.2.1,v.2.2.2.2.2))))))))) .fail)) .fail) (.opt (qDI n v.2.2.2.1 v.2.2.2.2.1 v.2.2.2.2.2 y105 y104) fun r112=>(.ask ((!r112)) (.done (.inr (.inl (false)))) (.opt (qDy n y106) fun r113=>(.ask ((!r113)) (.done (.inr (.inl (false)))) (.done (.inl (v.1,v.2.1,(IntKind.i64.wrap (v.2.2.1+(1:Int))),v.2.2.2.1,v.2.2.2.2.1,v.2.2.2.2.2))))))))))))) .fail)) .fail) (.done (.inr (.inr ((v.2.2.2.1,v.2.2.2.2.1,v.2.2.2.2.2))))))
def qEh (n:Nat) (v:RW×Int×Int×Int×RW×RW):Tr ((RW×Int×Int×Int×RW×RW)⊕((Bool)⊕(Unit))):=(.ask ((decide (v.2.2.1<v.2.1))) (.ask (decide (0≤v.2.2.1∧v.2.2.1<v.1.length)) (.opt (v.1[(v.2.2.1).toNat]?) fun e117=>(.ask (decide (e117.length=2)) (.opt (zT e117 0) fun y118=>(.opt (zD .i64 e117 1) fun y119=>(.opt (qF2 n y118) fun r120=>(.ask ((!r120)) (.done (.inr (.inl (false)))) (.ask ((decide (v.2.2.1>(0:Int)))) (.ask (decide (0≤(IntKind.i64.wrap (v.2.2.1-(1:Int)))∧(IntKind.i64.wrap (v.2.2.1-(1:Int)))<v.2.2.2.2.2.length)) (.opt (v.2.2.2.2.2[((IntKind.i64.wrap (v.2.2.1-(1:Int)))).toNat]?) fun e121=>(.ask (decide (e121.length=2)) (.opt (zT e121 0) fun y122=>(.ask ((!(Op.bytesLess y122.toList y118.toList))) (.done (.inr (.inl (false)))) (.opt (qBS n v.2.2.2.1 v.2.2.2.2.1 v.2.2.2.2.2 y119) fun r123=>(.ask ((decide (r123<(0:Int)))) (.done (.inr (.inl (false)))) (.done (.inl (v.1,v.2.1,(IntKind.i64.wrap (v.2.2.1+(1:Int))),v.2.2.2.1,v.2.2.2.2.1,v.2.2.2.2.2))))))) .fail)) .fail) (.opt (qBS n v.2.2.2.1 v.2.2.2.2.1 v.2.2.2.2.2 y119) fun r124=>(.ask ((decide (r124<(0:Int)))) (.done (.inr (.inl (false)))) (.done (.inl (v.1,v.2.1,(IntKind.i64.wrap (v.2.2.1+(1:Int))),v.2.2.2.1,v.2.2.2.2.1,v.2.2.2.2.2)))))))))) .fail)) .fail) (.done (.inr (.inr (())))))
def qJc (n:Nat) (x0:Int) (x1 x2:RW):Tr (Bool):=(.opt (q8 n x0 (2:Int) (1000000000:Int)) fun r100=>(.ask ((!r100)) (.done false) (.opt (q8 n (x1.length:Int) (1:Int) (40:Int)) fun r101=>(.ask ((!r101)) (.done false) (.opt (q8 n (x2.length:Int) (1:Int) (8:Int)) fun r102=>(.ask ((!r102)) (.done false) (.opt (zC (qEg n) n (x1,(x1.length:Int),(0:Int),x0,x1,x2)) fun r114=>(.alt r114 (fun r115=>(.done r115)) (fun r116=>(.opt (zC (qEh n) n (r116.2.2,(r116.2.2.length:Int),(0:Int),r116.1,r116.2.1,r116.2.2)) fun r125=>(.alt r125 (fun r126=>(.done r126)) (fun r127=>(.done true)))))))))))))
def qJd:Nat→Int→RW→RW→Option (Bool)
 |0,_,_,_=>none
 |n+1,x0,x1,x2=>(qJc n x0 x1 x2).run
abbrev qJe (n:Nat):List (Ent (Rn n)):= [en (qDH n),en (qNU n),en (qPz n),en (qQ3 n),en (qGc n)]
def qP0 (n:Nat):LEnt (KB 92) (Rn n) n:=lok (zJ 92) 29 ⟨⟨[(1,(.c (.ptr 0 64 0 0 0))),(26,aL),(27,aI),(28,aI)],[(64,⟨0,3,59,(.box [qI,qL,qL])⟩)],[]⟩,[(.ret,⟨[(2,aB)],[],[]⟩),(.exit 0,⟨[(1,(.c (.ptr 0 64 0 0 0)))],[(64,⟨0,3,59,(.box [qI,qL,qL])⟩)],[]⟩)]⟩ (qEg n) (qJe n) [] fun _=>(by kernel_rfl)
def qP1 (n:Nat):LEnt (KB 92) (Rn n) n:=lok (zJ 92) 61 ⟨⟨[(1,(.c (.ptr 0 64 0 0 0))),(73,aL),(74,aI),(75,aI)],[(64,⟨0,3,59,(.box [qI,qL,qL])⟩)],[]⟩,[(.ret,⟨[(2,aB)],[],[]⟩),(.exit 2,⟨[],[],[]⟩)]⟩ (qEh n) (qJe n) [] fun _=>(by kernel_rfl)
theorem qR3:∀n,Ok (Rn n) qS8 (qJd n)
 |0=>ok0 fun _=>rfl
 |n+1=>stO (T:=qJc n) (by kernel_rfl) (qJe n) [qP0 n,qP1 n] (fun _=>(by kernel_rfl)) fun _=>(by kernel_rfl)
def qAS:Sg:=⟨165,[(.c (.ptr 0 0 0 0 0)),aS],[[(0,⟨0,2,197,(.box [(.ptr 0 0 0 0 1000003),(.own 0 1 1 0)])⟩),(1,⟨1,1,5,(.row [])⟩)]],⟨(.tup [(false,[qI]),(false,[(.p .nif)])]),[[(0,⟨0,2,197,(.box [(.ptr 0 0 0 0 1000003),(.own 0 1 2 0)])⟩),(1,⟨2,1,5,(.row [])⟩)]],[]⟩⟩
def qc:Nat→BA→Nat→RW→Option ((Int×Nat×RW))
 |0,_,_,_=>none
 |n+1,x0,x1,x2=>zO x0 x1 x2
theorem qFo:∀n,Ok (Rn n) qAS (qc n)
 |0=>ok0 fun _=>rfl
 |n+1=>stN (by kernel_rfl) fun a r e=>(show lib 165 (qAS.Af a) (qAS.Uf a)=Option.map (fun r=>qAS.Of r) (unc qAS.ks (qc (n+1)) a) from (by kernel_rfl)).trans (congrArg (Option.map fun r=>qAS.Of r) e)
def qQ4:Sg:=⟨166,[(.agg [qI,qI])],[],⟨aS,[],[]⟩⟩
def qHX (n:Nat) (x0 x1:Int):Tr (BA):=(.opt (qAz n x0 x1 false false) fun r153=>(.done r153))
def qDM:Nat→Int→Int→Option (BA)
 |0,_,_=>none
 |n+1,x0,x1=>(qHX n x0 x1).run
abbrev qQ5 (n:Nat):List (Ent (Rn n)):= [en (qFN n)]
theorem qP2:∀n,Ok (Rn n) qQ4 (qDM n)
 |0=>ok0 fun _=>rfl
 |n+1=>stO (T:=qHX n) (by kernel_rfl) (qQ5 n) [] (fun _=>(by kernel_rfl)) fun _=>(by kernel_rfl)
def qA0:Sg:=⟨167,[(.c (.ptr 0 0 0 0 0))],[[(0,⟨0,2,197,(.box [(.ptr 0 0 0 0 1000003),(.own 0 1 1 0)])⟩),(1,⟨1,1,5,(.row [])⟩)]],⟨aS,[[(0,⟨0,2,197,(.box [(.p .op),(.p .op)])⟩),(1,⟨2,1,5,(.row [])⟩)]],[]⟩⟩
def qBJ:Nat→Nat→RW→Option ((BA×RW))
 |0,_,_=>none
 |n+1,x0,x1=>zY x0 x1
theorem qHm:∀n,Ok (Rn n) qA0 (qBJ n)
 |0=>ok0 fun _=>rfl
 |n+1=>stN (by kernel_rfl) fun a r e=>(show lib 167 (qA0.Af a) (qA0.Uf a)=Option.map (fun r=>qA0.Of r) (unc qA0.ks (qBJ (n+1)) a) from (by kernel_rfl)).trans (congrArg (Option.map fun r=>qA0.Of r) e)
def qQ6:Sg:=⟨93,[(.agg [qI,qL,qL])],[],⟨aS,[],[]⟩⟩
def qDj (n:Nat) (v:RW×Int×Int×Int×RW×RW×Nat×RW):Tr ((RW×Int×Int×Int×RW×RW×Nat×RW)⊕((Int×RW×RW×Nat×RW))):=(.ask ((decide (v.2.2.1<v.2.1))) (.ask (decide (0≤v.2.2.1∧v.2.2.1<v.1.length)) (.opt (v.1[(v.2.2.1).toNat]?) fun e131=>(.ask (decide (e131.length=2)) (.opt (zT e131 0) fun y132=>(.opt (zD .i64 e131 1) fun y133=>(.ask (decide ((⟨#[98,114,97,110,99,104,32]⟩:BA).size+y132.size≤9223372036854775807)) (.ask (decide (((⟨#[98,114,97,110,99,104,32]⟩:BA)++y132).size+(⟨#[32]⟩:BA).size≤9223372036854775807)) (.opt (qv n y133) fun r134=>(.ask (decide ((((⟨#[98,114,97,110,99,104,32]⟩:BA)++y132)++(⟨#[32]⟩:BA)).size+r134.size≤9223372036854775807)) (.ask (decide (((((⟨#[98,114,97,110,99,104,32]⟩:BA)++y132)++(⟨#[32]⟩:BA))++r134).size+(⟨#[10]⟩:BA).size≤9223372036854775807)) (.opt (qc n (((((⟨#[98,114,97,110,99,104,32]⟩:BA)++y132)++(⟨#[32]⟩:BA))++r134)++(⟨#[10]⟩:BA)) v.2.2.2.2.2.2.1 v.2.2.2.2.2.2.2) fun r135=>(.done (.inl (v.1,v.2.1,(IntKind.i64.wrap (v.2.2.1+(1:Int))),v.2.2.2.1,v.2.2.2.2.1,v.2.2.2.2.2.1,r135.2.1,r135.2.2)))) .fail) .fail)) .fail) .fail))) .fail)) .fail) (.done (.inr ((v.2.2.2.1,v.2.2.2.2.1,v.2.2.2.2.2.1,v.2.2.2.2.2.2.1,v.2.2.2.2.2.2.2)))))
def qCs (n:Nat) (v:RW×Int×Int×RW×Int×Int×Nat×Int×RW×RW×RW):Tr ((RW×Int×Int×RW×Int×Int×Nat×Int×RW×RW×RW)⊕((RW×Int×Int×Nat×Int×RW×RW×RW))):=(.ask ((decide (v.2.2.2.2.2.1<v.2.2.2.2.1))) (.ask (decide (0≤v.2.2.2.2.2.1∧v.2.2.2.2.2.1<v.2.2.2.1.length)) (.opt (v.2.2.2.1[(v.2.2.2.2.2.1).toNat]?) fun e143=>(.ask (decide (e143.length=1)) (.opt (zD .i64 e143 0) fun y144=>(.opt (qv n y144) fun r145=>(.ask (decide ((⟨#[32]⟩:BA).size+r145.size≤9223372036854775807)) (.opt (qc n ((⟨#[32]⟩:BA)++r145) v.2.2.2.2.2.2.1 v.2.2.2.2.2.2.2.2.2.2) fun r146=>(.done (.inl (v.1,v.2.1,v.2.2.1,v.2.2.2.1,v.2.2.2.2.1,(IntKind.i64.wrap (v.2.2.2.2.2.1+(1:Int))),r146.2.1,v.2.2.2.2.2.2.2.1,v.2.2.2.2.2.2.2.2.1,v.2.2.2.2.2.2.2.2.2.1,r146.2.2)))) .fail))) .fail)) .fail) (.done (.inr ((v.1,v.2.1,v.2.2.1,v.2.2.2.2.2.2.1,v.2.2.2.2.2.2.2.1,v.2.2.2.2.2.2.2.2.1,v.2.2.2.2.2.2.2.2.2.1,v.2.2.2.2.2.2.2.2.2.2)))))
def qCt (n:Nat) (v:RW×Int×Int×RW×Int×Int×Nat×RW):Tr ((RW×Int×Int×RW×Int×Int×Nat×RW)⊕((RW×Int×Int×Nat×RW))):=(.ask ((decide (v.2.2.2.2.2.1<v.2.2.2.2.1))) (.ask (decide (0≤v.2.2.2.2.2.1∧v.2.2.2.2.2.1<v.2.2.2.1.length)) (.opt (v.2.2.2.1[(v.2.2.2.2.2.1).toNat]?) fun e149=>(.ask (decide (e149.length=3)) (.opt (zD .i64 e149 0) fun y150=>(.opt (zD .i64 e149 1) fun y151=>(.opt (zT e149 2) fun y152=>(.opt (qDM n y150 y151) fun r153=>(.ask (decide (r153.size+(⟨#[32]⟩:BA).size≤9223372036854775807)) (.ask (decide ((r153++(⟨#[32]⟩:BA)).size+y152.size≤9223372036854775807)) (.ask (decide (((r153++(⟨#[32]⟩:BA))++y152).size+(⟨#[10]⟩:BA).size≤9223372036854775807)) (.opt (qc n (((r153++(⟨#[32]⟩:BA))++y152)++(⟨#[10]⟩:BA)) v.2.2.2.2.2.2.1 v.2.2.2.2.2.2.2) fun r154=>(.done (.inl (v.1,v.2.1,v.2.2.1,v.2.2.2.1,v.2.2.2.2.1,(IntKind.i64.wrap (v.2.2.2.2.2.1+(1:Int))),r154.2.1,r154.2.2)))) .fail) .fail) .fail))))) .fail)) .fail) (.done (.inr ((v.1,v.2.1,v.2.2.1,v.2.2.2.2.2.2.1,v.2.2.2.2.2.2.2)))))
def qDV (n:Nat) (v:RW×Int×Int×Nat×RW):Tr ((RW×Int×Int×Nat×RW)⊕((Nat×RW))):=(.ask ((decide (v.2.2.1<v.2.1))) (.ask (decide (0≤v.2.2.1∧v.2.2.1<v.1.length)) (.opt (v.1[(v.2.2.1).toNat]?) fun e137=>(.ask (decide (e137.length=3)) (.opt (zD .i64 e137 0) fun y138=>(.opt (zg e137 1) fun y139=>(.opt (zg e137 2) fun y140=>(.opt (qv n y138) fun r141=>(.ask (decide ((⟨#[118,101,114,115,105,111,110,32]⟩:BA).size+r141.size≤9223372036854775807)) (.opt (qc n ((⟨#[118,101,114,115,105,111,110,32]⟩:BA)++r141) v.2.2.2.1 v.2.2.2.2) fun r142=>(.opt (zC (qCs n) n (v.1,v.2.1,v.2.2.1,y139,(y139.length:Int),(0:Int),r142.2.1,y138,y139,y140,r142.2.2)) fun r147=>(.opt (qc n (⟨#[10]⟩:BA) r147.2.2.2.1 r147.2.2.2.2.2.2.2) fun r148=>(.opt (zC (qCt n) n (r147.1,r147.2.1,r147.2.2.1,r147.2.2.2.2.2.2.1,(r147.2.2.2.2.2.2.1.length:Int),(0:Int),r148.2.1,r148.2.2)) fun r155=>(.done (.inl (r155.1,r155.2.1,(IntKind.i64.wrap (r155.2.2.1+(1:Int))),r155.2.2.2.1,r155.2.2.2.2))))))) .fail))))) .fail)) .fail) (.done (.inr ((v.2.2.2.1,v.2.2.2.2)))))
def qK9 (n:Nat) (x0:Int) (x1 x2:RW):Tr (BA):=(.opt (qv n x0) fun r129=>(.ask (decide ((⟨#[100,97,103,32]⟩:BA).size+r129.size≤9223372036854775807)) (.ask (decide (((⟨#[100,97,103,32]⟩:BA)++r129).size+(⟨#[10]⟩:BA).size≤9223372036854775807)) (.opt (qc n (((⟨#[100,97,103,32]⟩:BA)++r129)++(⟨#[10]⟩:BA)) (0:Nat) ([]:RW)) fun r130=>(.opt (zC (qDj n) n (x2,(x2.length:Int),(0:Int),x0,x1,x2,r130.2.1,r130.2.2)) fun r136=>(.opt (zC (qDV n) n (r136.2.1,(r136.2.1.length:Int),(0:Int),r136.2.2.2.1,r136.2.2.2.2)) fun r156=>(.opt (qBJ n r156.1 r156.2) fun r157=>(.done r157.1))))) .fail) .fail))
def qHY:Nat→Int→RW→RW→Option (BA)
 |0,_,_,_=>none
 |n+1,x0,x1,x2=>(qK9 n x0 x1 x2).run
abbrev qDz (n:Nat):List (Ent (Rn n)):= [en (qEe n),en (qFo n),en (qP2 n),en (qHm n)]
def qNa (n:Nat):LEnt (KB 93) (Rn n) n:=lok (zJ 93) 61 ⟨⟨[(1,(.c (.ptr 0 64 0 0 0))),(3,(.c (.ptr 0 192 0 0 0))),(20,aL),(21,aI),(22,aI)],[(64,⟨0,3,59,(.box [qI,qL,qL])⟩),(192,⟨0,2,197,(.box [(.ptr 0 192 0 0 1000003),(.own 0 193 0 0)])⟩),(193,⟨0,1,5,(.row [])⟩)],[]⟩,[(.exit 0,⟨[(1,(.c (.ptr 0 64 0 0 0))),(3,(.c (.ptr 0 192 0 0 0)))],[(64,⟨0,3,59,(.box [qI,qL,qL])⟩),(192,⟨0,2,197,(.box [(.ptr 0 192 0 0 1000003),(.own 0 193 0 0)])⟩),(193,⟨0,1,5,(.row [])⟩)],[]⟩)]⟩ (qDj n) (qDz n) [] fun _=>(by kernel_rfl)
def qLA (n:Nat):LEnt (lb 125 (KB 93)) (Rn n) n:=lok (Uniq.pick (zJ 93) 125) 16109 ⟨⟨[(3,(.c (.ptr 0 192 0 0 0))),(7,(.c (.ptr 0 448 0 0 0))),(38,aL),(39,aI),(40,aI),(50,aL),(51,aI),(52,aI)],[(192,⟨0,2,197,(.box [(.ptr 0 192 0 0 1000003),(.own 0 193 0 0)])⟩),(448,⟨0,3,124,(.box [qI,qL,qL])⟩),(193,⟨0,1,5,(.row [])⟩)],[]⟩,[(.exit 4,⟨[(3,(.c (.ptr 0 192 0 0 0))),(7,(.c (.ptr 0 448 0 0 0))),(38,aL),(39,aI),(40,aI)],[(192,⟨0,2,197,(.box [(.ptr 0 192 0 0 1000003),(.own 0 193 0 0)])⟩),(448,⟨0,3,124,(.box [qI,qL,qL])⟩),(193,⟨0,1,5,(.row [])⟩)],[]⟩)]⟩ (qCs n) (qDz n) [] fun _=>(by kernel_rfl)
def qLB (n:Nat):LEnt (lb 125 (KB 93)) (Rn n) n:=lok (Uniq.pick (zJ 93) 125) 32223 ⟨⟨[(3,(.c (.ptr 0 192 0 0 0))),(38,aL),(39,aI),(40,aI),(63,aL),(64,aI),(65,aI)],[(192,⟨0,2,197,(.box [(.ptr 0 192 0 0 1000003),(.own 0 193 0 0)])⟩),(193,⟨0,1,5,(.row [])⟩)],[]⟩,[(.exit 6,⟨[(3,(.c (.ptr 0 192 0 0 0))),(38,aL),(39,aI),(40,aI)],[(192,⟨0,2,197,(.box [(.ptr 0 192 0 0 1000003),(.own 0 193 0 0)])⟩),(193,⟨0,1,5,(.row [])⟩)],[]⟩)]⟩ (qCt n) (qDz n) [] fun _=>(by kernel_rfl)
def qMw (n:Nat):LEnt (KB 93) (Rn n) n:=lok (zJ 93) 125 ⟨⟨[(3,(.c (.ptr 0 192 0 0 0))),(38,aL),(39,aI),(40,aI)],[(192,⟨0,2,197,(.box [(.ptr 0 192 0 0 1000003),(.own 0 193 0 0)])⟩),(193,⟨0,1,5,(.row [])⟩)],[]⟩,[(.exit 2,⟨[(3,(.c (.ptr 0 192 0 0 0)))],[(192,⟨0,2,197,(.box [(.ptr 0 192 0 0 1000003),(.own 0 193 0 0)])⟩),(193,⟨0,1,5,(.row [])⟩)],[]⟩)]⟩ (qDV n) (qDz n) [qLA n,qLB n] fun _=>(by kernel_rfl)
theorem qP3:∀n,Ok (Rn n) qQ6 (qHY n)
 |0=>ok0 fun _=>rfl
 |n+1=>stO (T:=qK9 n) (by kernel_rfl) (qDz n) [qNa n,qMw n] (fun _=>(by kernel_rfl)) fun _=>(by kernel_rfl)
def qQ7:Sg:=⟨32,[(.agg [qI,qL,qL])],[],⟨aS,[],[]⟩⟩
def qHZ (n:Nat) (x0:Int) (x1 x2:RW):Tr (BA):=(.opt (qJd n x0 x1 x2) fun r128=>(.ask ((!r128)) (.done (⟨#[]⟩:BA)) (.opt (qHY n x0 x1 x2) fun r158=>(.done r158))))
def qHa:Nat→Int→RW→RW→Option (BA)
 |0,_,_,_=>none
 |n+1,x0,x1,x2=>(qHZ n x0 x1 x2).run
abbrev qQ8 (n:Nat):List (Ent (Rn n)):= [en (qR3 n),en (qP3 n)]
theorem qP4:∀n,Ok (Rn n) qQ7 (qHa n)
 |0=>ok0 fun _=>rfl
 |n+1=>stO (T:=qHZ n) (by kernel_rfl) (qQ8 n) [] (fun _=>(by kernel_rfl)) fun _=>(by kernel_rfl)
def qP5:Sg:=⟨232,[aL,aL],[],⟨aB,[],[]⟩⟩
def qCW (n:Nat) (v:RW×RW×Int):Tr ((RW×RW×Int)⊕((Bool)⊕(Unit))):=(.ask ((decide (v.2.2<(v.1.length:Int)))) (.ask (decide (0≤v.2.2∧v.2.2<v.1.length)) (.opt (v.1[(v.2.2).toNat]?) fun e169=>(.ask (decide (e169.length=1)) (.opt (zD .i64 e169 0) fun y170=>(.ask (decide (0≤v.2.2∧v.2.2<v.2.1.length)) (.opt (v.2.1[(v.2.2).toNat]?) fun e171=>(.ask (decide (e171.length=1)) (.opt (zD .i64 e171 0) fun y172=>(.ask ((y170 !=y172)) (.done (.inr (.inl (false)))) (.done (.inl (v.1,v.2.1,(IntKind.i64.wrap (v.2.2+(1:Int)))))))) .fail)) .fail)) .fail)) .fail) (.done (.inr (.inr (())))))
def qGX (n:Nat) (x0 x1:RW):Tr (Bool):=(.ask (((x0.length:Int) !=(x1.length:Int))) (.done false) (.opt (zC (qCW n) n (x0,x1,(0:Int))) fun r173=>(.alt r173 (fun r174=>(.done r174)) (fun r175=>(.done true)))))
def qEi:Nat→RW→RW→Option (Bool)
 |0,_,_=>none
 |n+1,x0,x1=>(qGX n x0 x1).run
def qMx (n:Nat):LEnt (KB 232) (Rn n) n:=lok (zJ 232) 29 ⟨⟨[(0,aL),(1,aL),(5,aI)],[],[]⟩,[(.ret,⟨[(4,aB)],[],[]⟩),(.exit 0,⟨[],[],[]⟩)]⟩ (qCW n) [] [] fun _=>(by kernel_rfl)
theorem qOm:∀n,Ok (Rn n) qP5 (qEi n)
 |0=>ok0 fun _=>rfl
 |n+1=>stO (T:=qGX n) (by kernel_rfl) [] [qMx n] (fun _=>(by kernel_rfl)) fun _=>(by kernel_rfl)
def qS9:Sg:=⟨134,[(.agg [qI,qI]),(.agg [qI,qI])],[],⟨aB,[],[]⟩⟩
def qJf (n:Nat) (x0 x1 x2 x3:Int):Tr (Bool):=(.ask ((x0 !=x2)) (.done false) (.ask ((x1 !=x3)) (.done false) (.done true)))
def qJg:Nat→Int→Int→Int→Int→Option (Bool)
 |0,_,_,_,_=>none
 |n+1,x0,x1,x2,x3=>(qJf n x0 x1 x2 x3).run
theorem qR4:∀n,Ok (Rn n) qS9 (qJg n)
 |0=>ok0 fun _=>rfl
 |n+1=>stO (T:=qJf n) (by kernel_rfl) [] [] (fun _=>(by kernel_rfl)) fun _=>(by kernel_rfl)
def qR5:Sg:=⟨61,[(.agg [qI,qI,qS]),(.agg [qI,qI,qS])],[],⟨aB,[],[]⟩⟩
def qIZ (n:Nat) (x0 x1:Int) (x2:BA) (x3 x4:Int) (x5:BA):Tr (Bool):=(.opt (qJg n x0 x1 x3 x4) fun r185=>(.ask ((!r185)) (.done false) (.ask ((!(x2.toList==x5.toList))) (.done false) (.done true))))
def qF3:Nat→Int→Int→BA→Int→Int→BA→Option (Bool)
 |0,_,_,_,_,_,_=>none
 |n+1,x0,x1,x2,x3,x4,x5=>(qIZ n x0 x1 x2 x3 x4 x5).run
abbrev qR6 (n:Nat):List (Ent (Rn n)):= [en (qR4 n)]
theorem qQ9:∀n,Ok (Rn n) qR5 (qF3 n)
 |0=>ok0 fun _=>rfl
 |n+1=>stO (T:=qIZ n) (by kernel_rfl) (qR6 n) [] (fun _=>(by kernel_rfl)) fun _=>(by kernel_rfl)
def qRA:Sg:=⟨15,[aL,aL],[],⟨aB,[],[]⟩⟩
def qCu (n:Nat) (v:RW×RW×Int):Tr ((RW×RW×Int)⊕((Bool)⊕(Unit))):=(.ask ((decide (v.2.2<(v.1.length:Int)))) (.ask (decide (0≤v.2.2∧v.2.2<v.1.length)) (.opt (v.1[(v.2.2).toNat]?) fun e177=>(.ask (decide (e177.length=3)) (.opt (zD .i64 e177 0) fun y178=>(.opt (zD .i64 e177 1) fun y179=>(.opt (zT e177 2) fun y180=>(.ask (decide (0≤v.2.2∧v.2.2<v.2.1.length)) (.opt (v.2.1[(v.2.2).toNat]?) fun e181=>(.ask (decide (e181.length=3)) (.opt (zD .i64 e181 0) fun y182=>(.opt (zD .i64 e181 1) fun y183=>(.opt (zT e181 2) fun y184=>(.opt (qF3 n y178 y179 y180 y182 y183 y184) fun r185=>(.ask ((!r185)) (.done (.inr (.inl (false)))) (.done (.inl (v.1,v.2.1,(IntKind.i64.wrap (v.2.2+(1:Int))))))))))) .fail)) .fail)))) .fail)) .fail) (.done (.inr (.inr (())))))
def qHb (n:Nat) (x0 x1:RW):Tr (Bool):=(.ask (((x0.length:Int) !=(x1.length:Int))) (.done false) (.opt (zC (qCu n) n (x0,x1,(0:Int))) fun r186=>(.alt r186 (fun r187=>(.done r187)) (fun r188=>(.done true)))))
def qFR:Nat→RW→RW→Option (Bool)
 |0,_,_=>none
 |n+1,x0,x1=>(qHb n x0 x1).run
abbrev qLC (n:Nat):List (Ent (Rn n)):= [en (qQ9 n)]
def qNb (n:Nat):LEnt (KB 15) (Rn n) n:=lok (zJ 15) 29 ⟨⟨[(0,aL),(1,aL),(5,aI)],[],[]⟩,[(.ret,⟨[(4,aB)],[],[]⟩),(.exit 0,⟨[],[],[]⟩)]⟩ (qCu n) (qLC n) [] fun _=>(by kernel_rfl)
theorem qP6:∀n,Ok (Rn n) qRA (qFR n)
 |0=>ok0 fun _=>rfl
 |n+1=>stO (T:=qHb n) (by kernel_rfl) (qLC n) [qNb n] (fun _=>(by kernel_rfl)) fun _=>(by kernel_rfl)
def qOn:Sg:=⟨168,[(.agg [qI,qL,qL]),(.agg [qI,qL,qL])],[],⟨aB,[],[]⟩⟩
def qFp (n:Nat) (x0:Int) (x1 x2:RW) (x3:Int) (x4 x5:RW):Tr (Bool):=(.ask ((x0 !=x3)) (.done false) (.opt (qEi n x1 x4) fun r176=>(.ask ((!r176)) (.done false) (.opt (qFR n x2 x5) fun r189=>(.ask ((!r189)) (.done false) (.done true))))))
def qEB:Nat→Int→RW→RW→Int→RW→RW→Option (Bool)
 |0,_,_,_,_,_,_=>none
 |n+1,x0,x1,x2,x3,x4,x5=>(qFp n x0 x1 x2 x3 x4 x5).run
abbrev qOo (n:Nat):List (Ent (Rn n)):= [en (qOm n),en (qP6 n)]
theorem qNc:∀n,Ok (Rn n) qOn (qEB n)
 |0=>ok0 fun _=>rfl
 |n+1=>stO (T:=qFp n) (by kernel_rfl) (qOo n) [] (fun _=>(by kernel_rfl)) fun _=>(by kernel_rfl)
def qNd:Sg:=⟨94,[aL,aL],[],⟨aB,[],[]⟩⟩
def qB7 (n:Nat) (v:RW×RW×Int):Tr ((RW×RW×Int)⊕((Bool)⊕(Unit))):=(.ask ((decide (v.2.2<(v.1.length:Int)))) (.ask (decide (0≤v.2.2∧v.2.2<v.1.length)) (.opt (v.1[(v.2.2).toNat]?) fun e161=>(.ask (decide (e161.length=3)) (.opt (zD .i64 e161 0) fun y162=>(.opt (zg e161 1) fun y163=>(.opt (zg e161 2) fun y164=>(.ask (decide (0≤v.2.2∧v.2.2<v.2.1.length)) (.opt (v.2.1[(v.2.2).toNat]?) fun e165=>(.ask (decide (e165.length=3)) (.opt (zD .i64 e165 0) fun y166=>(.opt (zg e165 1) fun y167=>(.opt (zg e165 2) fun y168=>(.opt (qEB n y162 y163 y164 y166 y167 y168) fun r169=>(.ask ((!r169)) (.done (.inr (.inl (false)))) (.done (.inl (v.1,v.2.1,(IntKind.i64.wrap (v.2.2+(1:Int))))))))))) .fail)) .fail)))) .fail)) .fail) (.done (.inr (.inr (())))))
def qFS (n:Nat) (x0 x1:RW):Tr (Bool):=(.ask (((x0.length:Int) !=(x1.length:Int))) (.done false) (.opt (zC (qB7 n) n (x0,x1,(0:Int))) fun r170=>(.alt r170 (fun r171=>(.done r171)) (fun r172=>(.done true)))))
def qDk:Nat→RW→RW→Option (Bool)
 |0,_,_=>none
 |n+1,x0,x1=>(qFS n x0 x1).run
abbrev qH3 (n:Nat):List (Ent (Rn n)):= [en (qNc n)]
def qLD (n:Nat):LEnt (KB 94) (Rn n) n:=lok (zJ 94) 29 ⟨⟨[(0,aL),(1,aL),(5,aI)],[],[]⟩,[(.ret,⟨[(4,aB)],[],[]⟩),(.exit 0,⟨[],[],[]⟩)]⟩ (qB7 n) (qH3 n) [] fun _=>(by kernel_rfl)
theorem qMy:∀n,Ok (Rn n) qNd (qDk n)
 |0=>ok0 fun _=>rfl
 |n+1=>stO (T:=qFS n) (by kernel_rfl) (qH3 n) [qLD n] (fun _=>(by kernel_rfl)) fun _=>(by kernel_rfl)
def qP7:Sg:=⟨169,[(.agg [qS,qI]),(.agg [qS,qI])],[],⟨aB,[],[]⟩⟩
def qGY (n:Nat) (x0:BA) (x1:Int) (x2:BA) (x3:Int):Tr (Bool):=(.ask ((!(x0.toList==x2.toList))) (.done false) (.ask ((x1 !=x3)) (.done false) (.done true)))
def qEj:Nat→BA→Int→BA→Int→Option (Bool)
 |0,_,_,_,_=>none
 |n+1,x0,x1,x2,x3=>(qGY n x0 x1 x2 x3).run
theorem qOp:∀n,Ok (Rn n) qP7 (qEj n)
 |0=>ok0 fun _=>rfl
 |n+1=>stO (T:=qGY n) (by kernel_rfl) [] [] (fun _=>(by kernel_rfl)) fun _=>(by kernel_rfl)
def qOq:Sg:=⟨95,[aL,aL],[],⟨aB,[],[]⟩⟩
def qCH (n:Nat) (v:RW×RW×Int):Tr ((RW×RW×Int)⊕((Bool)⊕(Unit))):=(.ask ((decide (v.2.2<(v.1.length:Int)))) (.ask (decide (0≤v.2.2∧v.2.2<v.1.length)) (.opt (v.1[(v.2.2).toNat]?) fun e174=>(.ask (decide (e174.length=2)) (.opt (zT e174 0) fun y175=>(.opt (zD .i64 e174 1) fun y176=>(.ask (decide (0≤v.2.2∧v.2.2<v.2.1.length)) (.opt (v.2.1[(v.2.2).toNat]?) fun e177=>(.ask (decide (e177.length=2)) (.opt (zT e177 0) fun y178=>(.opt (zD .i64 e177 1) fun y179=>(.opt (qEj n y175 y176 y178 y179) fun r180=>(.ask ((!r180)) (.done (.inr (.inl (false)))) (.done (.inl (v.1,v.2.1,(IntKind.i64.wrap (v.2.2+(1:Int)))))))))) .fail)) .fail))) .fail)) .fail) (.done (.inr (.inr (())))))
def qFq (n:Nat) (x0 x1:RW):Tr (Bool):=(.ask (((x0.length:Int) !=(x1.length:Int))) (.done false) (.opt (zC (qCH n) n (x0,x1,(0:Int))) fun r181=>(.alt r181 (fun r182=>(.done r182)) (fun r183=>(.done true)))))
def qEC:Nat→RW→RW→Option (Bool)
 |0,_,_=>none
 |n+1,x0,x1=>(qFq n x0 x1).run
abbrev qIz (n:Nat):List (Ent (Rn n)):= [en (qOp n)]
def qL3 (n:Nat):LEnt (KB 95) (Rn n) n:=lok (zJ 95) 29 ⟨⟨[(0,aL),(1,aL),(5,aI)],[],[]⟩,[(.ret,⟨[(4,aB)],[],[]⟩),(.exit 0,⟨[],[],[]⟩)]⟩ (qCH n) (qIz n) [] fun _=>(by kernel_rfl)
theorem qNe:∀n,Ok (Rn n) qOq (qEC n)
 |0=>ok0 fun _=>rfl
 |n+1=>stO (T:=qFq n) (by kernel_rfl) (qIz n) [qL3 n] (fun _=>(by kernel_rfl)) fun _=>(by kernel_rfl)
def qTA:Sg:=⟨33,[(.agg [qI,qL,qL]),(.agg [qI,qL,qL])],[],⟨aB,[],[]⟩⟩
def qJh (n:Nat) (x0:Int) (x1 x2:RW) (x3:Int) (x4 x5:RW):Tr (Bool):=(.ask ((x0 !=x3)) (.done false) (.opt (qDk n x1 x4) fun r173=>(.ask ((!r173)) (.done false) (.opt (qEC n x2 x5) fun r184=>(.ask ((!r184)) (.done false) (.done true))))))
def qJi:Nat→Int→RW→RW→Int→RW→RW→Option (Bool)
 |0,_,_,_,_,_,_=>none
 |n+1,x0,x1,x2,x3,x4,x5=>(qJh n x0 x1 x2 x3 x4 x5).run
abbrev qTB (n:Nat):List (Ent (Rn n)):= [en (qMy n),en (qNe n)]
theorem qR7:∀n,Ok (Rn n) qTA (qJi n)
 |0=>ok0 fun _=>rfl
 |n+1=>stO (T:=qJh n) (by kernel_rfl) (qTB n) [] (fun _=>(by kernel_rfl)) fun _=>(by kernel_rfl)
def qKU:Sg:=⟨6,[(.agg [qI,qL,qL])],[],⟨aB,[],[]⟩⟩
def qFa (n:Nat) (x0:Int) (x1 x2:RW):Tr (Bool):=(.opt (qGl n x0 x1 x2 (1048576:Int)) fun r18=>(.ask ((decide (r18<(0:Int)))) (.done true) (.opt (qE6 n x0 x1 x2) fun r34=>(.opt (qHF n r34.1 r34.2.1 r34.2.2) fun r98=>(.opt (qE6 n x0 x1 x2) fun r99=>(.opt (qHa n r99.1 r99.2.1 r99.2.2) fun r159=>(.ask ((!(r159.toList==r98.toList))) (.done false) (.opt (qE6 n x0 x1 x2) fun r160=>(.opt (qJi n r99.1 r99.2.1 r99.2.2 r160.1 r160.2.1 r160.2.2) fun r185=>(.ask ((!r185)) (.done false) (.done true)))))))))))
def qFb:Nat→Int→RW→RW→Option (Bool)
 |0,_,_,_=>none
 |n+1,x0,x1,x2=>(qFa n x0 x1 x2).run
abbrev qKV (n:Nat):List (Ent (Rn n)):= [en (qRg n),en (qRk n),en (qPo n),en (qP4 n),en (qR7 n)]
theorem qJj:∀n,Ok (Rn n) qKU (qFb n)
 |0=>ok0 fun _=>rfl
 |n+1=>stO (T:=qFa n) (by kernel_rfl) (qKV n) [] (fun _=>(by kernel_rfl)) fun _=>(by kernel_rfl)
end
end Go.Proofs.YtdkoeegcpbaojaaGreatDoor.KFnExactDagText

