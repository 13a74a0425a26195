import Derived.Test.YtkkkfjgagjdcoaaGreatDoorKFnExactDagOk
namespace Go.Proofs.YtkkkfjgagjdcoaaGreatDoor.KFnExactDagOk
open Go.Eng
set_option linter.unusedVariables false
set_option maxRecDepth 100000
noncomputable section
abbrev RW:=List (List PV)
abbrev BA:=ByteArray
def qOb:Sg:=⟨145,[aL,aI],[],⟨aI,[],[]⟩⟩
def qFr (n:Nat) (x0:RW) (x1:Int):Tr (Int):=(.ask ((decide ((IntKind.i64.wrap (x1-(x0.length:Int)))<(0:Int)))) (.done (-1:Int)) (.done (IntKind.i64.wrap (x1-(x0.length:Int)))))
def qEA:Nat→RW→Int→Option (Int)
 |0,_,_=>none
 |n+1,x0,x1=>(qFr n x0 x1).run
theorem qNM:∀n,Ok (Rn n) qOb (qEA n)
 |0=>ok0 fun _=>rfl
 |n+1=>stO (T:=qFr n) (by kernel_rfl) [] [] (fun _=>(by kernel_rfl)) fun _=>(by kernel_rfl)
def qQe:Sg:=⟨43,[(.agg [qI,qI,qS]),aI],[],⟨aI,[],[]⟩⟩
def qHe (n:Nat) (x0 x1:Int) (x2:BA) (x3:Int):Tr (Int):=(.ask ((decide ((IntKind.i64.wrap (x3-(x2.size:Int)))<(0:Int)))) (.done (-1:Int)) (.done (IntKind.i64.wrap (x3-(x2.size:Int)))))
def qFS:Nat→Int→Int→BA→Int→Option (Int)
 |0,_,_,_,_=>none
 |n+1,x0,x1,x2,x3=>(qHe n x0 x1 x2 x3).run
theorem qPX:∀n,Ok (Rn n) qQe (qFS n)
 |0=>ok0 fun _=>rfl
 |n+1=>stO (T:=qHe n) (by kernel_rfl) [] [] (fun _=>(by kernel_rfl)) fun _=>(by kernel_rfl)
def qPY:Sg:=⟨11,[aL,aI],[],⟨aI,[],[]⟩⟩
def qB2 (n:Nat) (v:RW×Int×Int):Tr ((RW×Int×Int)⊕((Int)⊕(Int))):=(.ask ((decide (v.2.2<(v.1.length:Int)))) (.ask (decide (0≤v.2.2∧v.2.2<v.1.length)) (.opt (v.1[(v.2.2).toNat]?) fun e6=>(.ask (decide (e6.length=3)) (.opt (zC .i64 e6 0) fun y7=>(.opt (zC .i64 e6 1) fun y8=>(.opt (zR e6 2) fun y9=>(.opt (qFS n y7 y8 y9 v.2.1) fun r10=>(.ask ((decide (r10<(0:Int)))) (.done (.inr (.inl ((-1:Int))))) (.done (.inl (v.1,r10,(IntKind.i64.wrap (v.2.2+(1:Int))))))))))) .fail)) .fail) (.done (.inr (.inr (v.2.1)))))
def qGU (n:Nat) (x0:RW) (x1:Int):Tr (Int):=(.ask ((decide ((IntKind.i64.wrap (x1-(x0.length:Int)))<(0:Int)))) (.done (-1:Int)) (.opt (zD (qB2 n) n (x0,(IntKind.i64.wrap (x1-(x0.length:Int))),(0:Int))) fun r11=>(.alt r11 (fun r12=>(.done r12)) (fun r13=>(.done r13)))))
def qEe:Nat→RW→Int→Option (Int)
 |0,_,_=>none
 |n+1,x0,x1=>(qGU n x0 x1).run
abbrev qJp (n:Nat):List (Ent (Rn n)):= [en (qPX n)]
def qMN (n:Nat):LEnt (KB 11) (Rn n) n:=lok (zK 11) 61 ⟨⟨[(0,aL),(1,aI),(5,aI)],[],[]⟩,[(.ret,⟨[(4,aI)],[],[]⟩),(.exit 0,⟨[(1,aI)],[],[]⟩)]⟩ (qB2 n) (qJp n) [] fun _=>(by kernel_rfl)
theorem qOc:∀n,Ok (Rn n) qPY (qEe n)
 |0=>ok0 fun _=>rfl
 |n+1=>stO (T:=qGU n) (by kernel_rfl) (qJp n) [qMN n] (fun _=>(by kernel_rfl)) fun _=>(by kernel_rfl)
def qNN:Sg:=⟨105,[(.agg [qI,qL,qL]),aI],[],⟨aI,[],[]⟩⟩
def qFE (n:Nat) (x0:Int) (x1 x2:RW) (x3:Int):Tr (Int):=(.opt (qEA n x1 x3) fun r5=>(.ask ((decide (r5<(0:Int)))) (.done (-1:Int)) (.opt (qEe n x2 r5) fun r14=>(.ask ((decide (r14<(0:Int)))) (.done (-1:Int)) (.done r14)))))
def qDj:Nat→Int→RW→RW→Int→Option (Int)
 |0,_,_,_,_=>none
 |n+1,x0,x1,x2,x3=>(qFE n x0 x1 x2 x3).run
abbrev qNO (n:Nat):List (Ent (Rn n)):= [en (qNM n),en (qOc n)]
theorem qMO:∀n,Ok (Rn n) qNN (qDj n)
 |0=>ok0 fun _=>rfl
 |n+1=>stO (T:=qFE n) (by kernel_rfl) (qNO n) [] (fun _=>(by kernel_rfl)) fun _=>(by kernel_rfl)
def qMP:Sg:=⟨61,[aL,aI],[],⟨aI,[],[]⟩⟩
def qBO (n:Nat) (v:RW×Int×Int):Tr ((RW×Int×Int)⊕((Int)⊕(Int))):=(.ask ((decide (v.2.2<(v.1.length:Int)))) (.ask (decide (0≤v.2.2∧v.2.2<v.1.length)) (.opt (v.1[(v.2.2).toNat]?) fun e1=>(.ask (decide (e1.length=3)) (.opt (zC .i64 e1 0) fun y2=>(.opt (zd e1 1) fun y3=>(.opt (zd e1 2) fun y4=>(.opt (qDj n y2 y3 y4 v.2.1) fun r5=>(.ask ((decide (r5<(0:Int)))) (.done (.inr (.inl ((-1:Int))))) (.done (.inl (v.1,r5,(IntKind.i64.wrap (v.2.2+(1:Int))))))))))) .fail)) .fail) (.done (.inr (.inr (v.2.1)))))
def qEf (n:Nat) (x0:RW) (x1:Int):Tr (Int):=(.ask ((decide ((IntKind.i64.wrap (x1-(x0.length:Int)))<(0:Int)))) (.done (-1:Int)) (.opt (zD (qBO n) n (x0,(IntKind.i64.wrap (x1-(x0.length:Int))),(0:Int))) fun r6=>(.alt r6 (fun r7=>(.done r7)) (fun r8=>(.done r8)))))
def qDQ:Nat→RW→Int→Option (Int)
 |0,_,_=>none
 |n+1,x0,x1=>(qEf n x0 x1).run
abbrev qHH (n:Nat):List (Ent (Rn n)):= [en (qMO n)]
def qJq (n:Nat):LEnt (KB 61) (Rn n) n:=lok (zK 61) 61 ⟨⟨[(0,aL),(1,aI),(5,aI)],[],[]⟩,[(.ret,⟨[(4,aI)],[],[]⟩),(.exit 0,⟨[(1,aI)],[],[]⟩)]⟩ (qBO n) (qHH n) [] fun _=>(by kernel_rfl)
theorem qLg:∀n,Ok (Rn n) qMP (qDQ n)
 |0=>ok0 fun _=>rfl
 |n+1=>stO (T:=qEf n) (by kernel_rfl) (qHH n) [qJq n] (fun _=>(by kernel_rfl)) fun _=>(by kernel_rfl)
def qOd:Sg:=⟨106,[(.agg [qS,qI]),aI],[],⟨aI,[],[]⟩⟩
def qFs (n:Nat) (x0:BA) (x1 x2:Int):Tr (Int):=(.ask ((decide ((IntKind.i64.wrap (x2-(x0.size:Int)))<(0:Int)))) (.done (-1:Int)) (.done (IntKind.i64.wrap (x2-(x0.size:Int)))))
def qEB:Nat→BA→Int→Int→Option (Int)
 |0,_,_,_=>none
 |n+1,x0,x1,x2=>(qFs n x0 x1 x2).run
theorem qNP:∀n,Ok (Rn n) qOd (qEB n)
 |0=>ok0 fun _=>rfl
 |n+1=>stO (T:=qFs n) (by kernel_rfl) [] [] (fun _=>(by kernel_rfl)) fun _=>(by kernel_rfl)
def qNQ:Sg:=⟨62,[aL,aI],[],⟨aI,[],[]⟩⟩
def qBd (n:Nat) (v:RW×Int×Int):Tr ((RW×Int×Int)⊕((Int)⊕(Int))):=(.ask ((decide (v.2.2<(v.1.length:Int)))) (.ask (decide (0≤v.2.2∧v.2.2<v.1.length)) (.opt (v.1[(v.2.2).toNat]?) fun e10=>(.ask (decide (e10.length=2)) (.opt (zR e10 0) fun y11=>(.opt (zC .i64 e10 1) fun y12=>(.opt (qEB n y11 y12 v.2.1) fun r13=>(.ask ((decide (r13<(0:Int)))) (.done (.inr (.inl ((-1:Int))))) (.done (.inl (v.1,r13,(IntKind.i64.wrap (v.2.2+(1:Int)))))))))) .fail)) .fail) (.done (.inr (.inr (v.2.1)))))
def qFF (n:Nat) (x0:RW) (x1:Int):Tr (Int):=(.ask ((decide ((IntKind.i64.wrap (x1-(x0.length:Int)))<(0:Int)))) (.done (-1:Int)) (.opt (zD (qBd n) n (x0,(IntKind.i64.wrap (x1-(x0.length:Int))),(0:Int))) fun r14=>(.alt r14 (fun r15=>(.done r15)) (fun r16=>(.done r16)))))
def qDk:Nat→RW→Int→Option (Int)
 |0,_,_=>none
 |n+1,x0,x1=>(qFF n x0 x1).run
abbrev qH6 (n:Nat):List (Ent (Rn n)):= [en (qNP n)]
def qKv (n:Nat):LEnt (KB 62) (Rn n) n:=lok (zK 62) 61 ⟨⟨[(0,aL),(1,aI),(5,aI)],[],[]⟩,[(.ret,⟨[(4,aI)],[],[]⟩),(.exit 0,⟨[(1,aI)],[],[]⟩)]⟩ (qBd n) (qH6 n) [] fun _=>(by kernel_rfl)
theorem qMQ:∀n,Ok (Rn n) qNQ (qDk n)
 |0=>ok0 fun _=>rfl
 |n+1=>stO (T:=qFF n) (by kernel_rfl) (qH6 n) [qKv n] (fun _=>(by kernel_rfl)) fun _=>(by kernel_rfl)
def qRj:Sg:=⟨24,[(.agg [qI,qL,qL]),aI],[],⟨aI,[],[]⟩⟩
def qIa (n:Nat) (x0:Int) (x1 x2:RW) (x3:Int):Tr (Int):=(.opt (qDQ n x1 x3) fun r9=>(.ask ((decide (r9<(0:Int)))) (.done (-1:Int)) (.opt (qDk n x2 r9) fun r17=>(.ask ((decide (r17<(0:Int)))) (.done (-1:Int)) (.done r17)))))
def qGL:Nat→Int→RW→RW→Int→Option (Int)
 |0,_,_,_,_=>none
 |n+1,x0,x1,x2,x3=>(qIa n x0 x1 x2 x3).run
abbrev qRk (n:Nat):List (Ent (Rn n)):= [en (qLg n),en (qMQ n)]
theorem qQf:∀n,Ok (Rn n) qRj (qGL n)
 |0=>ok0 fun _=>rfl
 |n+1=>stO (T:=qIa n) (by kernel_rfl) (qRk n) [] (fun _=>(by kernel_rfl)) fun _=>(by kernel_rfl)
def qOe:Sg:=⟨146,[aL],[],⟨(.c (.own 0 0 0 0)),[],[⟨0,1,2,(.row [])⟩]⟩⟩
def qCJ (n:Nat) (v:RW×Nat×Int×RW):Tr ((RW×Nat×Int×RW)⊕((Nat×RW))):=(.ask ((decide (v.2.2.1<(v.1.length:Int)))) (.ask (decide (0≤v.2.2.1∧v.2.2.1<v.1.length)) (.opt (v.1[(v.2.2.1).toNat]?) fun e23=>(.ask (decide (e23.length=1)) (.opt (zC .i64 e23 0) fun y24=>(.ask (decide (v.2.1=v.2.2.2.length∧0≤v.2.2.1∧v.2.2.1<((v.2.1:Nat):Int))) (.opt (v.2.2.2[(v.2.2.1).toNat]?) fun e25=>(.ask (decide (0+1≤e25.length)) (.done (.inl (v.1,v.2.1,(IntKind.i64.wrap (v.2.2.1+(1:Int))),(v.2.2.2.set (v.2.2.1).toNat (zi e25 0 [(.i .i64 y24)]))))) .fail)) .fail)) .fail)) .fail) (.done (.inr ((v.2.1,v.2.2.2)))))
def qFt (n:Nat) (x0:RW):Tr (Nat×RW):=(.ask (decide (0≤(x0.length:Int)∧(x0.length:Int)=(x0.length:Int)∧8*(x0.length:Int)≤140737488355328∧(x0.length:Int)≤9223372036854775807)) (.opt (zD (qCJ n) n (x0,((x0.length:Int)).toNat,(0:Int),(zAK [(.i .i64 (0:Int))] ((x0.length:Int)).toNat))) fun r26=>(.done (r26.1,r26.2))) .fail)
def qEC:Nat→RW→Option (Nat×RW)
 |0,_=>none
 |n+1,x0=>(qFt n x0).run
def qLh (n:Nat):LEnt (KB 146) (Rn n) n:=lok (zK 146) 29 ⟨⟨[(0,aL),(3,(.c (.own 0 448 0 0))),(4,aI)],[(448,⟨0,1,2,(.row [])⟩)],[]⟩,[(.exit 0,⟨[(3,(.c (.own 0 448 0 0)))],[(448,⟨0,1,2,(.row [])⟩)],[]⟩)]⟩ (qCJ n) [] [] fun _=>(by kernel_rfl)
theorem qNR:∀n,Ok (Rn n) qOe (qEC n)
 |0=>ok0 fun _=>rfl
 |n+1=>stO (T:=qFt n) (by kernel_rfl) [] [qLh n] (fun _=>(by kernel_rfl)) fun _=>(by kernel_rfl)
def qRl:Sg:=⟨14,[(.agg [qI,qI])],[],⟨(.agg [qI,qI]),[],[]⟩⟩
def qIb (n:Nat) (x0 x1:Int):Tr (Int×Int):=(.done (x0,x1))
def qIc:Nat→Int→Int→Option (Int×Int)
 |0,_,_=>none
 |n+1,x0,x1=>(qIb n x0 x1).run
theorem qQg:∀n,Ok (Rn n) qRl (qIc n)
 |0=>ok0 fun _=>rfl
 |n+1=>stO (T:=qIb n) (by kernel_rfl) [] [] (fun _=>(by kernel_rfl)) fun _=>(by kernel_rfl)
def qQh:Sg:=⟨46,[(.agg [qI,qI,qS])],[],⟨(.agg [qI,qI,qS]),[],[]⟩⟩
def qHf (n:Nat) (x0 x1:Int) (x2:BA):Tr (Int×Int×BA):=(.opt (qIc n x0 x1) fun r32=>(.done (r32.1,r32.2,x2)))
def qFT:Nat→Int→Int→BA→Option (Int×Int×BA)
 |0,_,_,_=>none
 |n+1,x0,x1,x2=>(qHf n x0 x1 x2).run
abbrev qQi (n:Nat):List (Ent (Rn n)):= [en (qQg n)]
theorem qPZ:∀n,Ok (Rn n) qQh (qFT n)
 |0=>ok0 fun _=>rfl
 |n+1=>stO (T:=qHf n) (by kernel_rfl) (qQi n) [] (fun _=>(by kernel_rfl)) fun _=>(by kernel_rfl)
def qPa:Sg:=⟨13,[aL],[],⟨(.c (.own 0 0 0 0)),[],[⟨0,3,72,(.row [])⟩]⟩⟩
def qCa (n:Nat) (v:RW×Nat×Int×RW):Tr ((RW×Nat×Int×RW)⊕((Nat×RW))):=(.ask ((decide (v.2.2.1<(v.1.length:Int)))) (.ask (decide (0≤v.2.2.1∧v.2.2.1<v.1.length)) (.opt (v.1[(v.2.2.1).toNat]?) fun e28=>(.ask (decide (e28.length=3)) (.opt (zC .i64 e28 0) fun y29=>(.opt (zC .i64 e28 1) fun y30=>(.opt (zR e28 2) fun y31=>(.opt (qFT n y29 y30 y31) fun r32=>(.ask (decide (v.2.1=v.2.2.2.length∧0≤v.2.2.1∧v.2.2.1<((v.2.1:Nat):Int))) (.opt (v.2.2.2[(v.2.2.1).toNat]?) fun e33=>(.ask (decide (0+3≤e33.length)) (.done (.inl (v.1,v.2.1,(IntKind.i64.wrap (v.2.2.1+(1:Int))),(v.2.2.2.set (v.2.2.1).toNat (zi e33 0 [(.i .i64 r32.1),(.i .i64 r32.2.1),(.s r32.2.2)]))))) .fail)) .fail))))) .fail)) .fail) (.done (.inr ((v.2.1,v.2.2.2)))))
def qGV (n:Nat) (x0:RW):Tr (Nat×RW):=(.ask (decide (0≤(x0.length:Int)∧(x0.length:Int)=(x0.length:Int)∧32*(x0.length:Int)≤140737488355328∧(x0.length:Int)≤9223372036854775807)) (.opt (zD (qCa n) n (x0,((x0.length:Int)).toNat,(0:Int),(zAK [(.i .i64 (0:Int)),(.i .i64 (0:Int)),(.s (⟨#[]⟩:BA))] ((x0.length:Int)).toNat))) fun r34=>(.done (r34.1,r34.2))) .fail)
def qEg:Nat→RW→Option (Nat×RW)
 |0,_=>none
 |n+1,x0=>(qGV n x0).run
abbrev qJr (n:Nat):List (Ent (Rn n)):= [en (qPZ n)]
def qMR (n:Nat):LEnt (KB 13) (Rn n) n:=lok (zK 13) 29 ⟨⟨[(0,aL),(3,(.c (.own 0 448 0 0))),(4,aI)],[(448,⟨0,3,72,(.row [])⟩)],[]⟩,[(.exit 0,⟨[(3,(.c (.own 0 448 0 0)))],[(448,⟨0,3,72,(.row [])⟩)],[]⟩)]⟩ (qCa n) (qJr n) [] fun _=>(by kernel_rfl)
theorem qOf:∀n,Ok (Rn n) qPa (qEg n)
 |0=>ok0 fun _=>rfl
 |n+1=>stO (T:=qGV n) (by kernel_rfl) (qJr n) [qMR n] (fun _=>(by kernel_rfl)) fun _=>(by kernel_rfl)
def qNS:Sg:=⟨107,[(.agg [qI,qL,qL])],[],⟨(.agg [qI,qL,qL]),[],[]⟩⟩
def qFG (n:Nat) (x0:Int) (x1 x2:RW):Tr (Int×RW×RW):=(.opt (qEC n x1) fun r27=>(.opt (qEg n x2) fun r35=>(.ask (decide (r27.1=r27.2.length)) (.ask (decide (r35.1=r35.2.length)) (.done (x0,r27.2,r35.2)) .fail) .fail)))
def qDl:Nat→Int→RW→RW→Option (Int×RW×RW)
 |0,_,_,_=>none
 |n+1,x0,x1,x2=>(qFG n x0 x1 x2).run
abbrev qNT (n:Nat):List (Ent (Rn n)):= [en (qNR n),en (qOf n)]
theorem qMS:∀n,Ok (Rn n) qNS (qDl n)
 |0=>ok0 fun _=>rfl
 |n+1=>stO (T:=qFG n) (by kernel_rfl) (qNT n) [] (fun _=>(by kernel_rfl)) fun _=>(by kernel_rfl)
def qMT:Sg:=⟨65,[aL],[],⟨(.c (.own 0 0 0 0)),[],[⟨0,3,96,(.row [])⟩]⟩⟩
def qBy (n:Nat) (v:RW×Nat×Int×RW):Tr ((RW×Nat×Int×RW)⊕((Nat×RW))):=(.ask ((decide (v.2.2.1<(v.1.length:Int)))) (.ask (decide (0≤v.2.2.1∧v.2.2.1<v.1.length)) (.opt (v.1[(v.2.2.1).toNat]?) fun e19=>(.ask (decide (e19.length=3)) (.opt (zC .i64 e19 0) fun y20=>(.opt (zd e19 1) fun y21=>(.opt (zd e19 2) fun y22=>(.opt (qDl n y20 y21 y22) fun r23=>(.ask (decide (v.2.1=v.2.2.2.length∧0≤v.2.2.1∧v.2.2.1<((v.2.1:Nat):Int))) (.opt (v.2.2.2[(v.2.2.1).toNat]?) fun e24=>(.ask (decide (0+3≤e24.length)) (.done (.inl (v.1,v.2.1,(IntKind.i64.wrap (v.2.2.1+(1:Int))),(v.2.2.2.set (v.2.2.1).toNat (zi e24 0 [(.i .i64 r23.1),(.ls r23.2.1),(.ls r23.2.2)]))))) .fail)) .fail))))) .fail)) .fail) (.done (.inr ((v.2.1,v.2.2.2)))))
def qEh (n:Nat) (x0:RW):Tr (Nat×RW):=(.ask (decide (0≤(x0.length:Int)∧(x0.length:Int)=(x0.length:Int)∧56*(x0.length:Int)≤140737488355328∧(x0.length:Int)≤9223372036854775807)) (.opt (zD (qBy n) n (x0,((x0.length:Int)).toNat,(0:Int),(zAK [(.i .i64 (0:Int)),.nl,.nl] ((x0.length:Int)).toNat))) fun r25=>(.done (r25.1,r25.2))) .fail)
def qDR:Nat→RW→Option (Nat×RW)
 |0,_=>none
 |n+1,x0=>(qEh n x0).run
abbrev qHI (n:Nat):List (Ent (Rn n)):= [en (qMS n)]
def qJs (n:Nat):LEnt (KB 65) (Rn n) n:=lok (zK 65) 29 ⟨⟨[(0,aL),(3,(.c (.own 0 448 0 0))),(4,aI)],[(448,⟨0,3,96,(.row [])⟩)],[]⟩,[(.exit 0,⟨[(3,(.c (.own 0 448 0 0)))],[(448,⟨0,3,96,(.row [])⟩)],[]⟩)]⟩ (qBy n) (qHI n) [] fun _=>(by kernel_rfl)
theorem qLi:∀n,Ok (Rn n) qMT (qDR n)
 |0=>ok0 fun _=>rfl
 |n+1=>stO (T:=qEh n) (by kernel_rfl) (qHI n) [qJs n] (fun _=>(by kernel_rfl)) fun _=>(by kernel_rfl)
def qOg:Sg:=⟨108,[(.agg [qS,qI])],[],⟨(.agg [qS,qI]),[],[]⟩⟩
def qJE (n:Nat) (x0:BA) (x1:Int):Tr (BA×Int):=(.done (x0,x1))
def qFu:Nat→BA→Int→Option (BA×Int)
 |0,_,_=>none
 |n+1,x0,x1=>(qJE n x0 x1).run
theorem qNU:∀n,Ok (Rn n) qOg (qFu n)
 |0=>ok0 fun _=>rfl
 |n+1=>stO (T:=qJE n) (by kernel_rfl) [] [] (fun _=>(by kernel_rfl)) fun _=>(by kernel_rfl)
def qNV:Sg:=⟨66,[aL],[],⟨(.c (.own 0 0 0 0)),[],[⟨0,2,99,(.row [])⟩]⟩⟩
def qB5 (n:Nat) (v:RW×Nat×Int×RW):Tr ((RW×Nat×Int×RW)⊕((Nat×RW))):=(.ask ((decide (v.2.2.1<(v.1.length:Int)))) (.ask (decide (0≤v.2.2.1∧v.2.2.1<v.1.length)) (.opt (v.1[(v.2.2.1).toNat]?) fun e27=>(.ask (decide (e27.length=2)) (.opt (zR e27 0) fun y28=>(.opt (zC .i64 e27 1) fun y29=>(.opt (qFu n y28 y29) fun r30=>(.ask (decide (v.2.1=v.2.2.2.length∧0≤v.2.2.1∧v.2.2.1<((v.2.1:Nat):Int))) (.opt (v.2.2.2[(v.2.2.1).toNat]?) fun e31=>(.ask (decide (0+2≤e31.length)) (.done (.inl (v.1,v.2.1,(IntKind.i64.wrap (v.2.2.1+(1:Int))),(v.2.2.2.set (v.2.2.1).toNat (zi e31 0 [(.s r30.1),(.i .i64 r30.2)]))))) .fail)) .fail)))) .fail)) .fail) (.done (.inr ((v.2.1,v.2.2.2)))))
def qFH (n:Nat) (x0:RW):Tr (Nat×RW):=(.ask (decide (0≤(x0.length:Int)∧(x0.length:Int)=(x0.length:Int)∧24*(x0.length:Int)≤140737488355328∧(x0.length:Int)≤9223372036854775807)) (.opt (zD (qB5 n) n (x0,((x0.length:Int)).toNat,(0:Int),(zAK [(.s (⟨#[]⟩:BA)),(.i .i64 (0:Int))] ((x0.length:Int)).toNat))) fun r32=>(.done (r32.1,r32.2))) .fail)
def qDm:Nat→RW→Option (Nat×RW)
 |0,_=>none
 |n+1,x0=>(qFH n x0).run
abbrev qH7 (n:Nat):List (Ent (Rn n)):= [en (qNU n)]
def qKw (n:Nat):LEnt (KB 66) (Rn n) n:=lok (zK 66) 29 ⟨⟨[(0,aL),(3,(.c (.own 0 448 0 0))),(4,aI)],[(448,⟨0,2,99,(.row [])⟩)],[]⟩,[(.exit 0,⟨[(3,(.c (.own 0 448 0 0)))],[(448,⟨0,2,99,(.row [])⟩)],[]⟩)]⟩ (qB5 n) (qH7 n) [] fun _=>(by kernel_rfl)
theorem qMU:∀n,Ok (Rn n) qNV (qDm n)
 |0=>ok0 fun _=>rfl
 |n+1=>stO (T:=qFH n) (by kernel_rfl) (qH7 n) [qKw n] (fun _=>(by kernel_rfl)) fun _=>(by kernel_rfl)
def qRm:Sg:=⟨26,[(.agg [qI,qL,qL])],[],⟨(.agg [qI,qL,qL]),[],[]⟩⟩
def qId (n:Nat) (x0:Int) (x1 x2:RW):Tr (Int×RW×RW):=(.opt (qDR n x1) fun r26=>(.opt (qDm n x2) fun r33=>(.ask (decide (r26.1=r26.2.length)) (.ask (decide (r33.1=r33.2.length)) (.done (x0,r26.2,r33.2)) .fail) .fail)))
def qEi:Nat→Int→RW→RW→Option (Int×RW×RW)
 |0,_,_,_=>none
 |n+1,x0,x1,x2=>(qId n x0 x1 x2).run
abbrev qRn (n:Nat):List (Ent (Rn n)):= [en (qLi n),en (qMU n)]
theorem qQj:∀n,Ok (Rn n) qRm (qEi n)
 |0=>ok0 fun _=>rfl
 |n+1=>stO (T:=qId n) (by kernel_rfl) (qRn n) [] (fun _=>(by kernel_rfl)) fun _=>(by kernel_rfl)
def qSU:Sg:=⟨54,[aI,aI,aI],[],⟨aB,[],[]⟩⟩
def qHJ (n:Nat) (x0 x1 x2:Int):Tr (Bool):=(.ask ((decide (x0≥x1))) (.done (decide (x0≤x2))) (.done false))
def qAq:Nat→Int→Int→Int→Option (Bool)
 |0,_,_,_=>none
 |n+1,x0,x1,x2=>(qHJ n x0 x1 x2).run
theorem qDn:∀n,Ok (Rn n) qSU (qAq n)
 |0=>ok0 fun _=>rfl
 |n+1=>stO (T:=qHJ n) (by kernel_rfl) [] [] (fun _=>(by kernel_rfl)) fun _=>(by kernel_rfl)
def qPb:Sg:=⟨92,[aS],[],⟨aB,[],[]⟩⟩
def qBU (n:Nat) (v:BA×Int):Tr ((BA×Int)⊕((Bool)⊕(BA))):=(.ask ((decide (v.2<(v.1.size:Int)))) (.ask (decide (0≤v.2)) (.opt (v.1.toList[(v.2).toNat]?) fun c45=>(.ask ((decide ((c45.toNat:Int)<(32:Int)))) (.done (.inr (.inl (false)))) (.ask (decide (0≤v.2)) (.opt (v.1.toList[(v.2).toNat]?) fun c46=>(.ask ((decide ((c46.toNat:Int)>(126:Int)))) (.done (.inr (.inl (false)))) (.done (.inl (v.1,(IntKind.i64.wrap (v.2+(1:Int)))))))) .fail))) .fail) (.done (.inr (.inr (v.1)))))
def qGW (n:Nat) (x0:BA):Tr (Bool):=(.opt (zD (qBU n) n (x0,(0:Int))) fun r47=>(.alt r47 (fun r48=>(.done r48)) (fun r49=>(.done (decide ((r49.size:Int)≤(200:Int)))))))
def qCK:Nat→BA→Option (Bool)
 |0,_=>none
 |n+1,x0=>(qGW n x0).run
def qMV (n:Nat):LEnt (KB 92) (Rn n) n:=lok (zK 92) 13 ⟨⟨[(0,aS),(3,aI)],[],[]⟩,[(.ret,⟨[(2,aB)],[],[]⟩),(.exit 0,⟨[(0,aS)],[],[]⟩)]⟩ (qBU n) [] [] fun _=>(by kernel_rfl)
theorem qFv:∀n,Ok (Rn n) qPb (qCK n)
 |0=>ok0 fun _=>rfl
 |n+1=>stO (T:=qGW n) (by kernel_rfl) [] [qMV n] (fun _=>(by kernel_rfl)) fun _=>(by kernel_rfl)
def qLj:Sg:=⟨135,[(.c (.ptr 0 0 0 0 0))],[[(0,⟨0,4,175,(.box [qS,qI,qB,(.own 0 1 1 0)])⟩),(1,⟨1,14,162,(.row [])⟩)]],⟨(.tup []),[[(0,⟨0,4,175,(.box [qS,qI,qB,(.own 0 1 1 0)])⟩),(1,⟨1,14,162,(.row [])⟩)]],[]⟩⟩
def qDV (n:Nat) (v:BA×Int×Bool×Nat×RW):Tr ((BA×Int×Bool×Nat×RW)⊕((BA×Int×Bool×Nat×RW))):=(.ask ((decide (v.2.1<(v.1.size:Int)))) (.ask (decide (0≤v.2.1)) (.opt (v.1.toList[(v.2.1).toNat]?) fun c53=>(.ask (((c53.toNat:Int)==(32:Int))) (.done (.inl (v.1,(IntKind.i64.wrap (v.2.1+(1:Int))),v.2.2.1,v.2.2.2.1,v.2.2.2.2))) (.done (.inr ((v.1,v.2.1,v.2.2.1,v.2.2.2.1,v.2.2.2.2)))))) .fail) (.done (.inr ((v.1,v.2.1,v.2.2.1,v.2.2.2.1,v.2.2.2.2)))))
def qGX (n:Nat) (x0:BA) (x1:Int) (x2:Bool) (x3:Nat) (x4:RW):Tr (BA×Int×Bool×Nat×RW):=(.opt (zD (qDV n) n (x0,x1,x2,x3,x4)) fun r54=>(.done (r54.1,r54.2.1,r54.2.2.1,r54.2.2.2.1,r54.2.2.2.2)))
def qBh:Nat→BA→Int→Bool→Nat→RW→Option (BA×Int×Bool×Nat×RW)
 |0,_,_,_,_,_=>none
 |n+1,x0,x1,x2,x3,x4=>(qGX n x0 x1 x2 x3 x4).run
def qJt (n:Nat):LEnt (KB 135) (Rn n) n:=lok (zK 135) 1 ⟨⟨[(0,(.c (.ptr 0 0 0 0 0)))],[],[[(0,⟨0,4,175,(.box [qS,qI,qB,(.own 0 1 1 0)])⟩),(1,⟨1,14,162,(.row [])⟩)]]⟩,[(.exit 0,⟨[],[],[[(0,⟨0,4,175,(.box [qS,qI,qB,(.own 0 1 1 0)])⟩),(1,⟨1,14,162,(.row [])⟩)]]⟩)]⟩ (qDV n) [] [] fun _=>(by kernel_rfl)
theorem qDw:∀n,Ok (Rn n) qLj (qBh n)
 |0=>ok0 fun _=>rfl
 |n+1=>stO (T:=qGX n) (by kernel_rfl) [] [qJt n] (fun _=>(by kernel_rfl)) fun _=>(by kernel_rfl)
def qPc:Sg:=⟨208,[(.c (.ptr 0 0 0 0 0)),aS],[[(0,⟨0,4,175,(.box [qS,qI,qB,(.own 0 1 1 0)])⟩),(1,⟨1,14,162,(.row [])⟩)]],⟨aB,[[(0,⟨0,4,175,(.box [qS,qI,qB,(.own 0 1 1 0)])⟩),(1,⟨1,14,162,(.row [])⟩)]],[]⟩⟩
def qJu (n:Nat) (x0 x1:BA) (x2:Int) (x3:Bool) (x4:Nat) (x5:RW):Tr (Bool×BA×Int×Bool×Nat×RW):=(.opt (qBh n x1 x2 x3 x4 x5) fun r55=>(.ask (r55.2.2.1) (.done (false,r55.1,r55.2.1,r55.2.2.1,r55.2.2.2.1,r55.2.2.2.2)) (.ask ((decide ((IntKind.i64.wrap (r55.2.1+(x0.size:Int)))>(r55.1.size:Int)))) (.done (false,r55.1,r55.2.1,r55.2.2.1,r55.2.2.2.1,r55.2.2.2.2)) (.ask (decide (0≤r55.2.1∧r55.2.1≤(IntKind.i64.wrap (r55.2.1+(x0.size:Int)))∧(IntKind.i64.wrap (r55.2.1+(x0.size:Int)))≤r55.1.size)) (.ask ((!((r55.1.extract (r55.2.1).toNat ((IntKind.i64.wrap (r55.2.1+(x0.size:Int)))).toNat).toList==x0.toList))) (.done (false,r55.1,r55.2.1,r55.2.2.1,r55.2.2.2.1,r55.2.2.2.2)) (.done (true,r55.1,(IntKind.i64.wrap (r55.2.1+(x0.size:Int))),r55.2.2.1,r55.2.2.2.1,r55.2.2.2.2))) .fail))))
def qAG:Nat→BA→BA→Int→Bool→Nat→RW→Option (Bool×BA×Int×Bool×Nat×RW)
 |0,_,_,_,_,_,_=>none
 |n+1,x0,x1,x2,x3,x4,x5=>(qJu n x0 x1 x2 x3 x4 x5).run
abbrev qPd (n:Nat):List (Ent (Rn n)):= [en (qDw n)]
theorem qED:∀n,Ok (Rn n) qPc (qAG n)
 |0=>ok0 fun _=>rfl
 |n+1=>stO (T:=qJu n) (by kernel_rfl) (qPd n) [] (fun _=>(by kernel_rfl)) fun _=>(by kernel_rfl)
def qPe:Sg:=⟨139,[(.agg [qI,qI,qS])],[],⟨aB,[],[]⟩⟩
def qGY (n:Nat) (x0 x1:Int) (x2:BA):Tr (Bool):=(.ask ((x0==(0:Int))) (.ask ((x1==(0:Int))) (.done (x2.toList==(⟨#[]⟩:BA).toList)) (.done false)) (.ask ((x0==(1:Int))) (.opt (qAq n x1 (-1000000000000000:Int) (1000000000000000:Int)) fun r58=>(.ask (r58) (.done (x2.toList==(⟨#[]⟩:BA).toList)) (.done false))) (.ask ((x0==(2:Int))) (.ask ((x1==(0:Int))) (.opt (qCK n x2) fun r59=>(.done r59)) (.done false)) (.ask ((x0==(3:Int))) (.opt (qAq n x1 (0:Int) (1:Int)) fun r60=>(.ask (r60) (.done (x2.toList==(⟨#[]⟩:BA).toList)) (.done false))) (.ask ((x0==(4:Int))) (.opt (qAq n x1 (1:Int) (5:Int)) fun r61=>(.ask (r61) (.done (x2.toList==(⟨#[]⟩:BA).toList)) (.done false))) (.done false))))))
def qY:Nat→Int→Int→BA→Option (Bool)
 |0,_,_,_=>none
 |n+1,x0,x1,x2=>(qGY n x0 x1 x2).run
abbrev qPf (n:Nat):List (Ent (Rn n)):= [en (qDn n),en (qFv n)]
theorem qEE:∀n,Ok (Rn n) qPe (qY n)
 |0=>ok0 fun _=>rfl
 |n+1=>stO (T:=qGY n) (by kernel_rfl) (qPf n) [] (fun _=>(by kernel_rfl)) fun _=>(by kernel_rfl)
def qRo:Sg:=⟨51,[(.agg [qI,qI])],[],⟨aB,[],[]⟩⟩
def qIe (n:Nat) (x0 x1:Int):Tr (Bool):=(.opt (qAq n x0 (1:Int) (52:Int)) fun r63=>(.ask (r63) (.opt (qAq n x1 (1:Int) (99:Int)) fun r64=>(.done r64)) (.done false)))
def qAK:Nat→Int→Int→Option (Bool)
 |0,_,_=>none
 |n+1,x0,x1=>(qIe n x0 x1).run
abbrev qRp (n:Nat):List (Ent (Rn n)):= [en (qDn n)]
theorem qD6:∀n,Ok (Rn n) qRo (qAK n)
 |0=>ok0 fun _=>rfl
 |n+1=>stO (T:=qIe n) (by kernel_rfl) (qRp n) [] (fun _=>(by kernel_rfl)) fun _=>(by kernel_rfl)
def qQk:Sg:=⟨214,[(.agg [qI,qI,qI,qI])],[],⟨aB,[],[]⟩⟩
def qHg (n:Nat) (x0 x1 x2 x3:Int):Tr (Bool):=(.opt (qAK n x0 x1) fun r66=>(.ask (r66) (.opt (qAK n x2 x3) fun r67=>(.ask (r67) (.ask ((decide (x0≤x2))) (.done (decide (x1≤x3))) (.done false)) (.done false))) (.done false)))
def qFU:Nat→Int→Int→Int→Int→Option (Bool)
 |0,_,_,_,_=>none
 |n+1,x0,x1,x2,x3=>(qHg n x0 x1 x2 x3).run
abbrev qQl (n:Nat):List (Ent (Rn n)):= [en (qD6 n)]
theorem qPg:∀n,Ok (Rn n) qQk (qFU n)
 |0=>ok0 fun _=>rfl
 |n+1=>stO (T:=qHg n) (by kernel_rfl) (qQl n) [] (fun _=>(by kernel_rfl)) fun _=>(by kernel_rfl)
def qQm:Sg:=⟨215,[aI,aI],[],⟨aB,[],[]⟩⟩
def qHh (n:Nat) (x0 x1:Int):Tr (Bool):=(.ask ((x0==(1:Int))) (.ask ((decide (x1≥(1:Int)))) (.done (decide (x1≤(10:Int)))) (.done false)) (.ask ((x0==(2:Int))) (.ask ((decide (x1≥(1:Int)))) (.done (decide (x1≤(10:Int)))) (.done false)) (.ask ((x0==(3:Int))) (.ask ((decide (x1≥(1:Int)))) (.done (decide (x1≤(10:Int)))) (.done false)) (.ask ((x0==(4:Int))) (.ask ((decide (x1≥(1:Int)))) (.done (decide (x1≤(10:Int)))) (.done false)) (.ask ((x0==(6:Int))) (.ask ((decide (x1≥(1:Int)))) (.done (decide (x1≤(10:Int)))) (.done false)) (.ask ((x0==(7:Int))) (.ask ((decide (x1≥(1:Int)))) (.done (decide (x1≤(10:Int)))) (.done false)) (.ask ((x0==(5:Int))) (.ask ((x1==(2:Int))) (.done true) (.done (x1==(3:Int)))) (.ask ((x0==(8:Int))) (.done (x1==(1:Int))) (.ask ((x0==(9:Int))) (.done (x1==(1:Int))) (.ask ((x0==(10:Int))) (.done (x1==(1:Int))) (.done false)))))))))))
def qFV:Nat→Int→Int→Option (Bool)
 |0,_,_=>none
 |n+1,x0,x1=>(qHh n x0 x1).run
theorem qPh:∀n,Ok (Rn n) qQm (qFV n)
 |0=>ok0 fun _=>rfl
 |n+1=>stO (T:=qHh n) (by kernel_rfl) [] [] (fun _=>(by kernel_rfl)) fun _=>(by kernel_rfl)
def qOh:Sg:=⟨176,[(.agg [qI,qI,qI,qI,qS,qI,qI,qB,qB,qI,qI,qB,qB,qL])],[],⟨aB,[],[]⟩⟩
def qFw (n:Nat) (x0 x1 x2 x3:Int) (x4:BA) (x5 x6:Int) (x7 x8:Bool) (x9 x10:Int) (x11 x12:Bool) (x13:RW):Tr (Bool):=(.ask ((x0==(1:Int))) (.ask ((x1==(0:Int))) (.ask (((x5==(0:Int))&&((x6==(0:Int))&&((x7==false)&&((x8==false)&&true))))) (.ask (((x9==(0:Int))&&((x10==(0:Int))&&((x11==false)&&((x12==false)&&true))))) (.ask (((x13.length:Int)==(0:Int))) (.opt (qY n x2 x3 x4) fun r62=>(.ask (r62) (.ask ((x2 !=(0:Int))) (.ask ((x2 !=(1:Int))) (.done true) (.done (decide (x3≥(0:Int))))) (.done false)) (.done false))) (.done false)) (.done false)) (.done false)) (.done false)) (.ask ((x0==(2:Int))) (.ask ((x1==(0:Int))) (.ask (((x2==(0:Int))&&((x3==(0:Int))&&((x4.toList==(⟨#[]⟩:BA).toList)&&true)))) (.ask (((x9==(0:Int))&&((x10==(0:Int))&&((x11==false)&&((x12==false)&&true))))) (.ask (((x13.length:Int)==(0:Int))) (.opt (qAK n x5 x6) fun r65=>(.done r65)) (.done false)) (.done false)) (.done false)) (.done false)) (.ask ((x0==(3:Int))) (.ask ((x1==(0:Int))) (.ask (((x2==(0:Int))&&((x3==(0:Int))&&((x4.toList==(⟨#[]⟩:BA).toList)&&true)))) (.ask (((x13.length:Int)==(0:Int))) (.opt (qFU n x5 x6 x9 x10) fun r68=>(.done r68)) (.done false)) (.done false)) (.done false)) (.ask ((x0==(4:Int))) (.ask ((x1==(0:Int))) (.ask (((x2==(0:Int))&&((x3==(0:Int))&&((x4.toList==(⟨#[]⟩:BA).toList)&&true)))) (.ask (((x5==(0:Int))&&((x6==(0:Int))&&((x7==false)&&((x8==false)&&true))))) (.ask (((x9==(0:Int))&&((x10==(0:Int))&&((x11==false)&&((x12==false)&&true))))) (.done ((x13.length:Int)==(1:Int))) (.done false)) (.done false)) (.done false)) (.done false)) (.ask ((x0==(5:Int))) (.opt (qAq n x1 (1:Int) (11:Int)) fun r69=>(.ask (r69) (.ask (((x2==(0:Int))&&((x3==(0:Int))&&((x4.toList==(⟨#[]⟩:BA).toList)&&true)))) (.ask (((x5==(0:Int))&&((x6==(0:Int))&&((x7==false)&&((x8==false)&&true))))) (.ask (((x9==(0:Int))&&((x10==(0:Int))&&((x11==false)&&((x12==false)&&true))))) (.done ((x13.length:Int)==(2:Int))) (.done false)) (.done false)) (.done false)) (.done false))) (.ask ((x0==(6:Int))) (.opt (qFV n x1 (x13.length:Int)) fun r70=>(.ask (r70) (.ask (((x2==(0:Int))&&((x3==(0:Int))&&((x4.toList==(⟨#[]⟩:BA).toList)&&true)))) (.ask (((x5==(0:Int))&&((x6==(0:Int))&&((x7==false)&&((x8==false)&&true))))) (.done ((x9==(0:Int))&&((x10==(0:Int))&&((x11==false)&&((x12==false)&&true))))) (.done false)) (.done false)) (.done false))) (.done false)))))))
def qB4:Nat→Int→Int→Int→Int→BA→Int→Int→Bool→Bool→Int→Int→Bool→Bool→RW→Option (Bool)
 |0,_,_,_,_,_,_,_,_,_,_,_,_,_,_=>none
 |n+1,x0,x1,x2,x3,x4,x5,x6,x7,x8,x9,x10,x11,x12,x13=>(qFw n x0 x1 x2 x3 x4 x5 x6 x7 x8 x9 x10 x11 x12 x13).run
abbrev qOi (n:Nat):List (Ent (Rn n)):= [en (qEE n),en (qD6 n),en (qPg n),en (qDn n),en (qPh n)]
theorem qH8:∀n,Ok (Rn n) qOh (qB4 n)
 |0=>ok0 fun _=>rfl
 |n+1=>stO (T:=qFw n) (by kernel_rfl) (qOi n) [] (fun _=>(by kernel_rfl)) fun _=>(by kernel_rfl)
def qOj:Sg:=⟨175,[(.c (.ptr 0 0 0 0 0)),(.agg [qI,qI,qI,qI,qS,qI,qI,qB,qB,qI,qI,qB,qB,qL])],[[(0,⟨0,4,175,(.box [qS,qI,qB,(.own 0 1 1 0)])⟩),(1,⟨1,14,162,(.row [])⟩)]],⟨aI,[[(0,⟨0,4,175,(.box [qS,qI,qB,(.own 0 1 1 0)])⟩),(1,⟨1,14,162,(.row [])⟩)]],[]⟩⟩
def qJF (n:Nat) (x0 x1 x2 x3:Int) (x4:BA) (x5 x6:Int) (x7 x8:Bool) (x9 x10:Int) (x11 x12:Bool) (x13:RW) (x14:BA) (x15:Int) (x16:Bool) (x17:Nat) (x18:RW):Tr (Int×BA×Int×Bool×Nat×RW):=(.ask (decide (1=([[(.i .i64 x0),(.i .i64 x1),(.i .i64 x2),(.i .i64 x3),(.s x4),(.i .i64 x5),(.i .i64 x6),(.b x7),(.b x8),(.i .i64 x9),(.i .i64 x10),(.b x11),(.b x12),(.ls x13)]]:RW).length)) (.ask (decide (x17=x18.length∧0<14∧0<120∧(x17+([[(.i .i64 x0),(.i .i64 x1),(.i .i64 x2),(.i .i64 x3),(.s x4),(.i .i64 x5),(.i .i64 x6),(.b x7),(.b x8),(.i .i64 x9),(.i .i64 x10),(.b x11),(.b x12),(.ls x13)]]:RW).length)*120≤140737488355328∧([[(.i .i64 x0),(.i .i64 x1),(.i .i64 x2),(.i .i64 x3),(.s x4),(.i .i64 x5),(.i .i64 x6),(.b x7),(.b x8),(.i .i64 x9),(.i .i64 x10),(.b x11),(.b x12),(.ls x13)]]:RW).all (fun e=>e.length==14)=true)) (.ask ((decide ((((x17+1):Nat):Int)>(60:Int)))) (.done ((IntKind.i64.wrap ((((x17+1):Nat):Int)-(1:Int))),x14,x15,true,(x17+1),(x18++([[(.i .i64 x0),(.i .i64 x1),(.i .i64 x2),(.i .i64 x3),(.s x4),(.i .i64 x5),(.i .i64 x6),(.b x7),(.b x8),(.i .i64 x9),(.i .i64 x10),(.b x11),(.b x12),(.ls x13)]]:RW)))) (.opt (qB4 n x0 x1 x2 x3 x4 x5 x6 x7 x8 x9 x10 x11 x12 x13) fun r71=>(.ask ((!r71)) (.done ((IntKind.i64.wrap ((((x17+1):Nat):Int)-(1:Int))),x14,x15,true,(x17+1),(x18++([[(.i .i64 x0),(.i .i64 x1),(.i .i64 x2),(.i .i64 x3),(.s x4),(.i .i64 x5),(.i .i64 x6),(.b x7),(.b x8),(.i .i64 x9),(.i .i64 x10),(.b x11),(.b x12),(.ls x13)]]:RW)))) (.done ((IntKind.i64.wrap ((((x17+1):Nat):Int)-(1:Int))),x14,x15,x16,(x17+1),(x18++([[(.i .i64 x0),(.i .i64 x1),(.i .i64 x2),(.i .i64 x3),(.s x4),(.i .i64 x5),(.i .i64 x6),(.b x7),(.b x8),(.i .i64 x9),(.i .i64 x10),(.b x11),(.b x12),(.ls x13)]]:RW))))))) .fail) .fail)
def qr:Nat→Int→Int→Int→Int→BA→Int→Int→Bool→Bool→Int→Int→Bool→Bool→RW→BA→Int→Bool→Nat→RW→Option (Int×BA×Int×Bool×Nat×RW)
 |0,_,_,_,_,_,_,_,_,_,_,_,_,_,_,_,_,_,_,_=>none
 |n+1,x0,x1,x2,x3,x4,x5,x6,x7,x8,x9,x10,x11,x12,x13,x14,x15,x16,x17,x18=>(qJF n x0 x1 x2 x3 x4 x5 x6 x7 x8 x9 x10 x11 x12 x13 x14 x15 x16 x17 x18).run
abbrev qOk (n:Nat):List (Ent (Rn n)):= [en (qH8 n)]
theorem qCz:∀n,Ok (Rn n) qOj (qr n)
 |0=>ok0 fun _=>rfl
 |n+1=>stO (T:=qJF n) (by kernel_rfl) (qOk n) [] (fun _=>(by kernel_rfl)) fun _=>(by kernel_rfl)
def qNW:Sg:=⟨209,[(.c (.ptr 0 0 0 0 0))],[[(0,⟨0,4,175,(.box [qS,qI,qB,(.own 0 1 1 0)])⟩),(1,⟨1,14,162,(.row [])⟩)]],⟨aI,[[(0,⟨0,4,175,(.box [qS,qI,qB,(.own 0 1 1 0)])⟩),(1,⟨1,14,162,(.row [])⟩)]],[]⟩⟩
def qDx (n:Nat) (v:BA×BA×Int×Bool×Nat×RW):Tr ((BA×BA×Int×Bool×Nat×RW)⊕((Int×BA×Int×Bool×Nat×RW)⊕(BA×Int×Bool×Nat×RW))):=(.ask ((decide (v.2.2.1<(v.2.1.size:Int)))) (.ask (decide (0≤v.2.2.1)) (.opt (v.2.1.toList[(v.2.2.1).toNat]?) fun c77=>(.ask (((c77.toNat:Int) !=(34:Int))) (.ask (decide (0≤v.2.2.1∧v.2.2.1≤(IntKind.i64.wrap (v.2.2.1+(1:Int)))∧(IntKind.i64.wrap (v.2.2.1+(1:Int)))≤v.2.1.size)) (.ask (decide (v.1.size+(v.2.1.extract (v.2.2.1).toNat ((IntKind.i64.wrap (v.2.2.1+(1:Int)))).toNat).size≤9223372036854775807)) (.done (.inl ((v.1++(v.2.1.extract (v.2.2.1).toNat ((IntKind.i64.wrap (v.2.2.1+(1:Int)))).toNat)),v.2.1,(IntKind.i64.wrap (v.2.2.1+(1:Int))),v.2.2.2.1,v.2.2.2.2.1,v.2.2.2.2.2))) .fail) .fail) (.ask ((decide ((IntKind.i64.wrap (v.2.2.1+(1:Int)))≥(v.2.1.size:Int)))) (.opt (qr n (1:Int) (0:Int) (2:Int) (0:Int) v.1 (0:Int) (0:Int) false false (0:Int) (0:Int) false false ([]:RW) v.2.1 (IntKind.i64.wrap (v.2.2.1+(1:Int))) v.2.2.2.1 v.2.2.2.2.1 v.2.2.2.2.2) fun r78=>(.done (.inr (.inl ((r78.1,r78.2.1,r78.2.2.1,r78.2.2.2.1,r78.2.2.2.2.1,r78.2.2.2.2.2)))))) (.ask (decide (0≤(IntKind.i64.wrap (v.2.2.1+(1:Int))))) (.opt (v.2.1.toList[((IntKind.i64.wrap (v.2.2.1+(1:Int)))).toNat]?) fun c79=>(.ask (((c79.toNat:Int) !=(34:Int))) (.opt (qr n (1:Int) (0:Int) (2:Int) (0:Int) v.1 (0:Int) (0:Int) false false (0:Int) (0:Int) false false ([]:RW) v.2.1 (IntKind.i64.wrap (v.2.2.1+(1:Int))) v.2.2.2.1 v.2.2.2.2.1 v.2.2.2.2.2) fun r80=>(.done (.inr (.inl ((r80.1,r80.2.1,r80.2.2.1,r80.2.2.2.1,r80.2.2.2.2.1,r80.2.2.2.2.2)))))) (.ask (decide (v.1.size+(⟨#[34]⟩:BA).size≤9223372036854775807)) (.done (.inl ((v.1++(⟨#[34]⟩:BA)),v.2.1,(IntKind.i64.wrap ((IntKind.i64.wrap (v.2.2.1+(1:Int)))+(1:Int))),v.2.2.2.1,v.2.2.2.2.1,v.2.2.2.2.2))) .fail))) .fail)))) .fail) (.done (.inr (.inr ((v.2.1,v.2.2.1,v.2.2.2.1,v.2.2.2.2.1,v.2.2.2.2.2))))))
def qH9 (n:Nat) (x0:BA) (x1:Int) (x2:Bool) (x3:Nat) (x4:RW):Tr (Int×BA×Int×Bool×Nat×RW):=(.opt (zD (qDx n) n ((⟨#[]⟩:BA),x0,x1,x2,x3,x4)) fun r81=>(.alt r81 (fun r82=>(.done (r82.1,r82.2.1,r82.2.2.1,r82.2.2.2.1,r82.2.2.2.2.1,r82.2.2.2.2.2))) (fun r83=>(.done ((0:Int),r83.1,r83.2.1,true,r83.2.2.2.1,r83.2.2.2.2)))))
def qFI:Nat→BA→Int→Bool→Nat→RW→Option (Int×BA×Int×Bool×Nat×RW)
 |0,_,_,_,_,_=>none
 |n+1,x0,x1,x2,x3,x4=>(qH9 n x0 x1 x2 x3 x4).run
abbrev qIA (n:Nat):List (Ent (Rn n)):= [en (qCz n)]
def qKx (n:Nat):LEnt (KB 209) (Rn n) n:=lok (zK 209) 14 ⟨⟨[(0,(.c (.ptr 0 0 0 0 0))),(3,aS)],[],[[(0,⟨0,4,175,(.box [qS,qI,qB,(.own 0 1 1 0)])⟩),(1,⟨1,14,162,(.row [])⟩)]]⟩,[(.ret,⟨[(2,aI)],[],[[(0,⟨0,4,175,(.box [qS,qI,qB,(.own 0 1 1 0)])⟩),(1,⟨1,14,162,(.row [])⟩)]]⟩),(.exit 0,⟨[(0,(.c (.ptr 0 0 0 0 0)))],[],[[(0,⟨0,4,175,(.box [qS,qI,qB,(.own 0 1 1 0)])⟩),(1,⟨1,14,162,(.row [])⟩)]]⟩)]⟩ (qDx n) (qIA n) [] fun _=>(by kernel_rfl)
theorem qMW:∀n,Ok (Rn n) qNW (qFI n)
 |0=>ok0 fun _=>rfl
 |n+1=>stO (T:=qH9 n) (by kernel_rfl) (qIA n) [qKx n] (fun _=>(by kernel_rfl)) fun _=>(by kernel_rfl)
def qQn:Sg:=⟨141,[aI],[],⟨aS,[],[]⟩⟩
def qHi (n:Nat) (x0:Int):Tr (BA):=(.ask (decide (6=([[(.s (⟨#[]⟩:BA))],[(.s (⟨#[35,68,73,86,33]⟩:BA))],[(.s (⟨#[35,84,89,80,69,33]⟩:BA))],[(.s (⟨#[35,82,69,70,33]⟩:BA))],[(.s (⟨#[35,79,86,69,82,33]⟩:BA))],[(.s (⟨#[35,67,89,67,76,69,33]⟩:BA))]]:RW).length∧0≤x0∧x0<((6:Nat):Int))) (.opt (([[(.s (⟨#[]⟩:BA))],[(.s (⟨#[35,68,73,86,33]⟩:BA))],[(.s (⟨#[35,84,89,80,69,33]⟩:BA))],[(.s (⟨#[35,82,69,70,33]⟩:BA))],[(.s (⟨#[35,79,86,69,82,33]⟩:BA))],[(.s (⟨#[35,67,89,67,76,69,33]⟩:BA))]]:RW)[(x0).toNat]?) fun e86=>(.opt (zR e86 0) fun y87=>(.done y87))) .fail)
def qBS:Nat→Int→Option (BA)
 |0,_=>none
 |n+1,x0=>(qHi n x0).run
theorem qGZ:∀n,Ok (Rn n) qQn (qBS n)
 |0=>ok0 fun _=>rfl
 |n+1=>stO (T:=qHi n) (by kernel_rfl) [] [] (fun _=>(by kernel_rfl)) fun _=>(by kernel_rfl)
def qPi:Sg:=⟨210,[aI],[],⟨(.agg [qI,qI,qS]),[],[]⟩⟩
def qGa (n:Nat) (x0:Int):Tr (Int×Int×BA):=(.done ((4:Int),x0,(⟨#[]⟩:BA)))
def qC0:Nat→Int→Option (Int×Int×BA)
 |0,_=>none
 |n+1,x0=>(qGa n x0).run
theorem qOl:∀n,Ok (Rn n) qPi (qC0 n)
 |0=>ok0 fun _=>rfl
 |n+1=>stO (T:=qGa n) (by kernel_rfl) [] [] (fun _=>(by kernel_rfl)) fun _=>(by kernel_rfl)
def qNX:Sg:=⟨211,[(.c (.ptr 0 0 0 0 0))],[[(0,⟨0,4,175,(.box [qS,qI,qB,(.own 0 1 1 0)])⟩),(1,⟨1,14,162,(.row [])⟩)]],⟨aS,[[(0,⟨0,4,175,(.box [qS,qI,qB,(.own 0 1 1 0)])⟩),(1,⟨1,14,162,(.row [])⟩)]],[]⟩⟩
def qB6 (n:Nat) (v:Int×BA×Int×Bool×Nat×RW):Tr ((Int×BA×Int×Bool×Nat×RW)⊕((Int×BA×Int×Bool×Nat×RW))):=(.ask ((decide (v.2.2.1<(v.2.1.size:Int)))) (.ask (decide (0≤v.2.2.1)) (.opt (v.2.1.toList[(v.2.2.1).toNat]?) fun c92=>(.ask ((decide ((c92.toNat:Int)≥(65:Int)))) (.ask (decide (0≤v.2.2.1)) (.opt (v.2.1.toList[(v.2.2.1).toNat]?) fun c93=>(.ask ((decide ((c93.toNat:Int)≤(90:Int)))) (.done (.inl (v.1,v.2.1,(IntKind.i64.wrap (v.2.2.1+(1:Int))),v.2.2.2.1,v.2.2.2.2.1,v.2.2.2.2.2))) (.ask (decide (0≤v.2.2.1)) (.opt (v.2.1.toList[(v.2.2.1).toNat]?) fun c94=>(.ask ((decide ((c94.toNat:Int)≥(48:Int)))) (.ask (decide (0≤v.2.2.1)) (.opt (v.2.1.toList[(v.2.2.1).toNat]?) fun c95=>(.ask ((decide ((c95.toNat:Int)≤(57:Int)))) (.done (.inl (v.1,v.2.1,(IntKind.i64.wrap (v.2.2.1+(1:Int))),v.2.2.2.1,v.2.2.2.2.1,v.2.2.2.2.2))) (.ask (decide (0≤v.2.2.1)) (.opt (v.2.1.toList[(v.2.2.1).toNat]?) fun c96=>(.ask (((c96.toNat:Int)==(36:Int))) (.done (.inl (v.1,v.2.1,(IntKind.i64.wrap (v.2.2.1+(1:Int))),v.2.2.2.1,v.2.2.2.2.1,v.2.2.2.2.2))) (.done (.inr ((v.1,v.2.1,v.2.2.1,v.2.2.2.1,v.2.2.2.2.1,v.2.2.2.2.2)))))) .fail))) .fail) (.ask (decide (0≤v.2.2.1)) (.opt (v.2.1.toList[(v.2.2.1).toNat]?) fun c97=>(.ask (((c97.toNat:Int)==(36:Int))) (.done (.inl (v.1,v.2.1,(IntKind.i64.wrap (v.2.2.1+(1:Int))),v.2.2.2.1,v.2.2.2.2.1,v.2.2.2.2.2))) (.done (.inr ((v.1,v.2.1,v.2.2.1,v.2.2.2.1,v.2.2.2.2.1,v.2.2.2.2.2)))))) .fail))) .fail))) .fail) (.ask (decide (0≤v.2.2.1)) (.opt (v.2.1.toList[(v.2.2.1).toNat]?) fun c98=>(.ask ((decide ((c98.toNat:Int)≥(48:Int)))) (.ask (decide (0≤v.2.2.1)) (.opt (v.2.1.toList[(v.2.2.1).toNat]?) fun c99=>(.ask ((decide ((c99.toNat:Int)≤(57:Int)))) (.done (.inl (v.1,v.2.1,(IntKind.i64.wrap (v.2.2.1+(1:Int))),v.2.2.2.1,v.2.2.2.2.1,v.2.2.2.2.2))) (.ask (decide (0≤v.2.2.1)) (.opt (v.2.1.toList[(v.2.2.1).toNat]?) fun c100=>(.ask (((c100.toNat:Int)==(36:Int))) (.done (.inl (v.1,v.2.1,(IntKind.i64.wrap (v.2.2.1+(1:Int))),v.2.2.2.1,v.2.2.2.2.1,v.2.2.2.2.2))) (.done (.inr ((v.1,v.2.1,v.2.2.1,v.2.2.2.1,v.2.2.2.2.1,v.2.2.2.2.2)))))) .fail))) .fail) (.ask (decide (0≤v.2.2.1)) (.opt (v.2.1.toList[(v.2.2.1).toNat]?) fun c101=>(.ask (((c101.toNat:Int)==(36:Int))) (.done (.inl (v.1,v.2.1,(IntKind.i64.wrap (v.2.2.1+(1:Int))),v.2.2.2.1,v.2.2.2.2.1,v.2.2.2.2.2))) (.done (.inr ((v.1,v.2.1,v.2.2.1,v.2.2.2.1,v.2.2.2.2.1,v.2.2.2.2.2)))))) .fail))) .fail))) .fail) (.done (.inr ((v.1,v.2.1,v.2.2.1,v.2.2.2.1,v.2.2.2.2.1,v.2.2.2.2.2)))))
def qIB (n:Nat) (x0:BA) (x1:Int) (x2:Bool) (x3:Nat) (x4:RW):Tr (BA×BA×Int×Bool×Nat×RW):=(.opt (zD (qB6 n) n (x1,x0,x1,x2,x3,x4)) fun r102=>(.ask (decide (0≤r102.1∧r102.1≤r102.2.2.1∧r102.2.2.1≤r102.2.1.size)) (.done ((r102.2.1.extract (r102.1).toNat (r102.2.2.1).toNat),r102.2.1,r102.2.2.1,r102.2.2.2.1,r102.2.2.2.2.1,r102.2.2.2.2.2)) .fail))
def qC1:Nat→BA→Int→Bool→Nat→RW→Option (BA×BA×Int×Bool×Nat×RW)
 |0,_,_,_,_,_=>none
 |n+1,x0,x1,x2,x3,x4=>(qIB n x0 x1 x2 x3 x4).run
def qKy (n:Nat):LEnt (KB 211) (Rn n) n:=lok (zK 211) 14 ⟨⟨[(0,(.c (.ptr 0 0 0 0 0))),(3,aI)],[],[[(0,⟨0,4,175,(.box [qS,qI,qB,(.own 0 1 1 0)])⟩),(1,⟨1,14,162,(.row [])⟩)]]⟩,[(.exit 0,⟨[(0,(.c (.ptr 0 0 0 0 0))),(3,aI)],[],[[(0,⟨0,4,175,(.box [qS,qI,qB,(.own 0 1 1 0)])⟩),(1,⟨1,14,162,(.row [])⟩)]]⟩)]⟩ (qB6 n) [] [] fun _=>(by kernel_rfl)
theorem qHK:∀n,Ok (Rn n) qNX (qC1 n)
 |0=>ok0 fun _=>rfl
 |n+1=>stO (T:=qIB n) (by kernel_rfl) [] [qKy n] (fun _=>(by kernel_rfl)) fun _=>(by kernel_rfl)
def qSV:Sg:=⟨182,[aI],[],⟨aS,[],[]⟩⟩
def qJv (n:Nat) (x0:Int):Tr (BA):=(.ask (decide (11=([[(.s (⟨#[]⟩:BA))],[(.s (⟨#[83,85,77]⟩:BA))],[(.s (⟨#[77,73,78]⟩:BA))],[(.s (⟨#[77,65,88]⟩:BA))],[(.s (⟨#[67,79,85,78,84]⟩:BA))],[(.s (⟨#[73,70]⟩:BA))],[(.s (⟨#[65,78,68]⟩:BA))],[(.s (⟨#[79,82]⟩:BA))],[(.s (⟨#[78,79,84]⟩:BA))],[(.s (⟨#[65,66,83]⟩:BA))],[(.s (⟨#[76,69,78]⟩:BA))]]:RW).length∧0≤x0∧x0<((11:Nat):Int))) (.opt (([[(.s (⟨#[]⟩:BA))],[(.s (⟨#[83,85,77]⟩:BA))],[(.s (⟨#[77,73,78]⟩:BA))],[(.s (⟨#[77,65,88]⟩:BA))],[(.s (⟨#[67,79,85,78,84]⟩:BA))],[(.s (⟨#[73,70]⟩:BA))],[(.s (⟨#[65,78,68]⟩:BA))],[(.s (⟨#[79,82]⟩:BA))],[(.s (⟨#[78,79,84]⟩:BA))],[(.s (⟨#[65,66,83]⟩:BA))],[(.s (⟨#[76,69,78]⟩:BA))]]:RW)[(x0).toNat]?) fun e104=>(.opt (zR e104 0) fun y105=>(.done y105))) .fail)
def qCb:Nat→Int→Option (BA)
 |0,_=>none
 |n+1,x0=>(qJv n x0).run
theorem qMX:∀n,Ok (Rn n) qSV (qCb n)
 |0=>ok0 fun _=>rfl
 |n+1=>stO (T:=qJv n) (by kernel_rfl) [] [] (fun _=>(by kernel_rfl)) fun _=>(by kernel_rfl)
def qPj:Sg:=⟨99,[aI],[],⟨aS,[],[]⟩⟩
def qBV (n:Nat) (v:Int×BA):Tr ((Int×BA)⊕((BA))):=(.ask ((decide (v.1>(0:Int)))) (.ask (decide (1=([[(.i .u8 (IntKind.u8.wrap (IntKind.i64.wrap ((65:Int)+(Int.tmod (IntKind.i64.wrap (v.1-(1:Int))) (26:Int))))))]]:RW).length)) (.opt (bytesOf ([[(.i .u8 (IntKind.u8.wrap (IntKind.i64.wrap ((65:Int)+(Int.tmod (IntKind.i64.wrap (v.1-(1:Int))) (26:Int))))))]]:RW)) fun l115=>(.ask (decide ((⟨l115.toArray⟩:BA).size+v.2.size≤9223372036854775807)) (.done (.inl ((IntKind.i64.wrap (Int.tdiv (IntKind.i64.wrap (v.1-(1:Int))) (26:Int))),((⟨l115.toArray⟩:BA)++v.2)))) .fail)) .fail) (.done (.inr (v.2))))
def qEj (n:Nat) (x0:Int):Tr (BA):=(.opt (qAq n x0 (1:Int) (52:Int)) fun r114=>(.ask ((!r114)) (.done (⟨#[]⟩:BA)) (.opt (zD (qBV n) n (x0,(⟨#[]⟩:BA))) fun r116=>(.done r116))))
def qC2:Nat→Int→Option (BA)
 |0,_=>none
 |n+1,x0=>(qEj n x0).run
abbrev qJw (n:Nat):List (Ent (Rn n)):= [en (qDn n)]
def qMY (n:Nat):LEnt (KB 99) (Rn n) n:=lok (zK 99) 30 ⟨⟨[(0,aI),(3,aS)],[],[]⟩,[(.exit 0,⟨[(3,aS)],[],[]⟩)]⟩ (qBV n) (qJw n) [] fun _=>(by kernel_rfl)
theorem qJG:∀n,Ok (Rn n) qPj (qC2 n)
 |0=>ok0 fun _=>rfl
 |n+1=>stO (T:=qEj n) (by kernel_rfl) (qJw n) [qMY n] (fun _=>(by kernel_rfl)) fun _=>(by kernel_rfl)
def qPk:Sg:=⟨233,[aS],[],⟨aI,[],[]⟩⟩
def qCc (n:Nat) (v:BA×Int):Tr ((BA×Int)⊕((Int)⊕(Unit))):=(.ask ((decide (v.2≤(52:Int)))) (.opt (qC2 n v.2) fun r114=>(.ask ((r114.toList==v.1.toList)) (.done (.inr (.inl (v.2)))) (.done (.inl (v.1,(IntKind.i64.wrap (v.2+(1:Int)))))))) (.done (.inr (.inr (())))))
def qGb (n:Nat) (x0:BA):Tr (Int):=(.opt (zD (qCc n) n (x0,(1:Int))) fun r115=>(.alt r115 (fun r116=>(.done r116)) (fun r117=>(.done (0:Int)))))
def qCL:Nat→BA→Option (Int)
 |0,_=>none
 |n+1,x0=>(qGb n x0).run
abbrev qJx (n:Nat):List (Ent (Rn n)):= [en (qJG n)]
def qMZ (n:Nat):LEnt (KB 233) (Rn n) n:=lok (zK 233) 13 ⟨⟨[(0,aS),(3,aI)],[],[]⟩,[(.ret,⟨[(2,aI)],[],[]⟩),(.exit 0,⟨[],[],[]⟩)]⟩ (qCc n) (qJx n) [] fun _=>(by kernel_rfl)
theorem qOm:∀n,Ok (Rn n) qPk (qCL n)
 |0=>ok0 fun _=>rfl
 |n+1=>stO (T:=qGb n) (by kernel_rfl) (qJx n) [qMZ n] (fun _=>(by kernel_rfl)) fun _=>(by kernel_rfl)
def qRq:Sg:=⟨138,[aS,aI],[],⟨(.tup [(false,[qI]),(false,[qB])]),[],[]⟩⟩
def qBe (n:Nat) (v:BA×Int×Int):Tr ((BA×Int×Int)⊕((Int×Bool)⊕(Int))):=(.ask ((decide (v.2.2<(v.1.size:Int)))) (.ask (decide (0≤v.2.2)) (.opt (v.1.toList[(v.2.2).toNat]?) fun c121=>(.ask ((decide ((c121.toNat:Int)<(48:Int)))) (.done (.inr (.inl (((0:Int),false))))) (.ask (decide (0≤v.2.2)) (.opt (v.1.toList[(v.2.2).toNat]?) fun c122=>(.ask ((decide ((c122.toNat:Int)>(57:Int)))) (.done (.inr (.inl (((0:Int),false))))) (.ask (decide (0≤v.2.2)) (.opt (v.1.toList[(v.2.2).toNat]?) fun c123=>(.done (.inl (v.1,(IntKind.i64.wrap ((IntKind.i64.wrap (v.2.1*(10:Int)))+(IntKind.i64.wrap (IntKind.u8.wrap ((c123.toNat:Int)-(48:Int)))))),(IntKind.i64.wrap (v.2.2+(1:Int))))))) .fail))) .fail))) .fail) (.done (.inr (.inr (v.2.1)))))
def qEk (n:Nat) (x0:BA) (x1:Int):Tr (Int×Bool):=(.ask ((decide ((x0.size:Int)<(1:Int)))) (.done ((0:Int),false)) (.ask ((decide ((x0.size:Int)>x1))) (.done ((0:Int),false)) (.ask (decide (0≤(0:Int))) (.opt (x0.toList[((0:Int)).toNat]?) fun c120=>(.ask (((c120.toNat:Int)==(48:Int))) (.ask ((decide ((x0.size:Int)>(1:Int)))) (.done ((0:Int),false)) (.opt (zD (qBe n) n (x0,(0:Int),(0:Int))) fun r124=>(.alt r124 (fun r125=>(.done (r125.1,r125.2))) (fun r126=>(.done (r126,true)))))) (.opt (zD (qBe n) n (x0,(0:Int),(0:Int))) fun r127=>(.alt r127 (fun r128=>(.done (r128.1,r128.2))) (fun r129=>(.done (r129,true))))))) .fail)))
def qu:Nat→BA→Int→Option (Int×Bool)
 |0,_,_=>none
 |n+1,x0,x1=>(qEk n x0 x1).run
def qOn (n:Nat):LEnt (KB 138) (Rn n) n:=lok (zK 138) 61 ⟨⟨[(0,aS),(6,aI),(7,aI)],[],[]⟩,[(.ret,⟨[(4,aI),(5,aB)],[],[]⟩),(.exit 0,⟨[(6,aI)],[],[]⟩)]⟩ (qBe n) [] [] fun _=>(by kernel_rfl)
theorem qHj:∀n,Ok (Rn n) qRq (qu n)
 |0=>ok0 fun _=>rfl
 |n+1=>stO (T:=qEk n) (by kernel_rfl) [] [qOn n] (fun _=>(by kernel_rfl)) fun _=>(by kernel_rfl)
def qNY:Sg:=⟨213,[aS],[],⟨(.tup [(true,[qI,qI,qB,qB]),(false,[qB])]),[],[]⟩⟩
def qAN (n:Nat) (v:BA×Int×Int×Int×Bool×Bool×Int×Int×Bool×Bool):Tr ((BA×Int×Int×Int×Bool×Bool×Int×Int×Bool×Bool)⊕((BA×Int×Int×Int×Bool×Bool×Int×Int×Bool×Bool))):=(.ask ((decide (v.2.1<(v.1.size:Int)))) (.ask (decide (0≤v.2.1)) (.opt (v.1.toList[(v.2.1).toNat]?) fun c111=>(.ask ((decide ((c111.toNat:Int)≥(65:Int)))) (.ask (decide (0≤v.2.1)) (.opt (v.1.toList[(v.2.1).toNat]?) fun c112=>(.ask ((decide ((c112.toNat:Int)≤(90:Int)))) (.done (.inl (v.1,(IntKind.i64.wrap (v.2.1+(1:Int))),v.2.2.1,v.2.2.2.1,v.2.2.2.2.1,v.2.2.2.2.2.1,v.2.2.2.2.2.2.1,v.2.2.2.2.2.2.2.1,v.2.2.2.2.2.2.2.2.1,v.2.2.2.2.2.2.2.2.2))) (.done (.inr ((v.1,v.2.1,v.2.2.1,v.2.2.2.1,v.2.2.2.2.1,v.2.2.2.2.2.1,v.2.2.2.2.2.2.1,v.2.2.2.2.2.2.2.1,v.2.2.2.2.2.2.2.2.1,v.2.2.2.2.2.2.2.2.2)))))) .fail) (.done (.inr ((v.1,v.2.1,v.2.2.1,v.2.2.2.1,v.2.2.2.2.1,v.2.2.2.2.2.1,v.2.2.2.2.2.2.1,v.2.2.2.2.2.2.2.1,v.2.2.2.2.2.2.2.2.1,v.2.2.2.2.2.2.2.2.2)))))) .fail) (.done (.inr ((v.1,v.2.1,v.2.2.1,v.2.2.2.1,v.2.2.2.2.1,v.2.2.2.2.2.1,v.2.2.2.2.2.2.1,v.2.2.2.2.2.2.2.1,v.2.2.2.2.2.2.2.2.1,v.2.2.2.2.2.2.2.2.2)))))
def qCI (n:Nat) (x0:BA):Tr (Int×Int×Bool×Bool×Bool):=(.ask ((decide ((x0.size:Int)>(0:Int)))) (.ask (decide (0≤(0:Int))) (.opt (x0.toList[((0:Int)).toNat]?) fun c110=>(.ask (((c110.toNat:Int)==(36:Int))) (.ask (decide (0≤(1:Int)∧(1:Int)≤(x0.size:Int)∧(x0.size:Int)≤x0.size)) (.opt (zD (qAN n) n ((x0.extract ((1:Int)).toNat ((x0.size:Int)).toNat),(0:Int),(0:Int),(0:Int),false,false,(0:Int),(0:Int),true,false)) fun r113=>(.ask (decide (0≤(0:Int)∧(0:Int)≤r113.2.1∧r113.2.1≤r113.1.size)) (.opt (qCL n (r113.1.extract ((0:Int)).toNat (r113.2.1).toNat)) fun r118=>(.ask (decide (0≤r113.2.1∧r113.2.1≤(r113.1.size:Int)∧(r113.1.size:Int)≤r113.1.size)) (.ask ((decide (((r113.1.extract (r113.2.1).toNat ((r113.1.size:Int)).toNat).size:Int)>(0:Int)))) (.ask (decide (0≤(0:Int))) (.opt ((r113.1.extract (r113.2.1).toNat ((r113.1.size:Int)).toNat).toList[((0:Int)).toNat]?) fun c119=>(.ask (((c119.toNat:Int)==(36:Int))) (.ask (decide (0≤(1:Int)∧(1:Int)≤((r113.1.extract (r113.2.1).toNat ((r113.1.size:Int)).toNat).size:Int)∧((r113.1.extract (r113.2.1).toNat ((r113.1.size:Int)).toNat).size:Int)≤(r113.1.extract (r113.2.1).toNat ((r113.1.size:Int)).toNat).size)) (.opt (qu n ((r113.1.extract (r113.2.1).toNat ((r113.1.size:Int)).toNat).extract ((1:Int)).toNat (((r113.1.extract (r113.2.1).toNat ((r113.1.size:Int)).toNat).size:Int)).toNat) (2:Int)) fun r130=>(.ask ((!r130.2)) (.done ((0:Int),(0:Int),false,false,false)) (.opt (qAK n r118 r130.1) fun r131=>(.ask ((!r131)) (.done ((0:Int),(0:Int),false,false,false)) (.done (r118,r130.1,r113.2.2.2.2.2.2.2.2.1,true,true)))))) .fail) (.opt (qu n (r113.1.extract (r113.2.1).toNat ((r113.1.size:Int)).toNat) (2:Int)) fun r132=>(.ask ((!r132.2)) (.done ((0:Int),(0:Int),false,false,false)) (.opt (qAK n r118 r132.1) fun r133=>(.ask ((!r133)) (.done ((0:Int),(0:Int),false,false,false)) (.done (r118,r132.1,r113.2.2.2.2.2.2.2.2.1,r113.2.2.2.2.2.2.2.2.2,true)))))))) .fail) (.opt (qu n (r113.1.extract (r113.2.1).toNat ((r113.1.size:Int)).toNat) (2:Int)) fun r134=>(.ask ((!r134.2)) (.done ((0:Int),(0:Int),false,false,false)) (.opt (qAK n r118 r134.1) fun r135=>(.ask ((!r135)) (.done ((0:Int),(0:Int),false,false,false)) (.done (r118,r134.1,r113.2.2.2.2.2.2.2.2.1,r113.2.2.2.2.2.2.2.2.2,true))))))) .fail)) .fail)) .fail) (.opt (zD (qAN n) n (x0,(0:Int),(0:Int),(0:Int),false,false,(0:Int),(0:Int),false,false)) fun r136=>(.ask (decide (0≤(0:Int)∧(0:Int)≤r136.2.1∧r136.2.1≤r136.1.size)) (.opt (qCL n (r136.1.extract ((0:Int)).toNat (r136.2.1).toNat)) fun r137=>(.ask (decide (0≤r136.2.1∧r136.2.1≤(r136.1.size:Int)∧(r136.1.size:Int)≤r136.1.size)) (.ask ((decide (((r136.1.extract (r136.2.1).toNat ((r136.1.size:Int)).toNat).size:Int)>(0:Int)))) (.ask (decide (0≤(0:Int))) (.opt ((r136.1.extract (r136.2.1).toNat ((r136.1.size:Int)).toNat).toList[((0:Int)).toNat]?) fun c138=>(.ask (((c138.toNat:Int)==(36:Int))) (.ask (decide (0≤(1:Int)∧(1:Int)≤((r136.1.extract (r136.2.1).toNat ((r136.1.size:Int)).toNat).size:Int)∧((r136.1.extract (r136.2.1).toNat ((r136.1.size:Int)).toNat).size:Int)≤(r136.1.extract (r136.2.1).toNat ((r136.1.size:Int)).toNat).size)) (.opt (qu n ((r136.1.extract (r136.2.1).toNat ((r136.1.size:Int)).toNat).extract ((1:Int)).toNat (((r136.1.extract (r136.2.1).toNat ((r136.1.size:Int)).toNat).size:Int)).toNat) (2:Int)) fun r139=>(.ask ((!r139.2)) (.done ((0:Int),(0:Int),false,false,false)) (.opt (qAK n r137 r139.1) fun r140=>(.ask ((!r140)) (.done ((0:Int),(0:Int),false,false,false)) (.done (r137,r139.1,r136.2.2.2.2.2.2.2.2.1,true,true)))))) .fail) (.opt (qu n (r136.1.extract (r136.2.1).toNat ((r136.1.size:Int)).toNat) (2:Int)) fun r141=>(.ask ((!r141.2)) (.done ((0:Int),(0:Int),false,false,false)) (.opt (qAK n r137 r141.1) fun r142=>(.ask ((!r142)) (.done ((0:Int),(0:Int),false,false,false)) (.done (r137,r141.1,r136.2.2.2.2.2.2.2.2.1,r136.2.2.2.2.2.2.2.2.2,true)))))))) .fail) (.opt (qu n (r136.1.extract (r136.2.1).toNat ((r136.1.size:Int)).toNat) (2:Int)) fun r143=>(.ask ((!r143.2)) (.done ((0:Int),(0:Int),false,false,false)) (.opt (qAK n r137 r143.1) fun r144=>(.ask ((!r144)) (.done ((0:Int),(0:Int),false,false,false)) (.done (r137,r143.1,r136.2.2.2.2.2.2.2.2.1,r136.2.2.2.2.2.2.2.2.2,true))))))) .fail)) .fail)))) .fail) (.opt (zD (qAN n) n (x0,(0:Int),(0:Int),(0:Int),false,false,(0:Int),(0:Int),false,false)) fun r145=>(.ask (decide (0≤(0:Int)∧(0:Int)≤r145.2.1∧r145.2.1≤r145.1.size)) (.opt (qCL n (r145.1.extract ((0:Int)).toNat (r145.2.1).toNat)) fun r146=>(.ask (decide (0≤r145.2.1∧r145.2.1≤(r145.1.size:Int)∧(r145.1.size:Int)≤r145.1.size)) (.ask ((decide (((r145.1.extract (r145.2.1).toNat ((r145.1.size:Int)).toNat).size:Int)>(0:Int)))) (.ask (decide (0≤(0:Int))) (.opt ((r145.1.extract (r145.2.1).toNat ((r145.1.size:Int)).toNat).toList[((0:Int)).toNat]?) fun c147=>(.ask (((c147.toNat:Int)==(36:Int))) (.ask (decide (0≤(1:Int)∧(1:Int)≤((r145.1.extract (r145.2.1).toNat ((r145.1.size:Int)).toNat).size:Int)∧((r145.1.extract (r145.2.1).toNat ((r145.1.size:Int)).toNat).size:Int)≤(r145.1.extract (r145.2.1).toNat ((r145.1.size:Int)).toNat).size)) (.opt (qu n ((r145.1.extract (r145.2.1).toNat ((r145.1.size:Int)).toNat).extract ((1:Int)).toNat (((r145.1.extract (r145.2.1).toNat ((r145.1.size:Int)).toNat).size:Int)).toNat) (2:Int)) fun r148=>(.ask ((!r148.2)) (.done ((0:Int),(0:Int),false,false,false)) (.opt (qAK n r146 r148.1) fun r149=>(.ask ((!r149)) (.done ((0:Int),(0:Int),false,false,false)) (.done (r146,r148.1,r145.2.2.2.2.2.2.2.2.1,true,true)))))) .fail) (.opt (qu n (r145.1.extract (r145.2.1).toNat ((r145.1.size:Int)).toNat) (2:Int)) fun r150=>(.ask ((!r150.2)) (.done ((0:Int),(0:Int),false,false,false)) (.opt (qAK n r146 r150.1) fun r151=>(.ask ((!r151)) (.done ((0:Int),(0:Int),false,false,false)) (.done (r146,r150.1,r145.2.2.2.2.2.2.2.2.1,r145.2.2.2.2.2.2.2.2.2,true)))))))) .fail) (.opt (qu n (r145.1.extract (r145.2.1).toNat ((r145.1.size:Int)).toNat) (2:Int)) fun r152=>(.ask ((!r152.2)) (.done ((0:Int),(0:Int),false,false,false)) (.opt (qAK n r146 r152.1) fun r153=>(.ask ((!r153)) (.done ((0:Int),(0:Int),false,false,false)) (.done (r146,r152.1,r145.2.2.2.2.2.2.2.2.1,r145.2.2.2.2.2.2.2.2.2,true))))))) .fail)) .fail)))
def qAn:Nat→BA→Option (Int×Int×Bool×Bool×Bool)
 |0,_=>none
 |n+1,x0=>(qCI n x0).run
abbrev qIC (n:Nat):List (Ent (Rn n)):= [en (qOm n),en (qHj n),en (qD6 n)]
def qKz (n:Nat):LEnt (KB 213) (Rn n) n:=lok (zK 213) 62 ⟨⟨[(0,aS),(2,(.c (.ptr 0 128 0 0 0))),(4,(.c (.ptr 0 256 0 0 0))),(5,aI)],[(128,⟨0,4,90,(.box [qI,qI,qB,qB])⟩),(256,⟨0,4,90,(.box [qI,qI,qB,qB])⟩)],[]⟩,[(.exit 0,⟨[(0,aS),(2,(.c (.ptr 0 128 0 0 0))),(4,(.c (.ptr 0 256 0 0 0))),(5,aI)],[(128,⟨0,4,90,(.box [qI,qI,qB,qB])⟩),(256,⟨0,4,90,(.box [qI,qI,qB,qB])⟩)],[]⟩)]⟩ (qAN n) (qIC n) [] fun _=>(by kernel_rfl)
theorem qHL:∀n,Ok (Rn n) qNY (qAn n)
 |0=>ok0 fun _=>rfl
 |n+1=>stO (T:=qCI n) (by kernel_rfl) (qIC n) [qKz n] (fun _=>(by kernel_rfl)) fun _=>(by kernel_rfl)
def qNZ:Sg:=⟨97,[aS],[],⟨(.tup [(true,[qI,qI,qS]),(false,[qB])]),[],[]⟩⟩
def qBW (n:Nat) (v:BA×Int×Int×Int×BA×Int×Int×BA):Tr ((BA×Int×Int×Int×BA×Int×Int×BA)⊕((Int×Int×BA×Int×Int×BA))):=(.ask ((decide (v.2.1≤(5:Int)))) (.opt (qBS n v.2.1) fun r117=>(.ask ((r117.toList==v.1.toList)) (.done (.inl (v.1,(IntKind.i64.wrap (v.2.1+(1:Int))),v.2.2.1,v.2.2.2.1,v.2.2.2.2.1,v.2.2.2.2.2.1,v.2.1,v.2.2.2.2.2.2.2))) (.done (.inl (v.1,(IntKind.i64.wrap (v.2.1+(1:Int))),v.2.2.1,v.2.2.2.1,v.2.2.2.2.1,v.2.2.2.2.2.1,v.2.2.2.2.2.2.1,v.2.2.2.2.2.2.2))))) (.done (.inr ((v.2.2.1,v.2.2.2.1,v.2.2.2.2.1,v.2.2.2.2.2.1,v.2.2.2.2.2.2.1,v.2.2.2.2.2.2.2)))))
def qA3 (n:Nat) (x0:BA):Tr (Int×Int×BA×Bool):=(.ask ((x0.toList==(⟨#[]⟩:BA).toList)) (.done ((0:Int),(0:Int),(⟨#[]⟩:BA),true)) (.ask (decide (0≤(0:Int))) (.opt (x0.toList[((0:Int)).toNat]?) fun c110=>(.ask (((c110.toNat:Int)==(39:Int))) (.ask (decide (0≤(1:Int)∧(1:Int)≤(x0.size:Int)∧(x0.size:Int)≤x0.size)) (.opt (qY n (2:Int) (0:Int) (x0.extract ((1:Int)).toNat ((x0.size:Int)).toNat)) fun r111=>(.ask ((!r111)) (.done ((0:Int),(0:Int),(⟨#[]⟩:BA),false)) (.done ((2:Int),(0:Int),(x0.extract ((1:Int)).toNat ((x0.size:Int)).toNat),true)))) .fail) (.ask ((x0.toList==(⟨#[84,82,85,69]⟩:BA).toList)) (.ask ((x0.toList==(⟨#[84,82,85,69]⟩:BA).toList)) (.opt (qY n (3:Int) (1:Int) (⟨#[]⟩:BA)) fun r112=>(.ask ((!r112)) (.done ((0:Int),(0:Int),(⟨#[]⟩:BA),false)) (.done ((3:Int),(1:Int),(⟨#[]⟩:BA),true)))) (.opt (qY n (3:Int) (0:Int) (⟨#[]⟩:BA)) fun r113=>(.ask ((!r113)) (.done ((0:Int),(0:Int),(⟨#[]⟩:BA),false)) (.done ((3:Int),(0:Int),(⟨#[]⟩:BA),true))))) (.ask ((x0.toList==(⟨#[70,65,76,83,69]⟩:BA).toList)) (.ask ((x0.toList==(⟨#[84,82,85,69]⟩:BA).toList)) (.opt (qY n (3:Int) (1:Int) (⟨#[]⟩:BA)) fun r114=>(.ask ((!r114)) (.done ((0:Int),(0:Int),(⟨#[]⟩:BA),false)) (.done ((3:Int),(1:Int),(⟨#[]⟩:BA),true)))) (.opt (qY n (3:Int) (0:Int) (⟨#[]⟩:BA)) fun r115=>(.ask ((!r115)) (.done ((0:Int),(0:Int),(⟨#[]⟩:BA),false)) (.done ((3:Int),(0:Int),(⟨#[]⟩:BA),true))))) (.ask (decide (0≤(0:Int))) (.opt (x0.toList[((0:Int)).toNat]?) fun c116=>(.ask (((c116.toNat:Int)==(35:Int))) (.opt (zD (qBW n) n (x0,(1:Int),(0:Int),(0:Int),(⟨#[]⟩:BA),(4:Int),(0:Int),(⟨#[]⟩:BA))) fun r118=>(.opt (qY n r118.2.2.2.1 r118.2.2.2.2.1 r118.2.2.2.2.2) fun r119=>(.ask ((!r119)) (.done ((0:Int),(0:Int),(⟨#[]⟩:BA),false)) (.done (r118.2.2.2.1,r118.2.2.2.2.1,r118.2.2.2.2.2,true))))) (.ask (decide (0≤(0:Int))) (.opt (x0.toList[((0:Int)).toNat]?) fun c120=>(.ask (((c120.toNat:Int)==(45:Int))) (.ask (decide (0≤(1:Int)∧(1:Int)≤(x0.size:Int)∧(x0.size:Int)≤x0.size)) (.opt (qu n (x0.extract ((1:Int)).toNat ((x0.size:Int)).toNat) (16:Int)) fun r121=>(.ask ((!r121.2)) (.done ((0:Int),(0:Int),(⟨#[]⟩:BA),false)) (.ask (((c120.toNat:Int)==(45:Int))) (.ask ((r121.1==(0:Int))) (.done ((0:Int),(0:Int),(⟨#[]⟩:BA),false)) (.ask (((c120.toNat:Int)==(45:Int))) (.opt (qY n (1:Int) (IntKind.i64.wrap (0-r121.1)) (⟨#[]⟩:BA)) fun r122=>(.ask ((!r122)) (.done ((0:Int),(0:Int),(⟨#[]⟩:BA),false)) (.done ((1:Int),(IntKind.i64.wrap (0-r121.1)),(⟨#[]⟩:BA),true)))) (.opt (qY n (1:Int) r121.1 (⟨#[]⟩:BA)) fun r123=>(.ask ((!r123)) (.done ((0:Int),(0:Int),(⟨#[]⟩:BA),false)) (.done ((1:Int),r121.1,(⟨#[]⟩:BA),true)))))) (.ask (((c120.toNat:Int)==(45:Int))) (.opt (qY n (1:Int) (IntKind.i64.wrap (0-r121.1)) (⟨#[]⟩:BA)) fun r124=>(.ask ((!r124)) (.done ((0:Int),(0:Int),(⟨#[]⟩:BA),false)) (.done ((1:Int),(IntKind.i64.wrap (0-r121.1)),(⟨#[]⟩:BA),true)))) (.opt (qY n (1:Int) r121.1 (⟨#[]⟩:BA)) fun r125=>(.ask ((!r125)) (.done ((0:Int),(0:Int),(⟨#[]⟩:BA),false)) (.done ((1:Int),r121.1,(⟨#[]⟩:BA),true)))))))) .fail) (.opt (qu n x0 (16:Int)) fun r126=>(.ask ((!r126.2)) (.done ((0:Int),(0:Int),(⟨#[]⟩:BA),false)) (.ask (((c120.toNat:Int)==(45:Int))) (.ask ((r126.1==(0:Int))) (.done ((0:Int),(0:Int),(⟨#[]⟩:BA),false)) (.ask (((c120.toNat:Int)==(45:Int))) (.opt (qY n (1:Int) (IntKind.i64.wrap (0-r126.1)) (⟨#[]⟩:BA)) fun r127=>(.ask ((!r127)) (.done ((0:Int),(0:Int),(⟨#[]⟩:BA),false)) (.done ((1:Int),(IntKind.i64.wrap (0-r126.1)),(⟨#[]⟩:BA),true)))) (.opt (qY n (1:Int) r126.1 (⟨#[]⟩:BA)) fun r128=>(.ask ((!r128)) (.done ((0:Int),(0:Int),(⟨#[]⟩:BA),false)) (.done ((1:Int),r126.1,(⟨#[]⟩:BA),true)))))) (.ask (((c120.toNat:Int)==(45:Int))) (.opt (qY n (1:Int) (IntKind.i64.wrap (0-r126.1)) (⟨#[]⟩:BA)) fun r129=>(.ask ((!r129)) (.done ((0:Int),(0:Int),(⟨#[]⟩:BA),false)) (.done ((1:Int),(IntKind.i64.wrap (0-r126.1)),(⟨#[]⟩:BA),true)))) (.opt (qY n (1:Int) r126.1 (⟨#[]⟩:BA)) fun r130=>(.ask ((!r130)) (.done ((0:Int),(0:Int),(⟨#[]⟩:BA),false)) (.done ((1:Int),r126.1,(⟨#[]⟩:BA),true)))))))))) .fail))) .fail))))) .fail))
def qAI:Nat→BA→Option (Int×Int×BA×Bool)
 |0,_=>none
 |n+1,x0=>(qA3 n x0).run
abbrev qID (n:Nat):List (Ent (Rn n)):= [en (qEE n),en (qGZ n),en (qHj n)]
def qIf (n:Nat):LEnt (KB 97) (Rn n) n:=lok (zK 97) 15355 ⟨⟨[(0,aS),(2,(.c (.ptr 0 128 0 0 0))),(4,(.c (.ptr 0 256 0 0 0))),(5,aI)],[(128,⟨0,3,128,(.box [qI,qI,qS])⟩),(256,⟨0,3,128,(.box [qI,qI,qS])⟩)],[]⟩,[(.exit 1,⟨[(2,(.c (.ptr 0 128 0 0 0))),(4,(.c (.ptr 0 256 0 0 0)))],[(128,⟨0,3,128,(.box [qI,qI,qS])⟩),(256,⟨0,3,128,(.box [qI,qI,qS])⟩)],[]⟩)]⟩ (qBW n) (qID n) [] fun _=>(by kernel_rfl)
theorem qHM:∀n,Ok (Rn n) qNZ (qAI n)
 |0=>ok0 fun _=>rfl
 |n+1=>stO (T:=qA3 n) (by kernel_rfl) (qID n) [qIf n] (fun _=>(by kernel_rfl)) fun _=>(by kernel_rfl)
def qPl:Sg:=⟨180,[aI],[],⟨aI,[],[]⟩⟩
def qGc (n:Nat) (x0:Int):Tr (Int):=(.ask ((decide (x0≥(6:Int)))) (.done (1:Int)) (.ask ((x0==(5:Int))) (.done (2:Int)) (.ask ((decide (x0≥(3:Int)))) (.done (4:Int)) (.done (3:Int)))))
def qCM:Nat→Int→Option (Int)
 |0,_=>none
 |n+1,x0=>(qGc n x0).run
theorem qJH:∀n,Ok (Rn n) qPl (qCM n)
 |0=>ok0 fun _=>rfl
 |n+1=>stO (T:=qGc n) (by kernel_rfl) [] [] (fun _=>(by kernel_rfl)) fun _=>(by kernel_rfl)
def qQo:Sg:=⟨181,[aI],[],⟨aS,[],[]⟩⟩
def qHk (n:Nat) (x0:Int):Tr (BA):=(.ask (decide (12=([[(.s (⟨#[]⟩:BA))],[(.s (⟨#[43]⟩:BA))],[(.s (⟨#[45]⟩:BA))],[(.s (⟨#[42]⟩:BA))],[(.s (⟨#[47]⟩:BA))],[(.s (⟨#[38]⟩:BA))],[(.s (⟨#[61]⟩:BA))],[(.s (⟨#[60,62]⟩:BA))],[(.s (⟨#[60]⟩:BA))],[(.s (⟨#[60,61]⟩:BA))],[(.s (⟨#[62]⟩:BA))],[(.s (⟨#[62,61]⟩:BA))]]:RW).length∧0≤x0∧x0<((12:Nat):Int))) (.opt (([[(.s (⟨#[]⟩:BA))],[(.s (⟨#[43]⟩:BA))],[(.s (⟨#[45]⟩:BA))],[(.s (⟨#[42]⟩:BA))],[(.s (⟨#[47]⟩:BA))],[(.s (⟨#[38]⟩:BA))],[(.s (⟨#[61]⟩:BA))],[(.s (⟨#[60,62]⟩:BA))],[(.s (⟨#[60]⟩:BA))],[(.s (⟨#[60,61]⟩:BA))],[(.s (⟨#[62]⟩:BA))],[(.s (⟨#[62,61]⟩:BA))]]:RW)[(x0).toNat]?) fun e144=>(.opt (zR e144 0) fun y145=>(.done y145))) .fail)
def qCp:Nat→Int→Option (BA)
 |0,_=>none
 |n+1,x0=>(qHk n x0).run
theorem qJy:∀n,Ok (Rn n) qQo (qCp n)
 |0=>ok0 fun _=>rfl
 |n+1=>stO (T:=qHk n) (by kernel_rfl) [] [] (fun _=>(by kernel_rfl)) fun _=>(by kernel_rfl)
def qPm:Sg:=⟨174,[(.c (.ptr 0 0 0 0 0)),aI],[[(0,⟨0,4,175,(.box [qS,qI,qB,(.own 0 1 1 0)])⟩),(1,⟨1,14,162,(.row [])⟩)]],⟨aI,[[(0,⟨0,4,175,(.box [qS,qI,qB,(.own 0 1 1 0)])⟩),(1,⟨1,14,162,(.row [])⟩)]],[]⟩⟩
def qEl (n:Nat) (v:Int×Nat×Int×RW×BA×Int×Bool×Nat×RW):Tr ((Int×Nat×Int×RW×BA×Int×Bool×Nat×RW)⊕((Int×BA×Int×Bool×Nat×RW)⊕(BA×Int×Bool×Nat×RW))):=(.ask ((decide (v.2.2.1<((v.2.1:Nat):Int)))) (.ask (decide (v.2.1=v.2.2.2.1.length∧0≤v.2.2.1∧v.2.2.1<((v.2.1:Nat):Int))) (.opt (v.2.2.2.1[(v.2.2.1).toNat]?) fun e139=>(.opt (zC .i64 e139 0) fun y140=>(.opt (qCM n y140) fun r141=>(.ask ((r141==v.1)) (.ask (decide (v.2.1=v.2.2.2.1.length∧0≤v.2.2.1∧v.2.2.1<((v.2.1:Nat):Int))) (.opt (v.2.2.2.1[(v.2.2.1).toNat]?) fun e142=>(.opt (zC .i64 e142 0) fun y143=>(.opt (qCp n y143) fun r144=>(.opt (qAG n r144 v.2.2.2.2.1 v.2.2.2.2.2.1 v.2.2.2.2.2.2.1 v.2.2.2.2.2.2.2.1 v.2.2.2.2.2.2.2.2) fun r145=>(.ask (r145.1) (.ask (decide (v.2.1=v.2.2.2.1.length∧0≤v.2.2.1∧v.2.2.1<((v.2.1:Nat):Int))) (.opt (v.2.2.2.1[(v.2.2.1).toNat]?) fun e146=>(.opt (zC .i64 e146 0) fun y147=>(.done (.inr (.inl ((y147,r145.2.1,r145.2.2.1,r145.2.2.2.1,r145.2.2.2.2.1,r145.2.2.2.2.2))))))) .fail) (.done (.inl (v.1,v.2.1,(IntKind.i64.wrap (v.2.2.1+(1:Int))),v.2.2.2.1,r145.2.1,r145.2.2.1,r145.2.2.2.1,r145.2.2.2.2.1,r145.2.2.2.2.2)))))))) .fail) (.done (.inl (v.1,v.2.1,(IntKind.i64.wrap (v.2.2.1+(1:Int))),v.2.2.2.1,v.2.2.2.2.1,v.2.2.2.2.2.1,v.2.2.2.2.2.2.1,v.2.2.2.2.2.2.2.1,v.2.2.2.2.2.2.2.2))))))) .fail) (.done (.inr (.inr ((v.2.2.2.2.1,v.2.2.2.2.2.1,v.2.2.2.2.2.2.1,v.2.2.2.2.2.2.2.1,v.2.2.2.2.2.2.2.2))))))
def qJz (n:Nat) (x0:Int) (x1:BA) (x2:Int) (x3:Bool) (x4:Nat) (x5:RW):Tr (Int×BA×Int×Bool×Nat×RW):=(.opt (zD (qEl n) n (x0,(11:Nat),(0:Int),([[(.i .i64 (7:Int))],[(.i .i64 (9:Int))],[(.i .i64 (11:Int))],[(.i .i64 (6:Int))],[(.i .i64 (8:Int))],[(.i .i64 (10:Int))],[(.i .i64 (1:Int))],[(.i .i64 (2:Int))],[(.i .i64 (3:Int))],[(.i .i64 (4:Int))],[(.i .i64 (5:Int))]]:RW),x1,x2,x3,x4,x5)) fun r148=>(.alt r148 (fun r149=>(.done (r149.1,r149.2.1,r149.2.2.1,r149.2.2.2.1,r149.2.2.2.2.1,r149.2.2.2.2.2))) (fun r150=>(.done ((0:Int),r150.1,r150.2.1,r150.2.2.1,r150.2.2.2.1,r150.2.2.2.2)))))
def qEm:Nat→Int→BA→Int→Bool→Nat→RW→Option (Int×BA×Int×Bool×Nat×RW)
 |0,_,_,_,_,_,_=>none
 |n+1,x0,x1,x2,x3,x4,x5=>(qJz n x0 x1 x2 x3 x4 x5).run
abbrev qJ0 (n:Nat):List (Ent (Rn n)):= [en (qJH n),en (qJy n),en (qED n)]
def qMa (n:Nat):LEnt (KB 174) (Rn n) n:=lok (zK 174) 29 ⟨⟨[(0,(.c (.ptr 0 0 0 0 0))),(1,aI),(5,(.c (.own 1 448 0 0))),(6,aI)],[(448,⟨0,1,2,(.row [])⟩)],[[(0,⟨0,4,175,(.box [qS,qI,qB,(.own 0 1 1 0)])⟩),(1,⟨1,14,162,(.row [])⟩)]]⟩,[(.ret,⟨[(4,aI)],[],[[(0,⟨0,4,175,(.box [qS,qI,qB,(.own 0 1 1 0)])⟩),(1,⟨1,14,162,(.row [])⟩)]]⟩),(.exit 0,⟨[],[],[[(0,⟨0,4,175,(.box [qS,qI,qB,(.own 0 1 1 0)])⟩),(1,⟨1,14,162,(.row [])⟩)]]⟩)]⟩ (qEl n) (qJ0 n) [] fun _=>(by kernel_rfl)
theorem qOo:∀n,Ok (Rn n) qPm (qEm n)
 |0=>ok0 fun _=>rfl
 |n+1=>stO (T:=qJz n) (by kernel_rfl) (qJ0 n) [qMa n] (fun _=>(by kernel_rfl)) fun _=>(by kernel_rfl)
def qJI:Sg:=⟨134,[(.c (.ptr 0 0 0 0 0)),aI],[[(0,⟨0,4,175,(.box [qS,qI,qB,(.own 0 1 1 0)])⟩),(1,⟨1,14,162,(.row [])⟩)]],⟨aI,[[(0,⟨0,4,175,(.box [qS,qI,qB,(.own 0 1 1 0)])⟩),(1,⟨1,14,162,(.row [])⟩)]],[]⟩⟩
def qOp:Sg:=⟨173,[(.c (.ptr 0 0 0 0 0))],[[(0,⟨0,4,175,(.box [qS,qI,qB,(.own 0 1 1 0)])⟩),(1,⟨1,14,162,(.row [])⟩)]],⟨aI,[[(0,⟨0,4,175,(.box [qS,qI,qB,(.own 0 1 1 0)])⟩),(1,⟨1,14,162,(.row [])⟩)]],[]⟩⟩
def qNa:Sg:=⟨212,[(.c (.ptr 0 0 0 0 0)),aI],[[(0,⟨0,4,175,(.box [qS,qI,qB,(.own 0 1 1 0)])⟩),(1,⟨1,14,162,(.row [])⟩)]],⟨aI,[[(0,⟨0,4,175,(.box [qS,qI,qB,(.own 0 1 1 0)])⟩),(1,⟨1,14,162,(.row [])⟩)]],[]⟩⟩
def qOq:Sg:=⟨232,[(.c (.ptr 0 0 0 0 0))],[[(0,⟨0,4,175,(.box [qS,qI,qB,(.own 0 1 1 0)])⟩),(1,⟨1,14,162,(.row [])⟩)]],⟨aI,[[(0,⟨0,4,175,(.box [qS,qI,qB,(.own 0 1 1 0)])⟩),(1,⟨1,14,162,(.row [])⟩)]],[]⟩⟩
structure G_spec_l3Rd_row where
 spec_l3Rd_row:Int→BA→Int→Bool→Nat→RW→Option (Int×BA×Int×Bool×Nat×RW)
 spec_l3Rd_one:BA→Int→Bool→Nat→RW→Option (Int×BA×Int×Bool×Nat×RW)
 spec_l3Rd_call:Int→BA→Int→Bool→Nat→RW→Option (Int×BA×Int×Bool×Nat×RW)
 spec_l3Rd_arg:BA→Int→Bool→Nat→RW→Option (Int×BA×Int×Bool×Nat×RW)
def qEN (rec:G_spec_l3Rd_row) (n:Nat) (v:Int×Int×BA×Int×Bool×Nat×RW):Tr ((Int×Int×BA×Int×Bool×Nat×RW)⊕((Int×BA×Int×Bool×Nat×RW)⊕(Int×BA×Int×Bool×Nat×RW))):=(.ask ((!v.2.2.2.2.1)) (.opt (qEm n v.1 v.2.2.1 v.2.2.2.1 v.2.2.2.2.1 v.2.2.2.2.2.1 v.2.2.2.2.2.2) fun r139=>(.ask ((r139.1==(0:Int))) (.done (.inr (.inl ((v.2.1,r139.2.1,r139.2.2.1,r139.2.2.2.1,r139.2.2.2.2.1,r139.2.2.2.2.2))))) (.opt (rec.spec_l3Rd_row (IntKind.i64.wrap (v.1+(1:Int))) r139.2.1 r139.2.2.1 r139.2.2.2.1 r139.2.2.2.2.1 r139.2.2.2.2.2) fun r140=>(.ask (decide (2=([[(.i .i64 v.2.1)],[(.i .i64 r140.1)]]:RW).length)) (.opt (qr n (5:Int) r139.1 (0:Int) (0:Int) (⟨#[]⟩:BA) (0:Int) (0:Int) false false (0:Int) (0:Int) false false ([[(.i .i64 v.2.1)],[(.i .i64 r140.1)]]:RW) r140.2.1 r140.2.2.1 r140.2.2.2.1 r140.2.2.2.2.1 r140.2.2.2.2.2) fun r141=>(.done (.inl (v.1,r141.1,r141.2.1,r141.2.2.1,r141.2.2.2.1,r141.2.2.2.2.1,r141.2.2.2.2.2)))) .fail)))) (.done (.inr (.inr ((v.2.1,v.2.2.1,v.2.2.2.1,v.2.2.2.2.1,v.2.2.2.2.2.1,v.2.2.2.2.2.2))))))
def qJJ (rec:G_spec_l3Rd_row) (n:Nat) (x0:Int) (x1:BA) (x2:Int) (x3:Bool) (x4:Nat) (x5:RW):Tr (Int×BA×Int×Bool×Nat×RW):=(.ask (x3) (.done ((0:Int),x1,x2,x3,x4,x5)) (.ask ((x0==(5:Int))) (.opt (rec.spec_l3Rd_one x1 x2 x3 x4 x5) fun r137=>(.done (r137.1,r137.2.1,r137.2.2.1,r137.2.2.2.1,r137.2.2.2.2.1,r137.2.2.2.2.2))) (.opt (rec.spec_l3Rd_row (IntKind.i64.wrap (x0+(1:Int))) x1 x2 x3 x4 x5) fun r138=>(.opt (zD (qEN rec n) n (x0,r138.1,r138.2.1,r138.2.2.1,r138.2.2.2.1,r138.2.2.2.2.1,r138.2.2.2.2.2)) fun r142=>(.alt r142 (fun r143=>(.done (r143.1,r143.2.1,r143.2.2.1,r143.2.2.2.1,r143.2.2.2.2.1,r143.2.2.2.2.2))) (fun r144=>(.done (r144.1,r144.2.1,r144.2.2.1,r144.2.2.2.1,r144.2.2.2.2.1,r144.2.2.2.2.2))))))))
def qCd (n:Nat) (v:Int×BA×Int×Bool×Nat×RW):Tr ((Int×BA×Int×Bool×Nat×RW)⊕((Int×BA×Int×Bool×Nat×RW)⊕(BA×Int×Bool×Nat×RW))):=(.ask ((decide (v.1≤(5:Int)))) (.opt (qBS n v.1) fun r86=>(.ask (decide (0≤(1:Int)∧(1:Int)≤(r86.size:Int)∧(r86.size:Int)≤r86.size)) (.ask ((decide ((IntKind.i64.wrap (v.2.2.1+((r86.extract ((1:Int)).toNat ((r86.size:Int)).toNat).size:Int)))≤(v.2.1.size:Int)))) (.ask (decide (0≤v.2.2.1∧v.2.2.1≤(IntKind.i64.wrap (v.2.2.1+((r86.extract ((1:Int)).toNat ((r86.size:Int)).toNat).size:Int)))∧(IntKind.i64.wrap (v.2.2.1+((r86.extract ((1:Int)).toNat ((r86.size:Int)).toNat).size:Int)))≤v.2.1.size)) (.ask (((v.2.1.extract (v.2.2.1).toNat ((IntKind.i64.wrap (v.2.2.1+((r86.extract ((1:Int)).toNat ((r86.size:Int)).toNat).size:Int)))).toNat).toList==(r86.extract ((1:Int)).toNat ((r86.size:Int)).toNat).toList)) (.opt (qC0 n v.1) fun r87=>(.opt (qr n (1:Int) (0:Int) r87.1 r87.2.1 r87.2.2 (0:Int) (0:Int) false false (0:Int) (0:Int) false false ([]:RW) v.2.1 (IntKind.i64.wrap (v.2.2.1+((r86.extract ((1:Int)).toNat ((r86.size:Int)).toNat).size:Int))) v.2.2.2.1 v.2.2.2.2.1 v.2.2.2.2.2) fun r88=>(.done (.inr (.inl ((r88.1,r88.2.1,r88.2.2.1,r88.2.2.2.1,r88.2.2.2.2.1,r88.2.2.2.2.2))))))) (.done (.inl ((IntKind.i64.wrap (v.1+(1:Int))),v.2.1,v.2.2.1,v.2.2.2.1,v.2.2.2.2.1,v.2.2.2.2.2)))) .fail) (.done (.inl ((IntKind.i64.wrap (v.1+(1:Int))),v.2.1,v.2.2.1,v.2.2.2.1,v.2.2.2.2.1,v.2.2.2.2.2)))) .fail)) (.done (.inr (.inr ((v.2.1,v.2.2.1,v.2.2.2.1,v.2.2.2.2.1,v.2.2.2.2.2))))))
def qDC (rec:G_spec_l3Rd_row) (n:Nat) (v:BA×Int×BA×Int×Bool×Nat×RW):Tr ((BA×Int×BA×Int×Bool×Nat×RW)⊕((Int×BA×Int×Bool×Nat×RW)⊕(BA×BA×Int×Bool×Nat×RW))):=(.ask ((decide (v.2.1≤(10:Int)))) (.opt (qCb n v.2.1) fun r104=>(.ask ((r104.toList==v.1.toList)) (.opt (qAG n (⟨#[40]⟩:BA) v.2.2.1 v.2.2.2.1 v.2.2.2.2.1 v.2.2.2.2.2.1 v.2.2.2.2.2.2) fun r105=>(.ask (r105.1) (.opt (rec.spec_l3Rd_call v.2.1 r105.2.1 r105.2.2.1 r105.2.2.2.1 r105.2.2.2.2.1 r105.2.2.2.2.2) fun r106=>(.done (.inr (.inl ((r106.1,r106.2.1,r106.2.2.1,r106.2.2.2.1,r106.2.2.2.2.1,r106.2.2.2.2.2)))))) (.done (.inl (v.1,(IntKind.i64.wrap (v.2.1+(1:Int))),r105.2.1,r105.2.2.1,r105.2.2.2.1,r105.2.2.2.2.1,r105.2.2.2.2.2))))) (.done (.inl (v.1,(IntKind.i64.wrap (v.2.1+(1:Int))),v.2.2.1,v.2.2.2.1,v.2.2.2.2.1,v.2.2.2.2.2.1,v.2.2.2.2.2.2))))) (.done (.inr (.inr ((v.1,v.2.2.1,v.2.2.2.1,v.2.2.2.2.1,v.2.2.2.2.2.1,v.2.2.2.2.2.2))))))
def qJK (rec:G_spec_l3Rd_row) (n:Nat) (x0:BA) (x1:Int) (x2:Bool) (x3:Nat) (x4:RW):Tr (Int×BA×Int×Bool×Nat×RW):=(.opt (qAG n (⟨#[45]⟩:BA) x0 x1 x2 x3 x4) fun r56=>(.ask (r56.1) (.opt (rec.spec_l3Rd_row (5:Int) r56.2.1 r56.2.2.1 r56.2.2.2.1 r56.2.2.2.2.1 r56.2.2.2.2.2) fun r57=>(.ask (decide (1=([[(.i .i64 r57.1)]]:RW).length)) (.opt (qr n (4:Int) (0:Int) (0:Int) (0:Int) (⟨#[]⟩:BA) (0:Int) (0:Int) false false (0:Int) (0:Int) false false ([[(.i .i64 r57.1)]]:RW) r57.2.1 r57.2.2.1 r57.2.2.2.1 r57.2.2.2.2.1 r57.2.2.2.2.2) fun r72=>(.done (r72.1,r72.2.1,r72.2.2.1,r72.2.2.2.1,r72.2.2.2.2.1,r72.2.2.2.2.2))) .fail)) (.opt (qAG n (⟨#[40]⟩:BA) r56.2.1 r56.2.2.1 r56.2.2.2.1 r56.2.2.2.2.1 r56.2.2.2.2.2) fun r73=>(.ask (r73.1) (.opt (rec.spec_l3Rd_row (1:Int) r73.2.1 r73.2.2.1 r73.2.2.2.1 r73.2.2.2.2.1 r73.2.2.2.2.2) fun r74=>(.opt (qAG n (⟨#[41]⟩:BA) r74.2.1 r74.2.2.1 r74.2.2.2.1 r74.2.2.2.2.1 r74.2.2.2.2.2) fun r75=>(.ask ((!r75.1)) (.done (r74.1,r75.2.1,r75.2.2.1,true,r75.2.2.2.2.1,r75.2.2.2.2.2)) (.done (r74.1,r75.2.1,r75.2.2.1,r75.2.2.2.1,r75.2.2.2.2.1,r75.2.2.2.2.2))))) (.opt (qAG n (⟨#[34]⟩:BA) r73.2.1 r73.2.2.1 r73.2.2.2.1 r73.2.2.2.2.1 r73.2.2.2.2.2) fun r76=>(.ask (r76.1) (.opt (qFI n r76.2.1 r76.2.2.1 r76.2.2.2.1 r76.2.2.2.2.1 r76.2.2.2.2.2) fun r84=>(.done (r84.1,r84.2.1,r84.2.2.1,r84.2.2.2.1,r84.2.2.2.2.1,r84.2.2.2.2.2))) (.opt (qAG n (⟨#[35]⟩:BA) r76.2.1 r76.2.2.1 r76.2.2.2.1 r76.2.2.2.2.1 r76.2.2.2.2.2) fun r85=>(.ask (r85.1) (.opt (zD (qCd n) n ((1:Int),r85.2.1,r85.2.2.1,r85.2.2.2.1,r85.2.2.2.2.1,r85.2.2.2.2.2)) fun r89=>(.alt r89 (fun r90=>(.done (r90.1,r90.2.1,r90.2.2.1,r90.2.2.2.1,r90.2.2.2.2.1,r90.2.2.2.2.2))) (fun r91=>(.done ((0:Int),r91.1,r91.2.1,true,r91.2.2.2.1,r91.2.2.2.2))))) (.opt (qC1 n r85.2.1 r85.2.2.1 r85.2.2.2.1 r85.2.2.2.2.1 r85.2.2.2.2.2) fun r103=>(.opt (zD (qDC rec n) n (r103.1,(1:Int),r103.2.1,r103.2.2.1,r103.2.2.2.1,r103.2.2.2.2.1,r103.2.2.2.2.2)) fun r107=>(.alt r107 (fun r108=>(.done (r108.1,r108.2.1,r108.2.2.1,r108.2.2.2.1,r108.2.2.2.2.1,r108.2.2.2.2.2))) (fun r109=>(.opt (qAI n r109.1) fun r131=>(.ask (r131.2.2.2) (.ask ((!(r109.1.toList==(⟨#[]⟩:BA).toList))) (.opt (qr n (1:Int) (0:Int) r131.1 r131.2.1 r131.2.2.1 (0:Int) (0:Int) false false (0:Int) (0:Int) false false ([]:RW) r109.2.1 r109.2.2.1 r109.2.2.2.1 r109.2.2.2.2.1 r109.2.2.2.2.2) fun r132=>(.done (r132.1,r132.2.1,r132.2.2.1,r132.2.2.2.1,r132.2.2.2.2.1,r132.2.2.2.2.2))) (.opt (qAn n r109.1) fun r133=>(.ask ((!r133.2.2.2.2)) (.done ((0:Int),r109.2.1,r109.2.2.1,true,r109.2.2.2.2.1,r109.2.2.2.2.2)) (.opt (qr n (2:Int) (0:Int) (0:Int) (0:Int) (⟨#[]⟩:BA) r133.1 r133.2.1 r133.2.2.1 r133.2.2.2.1 (0:Int) (0:Int) false false ([]:RW) r109.2.1 r109.2.2.1 r109.2.2.2.1 r109.2.2.2.2.1 r109.2.2.2.2.2) fun r134=>(.done (r134.1,r134.2.1,r134.2.2.1,r134.2.2.2.1,r134.2.2.2.2.1,r134.2.2.2.2.2)))))) (.opt (qAn n r109.1) fun r135=>(.ask ((!r135.2.2.2.2)) (.done ((0:Int),r109.2.1,r109.2.2.1,true,r109.2.2.2.2.1,r109.2.2.2.2.2)) (.opt (qr n (2:Int) (0:Int) (0:Int) (0:Int) (⟨#[]⟩:BA) r135.1 r135.2.1 r135.2.2.1 r135.2.2.2.1 (0:Int) (0:Int) false false ([]:RW) r109.2.1 r109.2.2.1 r109.2.2.2.1 r109.2.2.2.2.1 r109.2.2.2.2.2) fun r136=>(.done (r136.1,r136.2.1,r136.2.2.1,r136.2.2.2.1,r136.2.2.2.2.1,r136.2.2.2.2.2)))))))))))))))))))
def qDy (rec:G_spec_l3Rd_row) (n:Nat) (v:Int×Nat×RW×BA×Int×Bool×Nat×RW):Tr ((Int×Nat×RW×BA×Int×Bool×Nat×RW)⊕((Int×BA×Int×Bool×Nat×RW)⊕(BA×Int×Bool×Nat×RW))):=(.ask ((!v.2.2.2.2.2.1)) (.opt (rec.spec_l3Rd_arg v.2.2.2.1 v.2.2.2.2.1 v.2.2.2.2.2.1 v.2.2.2.2.2.2.1 v.2.2.2.2.2.2.2) fun r108=>(.ask (decide (1=([[(.i .i64 r108.1)]]:RW).length)) (.ask (decide (v.2.1=v.2.2.1.length∧0<1∧0<8∧(v.2.1+([[(.i .i64 r108.1)]]:RW).length)*8≤140737488355328∧([[(.i .i64 r108.1)]]:RW).all (fun e=>e.length==1)=true)) (.opt (qAG n (⟨#[41]⟩:BA) r108.2.1 r108.2.2.1 r108.2.2.2.1 r108.2.2.2.2.1 r108.2.2.2.2.2) fun r109=>(.ask (r109.1) (.ask (decide ((v.2.1+1)=(v.2.2.1++([[(.i .i64 r108.1)]]:RW)).length)) (.opt (qr n (6:Int) v.1 (0:Int) (0:Int) (⟨#[]⟩:BA) (0:Int) (0:Int) false false (0:Int) (0:Int) false false (v.2.2.1++([[(.i .i64 r108.1)]]:RW)) r109.2.1 r109.2.2.1 r109.2.2.2.1 r109.2.2.2.2.1 r109.2.2.2.2.2) fun r110=>(.done (.inr (.inl ((r110.1,r110.2.1,r110.2.2.1,r110.2.2.2.1,r110.2.2.2.2.1,r110.2.2.2.2.2)))))) .fail) (.opt (qAG n (⟨#[44]⟩:BA) r109.2.1 r109.2.2.1 r109.2.2.2.1 r109.2.2.2.2.1 r109.2.2.2.2.2) fun r111=>(.ask ((!r111.1)) (.done (.inl (v.1,(v.2.1+1),(v.2.2.1++([[(.i .i64 r108.1)]]:RW)),r111.2.1,r111.2.2.1,true,r111.2.2.2.2.1,r111.2.2.2.2.2))) (.done (.inl (v.1,(v.2.1+1),(v.2.2.1++([[(.i .i64 r108.1)]]:RW)),r111.2.1,r111.2.2.1,r111.2.2.2.1,r111.2.2.2.2.1,r111.2.2.2.2.2))))))) .fail) .fail)) (.done (.inr (.inr ((v.2.2.2.1,v.2.2.2.2.1,v.2.2.2.2.2.1,v.2.2.2.2.2.2.1,v.2.2.2.2.2.2.2))))))
def qIE (rec:G_spec_l3Rd_row) (n:Nat) (x0:Int) (x1:BA) (x2:Int) (x3:Bool) (x4:Nat) (x5:RW):Tr (Int×BA×Int×Bool×Nat×RW):=(.opt (zD (qDy rec n) n (x0,(0:Nat),([]:RW),x1,x2,x3,x4,x5)) fun r112=>(.alt r112 (fun r113=>(.done (r113.1,r113.2.1,r113.2.2.1,r113.2.2.2.1,r113.2.2.2.2.1,r113.2.2.2.2.2))) (fun r114=>(.done ((0:Int),r114.1,r114.2.1,r114.2.2.1,r114.2.2.2.1,r114.2.2.2.2)))))
def qJL (rec:G_spec_l3Rd_row) (n:Nat) (x0:BA) (x1:Int) (x2:Bool) (x3:Nat) (x4:RW):Tr (Int×BA×Int×Bool×Nat×RW):=(.opt (qBh n x0 x1 x2 x3 x4) fun r108=>(.opt (qC1 n r108.1 r108.2.1 r108.2.2.1 r108.2.2.2.1 r108.2.2.2.2) fun r109=>(.opt (qAn n r109.1) fun r154=>(.ask (r154.2.2.2.2) (.opt (qAG n (⟨#[58]⟩:BA) r109.2.1 r109.2.2.1 r109.2.2.2.1 r109.2.2.2.2.1 r109.2.2.2.2.2) fun r155=>(.ask (r155.1) (.opt (qBh n r155.2.1 r155.2.2.1 r155.2.2.2.1 r155.2.2.2.2.1 r155.2.2.2.2.2) fun r156=>(.opt (qC1 n r156.1 r156.2.1 r156.2.2.1 r156.2.2.2.1 r156.2.2.2.2) fun r157=>(.opt (qAn n r157.1) fun r158=>(.ask ((!r158.2.2.2.2)) (.done ((0:Int),r157.2.1,r157.2.2.1,true,r157.2.2.2.2.1,r157.2.2.2.2.2)) (.opt (qr n (3:Int) (0:Int) (0:Int) (0:Int) (⟨#[]⟩:BA) r154.1 r154.2.1 r154.2.2.1 r154.2.2.2.1 r158.1 r158.2.1 r158.2.2.1 r158.2.2.2.1 ([]:RW) r157.2.1 r157.2.2.1 r157.2.2.2.1 r157.2.2.2.2.1 r157.2.2.2.2.2) fun r159=>(.done (r159.1,r159.2.1,r159.2.2.1,r159.2.2.2.1,r159.2.2.2.2.1,r159.2.2.2.2.2))))))) (.opt (rec.spec_l3Rd_row (1:Int) r155.2.1 r108.2.1 r155.2.2.2.1 r155.2.2.2.2.1 r155.2.2.2.2.2) fun r160=>(.done (r160.1,r160.2.1,r160.2.2.1,r160.2.2.2.1,r160.2.2.2.2.1,r160.2.2.2.2.2))))) (.opt (rec.spec_l3Rd_row (1:Int) r109.2.1 r108.2.1 r109.2.2.2.1 r109.2.2.2.2.1 r109.2.2.2.2.2) fun r161=>(.done (r161.1,r161.2.1,r161.2.2.1,r161.2.2.2.1,r161.2.2.2.2.1,r161.2.2.2.2.2)))))))
def qc:Nat→G_spec_l3Rd_row
 |0=>⟨fun _ _ _ _ _ _=>none,fun _ _ _ _ _=>none,fun _ _ _ _ _ _=>none,fun _ _ _ _ _=>none⟩
 |n+1=>⟨fun x0 x1 x2 x3 x4 x5=>(qJJ (qc n) n x0 x1 x2 x3 x4 x5).run,fun x0 x1 x2 x3 x4=>(qJK (qc n) n x0 x1 x2 x3 x4).run,fun x0 x1 x2 x3 x4 x5=>(qIE (qc n) n x0 x1 x2 x3 x4 x5).run,fun x0 x1 x2 x3 x4=>(qJL (qc n) n x0 x1 x2 x3 x4).run⟩
def qEF (n:Nat) (x0:Int) (x1:BA) (x2:Int) (x3:Bool) (x4:Nat) (x5:RW):Option (Int×BA×Int×Bool×Nat×RW):=(qc n).spec_l3Rd_row x0 x1 x2 x3 x4 x5
def qJM (n:Nat) (x0:BA) (x1:Int) (x2:Bool) (x3:Nat) (x4:RW):Option (Int×BA×Int×Bool×Nat×RW):=(qc n).spec_l3Rd_one x0 x1 x2 x3 x4
def qIF (n:Nat) (x0:Int) (x1:BA) (x2:Int) (x3:Bool) (x4:Nat) (x5:RW):Option (Int×BA×Int×Bool×Nat×RW):=(qc n).spec_l3Rd_call x0 x1 x2 x3 x4 x5
def qJN (n:Nat) (x0:BA) (x1:Int) (x2:Bool) (x3:Nat) (x4:RW):Option (Int×BA×Int×Bool×Nat×RW):=(qc n).spec_l3Rd_arg x0 x1 x2 x3 x4
def qA4 (n:Nat):Prop:=
 Ok (Rn n) qJI (qEF n)∧
 Ok (Rn n) qOp (qJM n)∧
 Ok (Rn n) qNa (qIF n)∧
 Ok (Rn n) qOq (qJN n)
abbrev qJO (n:Nat) (ih:qA4 n):List (Ent (Rn n)):= [en ih.2.1,en ih.1,en (qOo n),en (qCz n)]
def qLk (n:Nat) (ih:qA4 n):LEnt (KB 134) (Rn n) n:=lok (zK 134) 62 ⟨⟨[(0,(.c (.ptr 0 0 0 0 0))),(1,aI),(5,aI)],[],[[(0,⟨0,4,175,(.box [qS,qI,qB,(.own 0 1 1 0)])⟩),(1,⟨1,14,162,(.row [])⟩)]]⟩,[(.ret,⟨[(4,aI)],[],[[(0,⟨0,4,175,(.box [qS,qI,qB,(.own 0 1 1 0)])⟩),(1,⟨1,14,162,(.row [])⟩)]]⟩),(.exit 0,⟨[(5,aI)],[],[[(0,⟨0,4,175,(.box [qS,qI,qB,(.own 0 1 1 0)])⟩),(1,⟨1,14,162,(.row [])⟩)]]⟩)]⟩ (qEN (qc n) n) (qJO n ih) [] fun _=>(by kernel_rfl)
abbrev qFx (n:Nat) (ih:qA4 n):List (Ent (Rn n)):= [en (qED n),en ih.1,en (qCz n),en (qMW n),en (qGZ n),en (qOl n),en (qHK n),en (qMX n),en ih.2.2.1,en (qHM n),en (qHL n)]
def qJ1 (n:Nat) (ih:qA4 n):LEnt (KB 173) (Rn n) n:=lok (zK 173) 7161 ⟨⟨[(0,(.c (.ptr 0 0 0 0 0))),(5,aI)],[],[[(0,⟨0,4,175,(.box [qS,qI,qB,(.own 0 1 1 0)])⟩),(1,⟨1,14,162,(.row [])⟩)]]⟩,[(.ret,⟨[(2,aI)],[],[[(0,⟨0,4,175,(.box [qS,qI,qB,(.own 0 1 1 0)])⟩),(1,⟨1,14,162,(.row [])⟩)]]⟩),(.exit 1,⟨[(0,(.c (.ptr 0 0 0 0 0)))],[],[[(0,⟨0,4,175,(.box [qS,qI,qB,(.own 0 1 1 0)])⟩),(1,⟨1,14,162,(.row [])⟩)]]⟩)]⟩ (qCd n) (qFx n ih) [] fun _=>(by kernel_rfl)
def qLl (n:Nat) (ih:qA4 n):LEnt (KB 173) (Rn n) n:=lok (zK 173) 61 ⟨⟨[(0,(.c (.ptr 0 0 0 0 0))),(7,aS),(8,aI)],[],[[(0,⟨0,4,175,(.box [qS,qI,qB,(.own 0 1 1 0)])⟩),(1,⟨1,14,162,(.row [])⟩)]]⟩,[(.ret,⟨[(2,aI)],[],[[(0,⟨0,4,175,(.box [qS,qI,qB,(.own 0 1 1 0)])⟩),(1,⟨1,14,162,(.row [])⟩)]]⟩),(.exit 3,⟨[(0,(.c (.ptr 0 0 0 0 0))),(7,aS)],[],[[(0,⟨0,4,175,(.box [qS,qI,qB,(.own 0 1 1 0)])⟩),(1,⟨1,14,162,(.row [])⟩)]]⟩)]⟩ (qDC (qc n) n) (qFx n ih) [] fun _=>(by kernel_rfl)
abbrev qIG (n:Nat) (ih:qA4 n):List (Ent (Rn n)):= [en ih.2.2.2,en (qED n),en (qCz n)]
def qK0 (n:Nat) (ih:qA4 n):LEnt (KB 212) (Rn n) n:=lok (zK 212) 14 ⟨⟨[(0,(.c (.ptr 0 0 0 0 0))),(1,aI),(5,(.c (.own 1 384 0 0)))],[(384,⟨0,1,2,(.row [])⟩)],[[(0,⟨0,4,175,(.box [qS,qI,qB,(.own 0 1 1 0)])⟩),(1,⟨1,14,162,(.row [])⟩)]]⟩,[(.ret,⟨[(4,aI)],[],[[(0,⟨0,4,175,(.box [qS,qI,qB,(.own 0 1 1 0)])⟩),(1,⟨1,14,162,(.row [])⟩)]]⟩),(.exit 0,⟨[],[],[[(0,⟨0,4,175,(.box [qS,qI,qB,(.own 0 1 1 0)])⟩),(1,⟨1,14,162,(.row [])⟩)]]⟩)]⟩ (qDy (qc n) n) (qIG n ih) [] fun _=>(by kernel_rfl)
abbrev qOr (n:Nat) (ih:qA4 n):List (Ent (Rn n)):= [en (qDw n),en (qHK n),en (qHL n),en (qED n),en (qCz n),en ih.1]
theorem qA5:∀n,qA4 n
 |0=>⟨ok0 fun _=>rfl,ok0 fun _=>rfl,ok0 fun _=>rfl,ok0 fun _=>rfl⟩
 |n+1=>⟨stO (T:=qJJ (qc n) n) (by kernel_rfl) (qJO n (qA5 n)) [qLk n (qA5 n)] (fun _=>(by kernel_rfl)) fun _=>(by kernel_rfl),stO (T:=qJK (qc n) n) (by kernel_rfl) (qFx n (qA5 n)) [qJ1 n (qA5 n),qLl n (qA5 n)] (fun _=>(by kernel_rfl)) fun _=>(by kernel_rfl),stO (T:=qIE (qc n) n) (by kernel_rfl) (qIG n (qA5 n)) [qK0 n (qA5 n)] (fun _=>(by kernel_rfl)) fun _=>(by kernel_rfl),stO (T:=qJL (qc n) n) (by kernel_rfl) (qOr n (qA5 n)) [] (fun _=>(by kernel_rfl)) fun _=>(by kernel_rfl)⟩
theorem qNb (n:Nat):Ok (Rn n) qJI (qEF n):=(qA5 n).1
def qHl:Sg:=⟨177,[aL,aI],[],⟨aI,[],[]⟩⟩
def qA6 (rec:RW→Int→Option (Int)) (n:Nat) (v:RW×Int×Int×Int):Tr ((RW×Int×Int×Int)⊕((Int)⊕(Int))):=(.ask ((decide (v.2.2.2≥(0:Int)))) (.ask ((decide (v.2.2.1<(0:Int)))) (.done (.inr (.inl ((-1:Int))))) (.ask (decide (0≤v.2.1∧v.2.1<v.1.length)) (.opt (v.1[(v.2.1).toNat]?) fun e182=>(.ask (decide (e182.length=14)) (.opt (zd e182 13) fun y183=>(.ask (decide (0≤v.2.2.2∧v.2.2.2<y183.length)) (.opt (y183[(v.2.2.2).toNat]?) fun e184=>(.ask (decide (e184.length=1)) (.opt (zC .i64 e184 0) fun y185=>(.ask ((y185 !=v.2.2.1)) (.done (.inr (.inl ((-1:Int))))) (.opt (rec v.1 v.2.2.1) fun r186=>(.ask ((decide (r186<(0:Int)))) (.done (.inr (.inl ((-1:Int))))) (.done (.inl (v.1,v.2.1,(IntKind.i64.wrap (r186-(1:Int))),(IntKind.i64.wrap (v.2.2.2-(1:Int)))))))))) .fail)) .fail)) .fail)) .fail)) (.done (.inr (.inr (v.2.2.1)))))
def qHm (rec:RW→Int→Option (Int)) (n:Nat) (x0:RW) (x1:Int):Tr (Int):=(.ask (decide (0≤x1∧x1<x0.length)) (.opt (x0[(x1).toNat]?) fun e180=>(.ask (decide (e180.length=14)) (.opt (zd e180 13) fun y181=>(.opt (zD (qA6 rec n) n (x0,x1,(IntKind.i64.wrap (x1-(1:Int))),(IntKind.i64.wrap ((y181.length:Int)-(1:Int))))) fun r187=>(.alt r187 (fun r188=>(.done r188)) (fun r189=>(.done (IntKind.i64.wrap (r189+(1:Int)))))))) .fail)) .fail)
def qAo:Nat→RW→Int→Option (Int)
 |0,_,_=>none
 |n+1,x0,x1=>(qHm (qAo n) n x0 x1).run
abbrev qLS (n:Nat) (ih:Ok (Rn n) qHl (qAo n)):List (Ent (Rn n)):= [en ih]
def qNc (n:Nat) (ih:Ok (Rn n) qHl (qAo n)):LEnt (KB 177) (Rn n) n:=lok (zK 177) 29 ⟨⟨[(0,aL),(1,aI),(5,aI),(6,aI)],[],[]⟩,[(.ret,⟨[(4,aI)],[],[]⟩),(.exit 0,⟨[(5,aI)],[],[]⟩)]⟩ (qA6 (qAo n) n) (qLS n ih) [] fun _=>(by kernel_rfl)
theorem qGd:∀n,Ok (Rn n) qHl (qAo n)
 |0=>ok0 fun _=>rfl
 |n+1=>stO (T:=qHm (qAo n) n) (by kernel_rfl) (qLS n (qGd n)) [qNc n (qGd n)] (fun _=>(by kernel_rfl)) fun _=>(by kernel_rfl)
def qHn:Sg:=⟨178,[aL,aI],[],⟨aI,[],[]⟩⟩
def qC3 (rec:RW→Int→Option (Int)) (n:Nat) (v:RW×Int×Int×Int):Tr ((RW×Int×Int×Int)⊕((Int))):=(.ask (decide (0≤v.2.1∧v.2.1<v.1.length)) (.opt (v.1[(v.2.1).toNat]?) fun e193=>(.ask (decide (e193.length=14)) (.opt (zd e193 13) fun y194=>(.ask ((decide (v.2.2.2<(y194.length:Int)))) (.ask (decide (0≤v.2.1∧v.2.1<v.1.length)) (.opt (v.1[(v.2.1).toNat]?) fun e195=>(.ask (decide (e195.length=14)) (.opt (zd e195 13) fun y196=>(.ask (decide (0≤v.2.2.2∧v.2.2.2<y196.length)) (.opt (y196[(v.2.2.2).toNat]?) fun e197=>(.ask (decide (e197.length=1)) (.opt (zC .i64 e197 0) fun y198=>(.opt (rec v.1 y198) fun r199=>(.done (.inl (v.1,v.2.1,(if r199>v.2.2.1 then r199 else v.2.2.1),(IntKind.i64.wrap (v.2.2.2+(1:Int)))))))) .fail)) .fail)) .fail)) .fail) (.done (.inr (v.2.2.1))))) .fail)) .fail)
def qHo (rec:RW→Int→Option (Int)) (n:Nat) (x0:RW) (x1:Int):Tr (Int):=(.opt (zD (qC3 rec n) n (x0,x1,(0:Int),(0:Int))) fun r200=>(.done (IntKind.i64.wrap (r200+(1:Int)))))
def qAp:Nat→RW→Int→Option (Int)
 |0,_,_=>none
 |n+1,x0,x1=>(qHo (qAp n) n x0 x1).run
abbrev qLT (n:Nat) (ih:Ok (Rn n) qHn (qAp n)):List (Ent (Rn n)):= [en ih]
def qNd (n:Nat) (ih:Ok (Rn n) qHn (qAp n)):LEnt (KB 178) (Rn n) n:=lok (zK 178) 29 ⟨⟨[(0,aL),(1,aI),(5,aI),(6,aI)],[],[]⟩,[(.exit 0,⟨[(5,aI)],[],[]⟩)]⟩ (qC3 (qAp n) n) (qLT n ih) [] fun _=>(by kernel_rfl)
theorem qGe:∀n,Ok (Rn n) qHn (qAp n)
 |0=>ok0 fun _=>rfl
 |n+1=>stO (T:=qHo (qAp n) n) (by kernel_rfl) (qLT n (qGe n)) [qNd n (qGe n)] (fun _=>(by kernel_rfl)) fun _=>(by kernel_rfl)
def qNe:Sg:=⟨136,[aL],[],⟨aB,[],[]⟩⟩
def qAh (n:Nat) (v:RW×Int×Int):Tr ((RW×Int×Int)⊕((Bool)⊕(RW×Int))):=(.ask (decide (0≤v.2.1∧v.2.1<v.1.length)) (.opt (v.1[(v.2.1).toNat]?) fun e163=>(.ask (decide (e163.length=14)) (.opt (zd e163 13) fun y164=>(.ask ((decide (v.2.2<(y164.length:Int)))) (.ask (decide (0≤v.2.1∧v.2.1<v.1.length)) (.opt (v.1[(v.2.1).toNat]?) fun e165=>(.ask (decide (e165.length=14)) (.opt (zd e165 13) fun y166=>(.ask (decide (0≤v.2.2∧v.2.2<y166.length)) (.opt (y166[(v.2.2).toNat]?) fun e167=>(.ask (decide (e167.length=1)) (.opt (zC .i64 e167 0) fun y168=>(.opt (qAq n y168 (0:Int) (IntKind.i64.wrap (v.2.1-(1:Int)))) fun r169=>(.ask ((!r169)) (.done (.inr (.inl (false)))) (.ask (decide (0≤y168∧y168<v.1.length)) (.opt (v.1[(y168).toNat]?) fun e170=>(.ask (decide (e170.length=14)) (.opt (zC .i64 e170 0) fun y171=>(.ask ((y171==(3:Int))) (.ask (decide (0≤v.2.1∧v.2.1<v.1.length)) (.opt (v.1[(v.2.1).toNat]?) fun e172=>(.ask (decide (e172.length=14)) (.opt (zC .i64 e172 0) fun y173=>(.ask ((y173 !=(6:Int))) (.done (.inr (.inl (false)))) (.done (.inl (v.1,v.2.1,(IntKind.i64.wrap (v.2.2+(1:Int)))))))) .fail)) .fail) (.done (.inl (v.1,v.2.1,(IntKind.i64.wrap (v.2.2+(1:Int)))))))) .fail)) .fail)))) .fail)) .fail)) .fail)) .fail) (.done (.inr (.inr ((v.1,v.2.1))))))) .fail)) .fail)
def qBA (n:Nat) (v:RW×Int):Tr ((RW×Int)⊕((Bool)⊕(RW))):=(.ask ((decide (v.2<(v.1.length:Int)))) (.ask (decide (0≤v.2∧v.2<v.1.length)) (.opt (v.1[(v.2).toNat]?) fun e147=>(.ask (decide (e147.length=14)) (.opt (zC .i64 e147 0) fun y148=>(.opt (zC .i64 e147 1) fun y149=>(.opt (zC .i64 e147 2) fun y150=>(.opt (zC .i64 e147 3) fun y151=>(.opt (zR e147 4) fun y152=>(.opt (zC .i64 e147 5) fun y153=>(.opt (zC .i64 e147 6) fun y154=>(.opt (zAG e147 7) fun y155=>(.opt (zAG e147 8) fun y156=>(.opt (zC .i64 e147 9) fun y157=>(.opt (zC .i64 e147 10) fun y158=>(.opt (zAG e147 11) fun y159=>(.opt (zAG e147 12) fun y160=>(.opt (zd e147 13) fun y161=>(.opt (qB4 n y148 y149 y150 y151 y152 y153 y154 y155 y156 y157 y158 y159 y160 y161) fun r162=>(.ask ((!r162)) (.done (.inr (.inl (false)))) (.opt (zD (qAh n) n (v.1,v.2,(0:Int))) fun r174=>(.alt r174 (fun r175=>(.done (.inr (.inl (r175))))) (fun r176=>(.done (.inl (r176.1,(IntKind.i64.wrap (r176.2+(1:Int))))))))))))))))))))))))) .fail)) .fail) (.done (.inr (.inr (v.1)))))
def qC4 (n:Nat) (x0:RW):Tr (Bool):=(.ask ((decide ((x0.length:Int)<(1:Int)))) (.done false) (.ask ((decide ((x0.length:Int)>(60:Int)))) (.done false) (.opt (zD (qBA n) n (x0,(0:Int))) fun r177=>(.alt r177 (fun r178=>(.done r178)) (fun r179=>(.opt (qAo n r179 (IntKind.i64.wrap ((r179.length:Int)-(1:Int)))) fun r190=>(.ask ((r190==(0:Int))) (.ask (decide (0≤(IntKind.i64.wrap ((r179.length:Int)-(1:Int)))∧(IntKind.i64.wrap ((r179.length:Int)-(1:Int)))<r179.length)) (.opt (r179[((IntKind.i64.wrap ((r179.length:Int)-(1:Int)))).toNat]?) fun e191=>(.ask (decide (e191.length=14)) (.opt (zC .i64 e191 0) fun y192=>(.ask ((y192 !=(3:Int))) (.opt (qAp n r179 (IntKind.i64.wrap ((r179.length:Int)-(1:Int)))) fun r201=>(.done (decide (r201≤(12:Int))))) (.done false))) .fail)) .fail) (.done false))))))))
def qBi:Nat→RW→Option (Bool)
 |0,_=>none
 |n+1,x0=>(qC4 n x0).run
abbrev qFJ (n:Nat):List (Ent (Rn n)):= [en (qH8 n),en (qDn n),en (qGd n),en (qGe n)]
def qJ2 (n:Nat):LEnt (lb 29 (KB 136)) (Rn n) n:=lok (Uniq.pick (zK 136) 29) 475 ⟨⟨[(0,aL),(3,aI),(4,aI)],[],[]⟩,[(.ret,⟨[(2,aB)],[],[]⟩),(.exit 2,⟨[(0,aL),(3,aI)],[],[]⟩)]⟩ (qAh n) (qFJ n) [] fun _=>(by kernel_rfl)
def qK1 (n:Nat):LEnt (KB 136) (Rn n) n:=lok (zK 136) 29 ⟨⟨[(0,aL),(3,aI)],[],[]⟩,[(.ret,⟨[(2,aB)],[],[]⟩),(.exit 0,⟨[(0,aL)],[],[]⟩)]⟩ (qBA n) (qFJ n) [qJ2 n] fun _=>(by kernel_rfl)
theorem qHN:∀n,Ok (Rn n) qNe (qBi n)
 |0=>ok0 fun _=>rfl
 |n+1=>stO (T:=qC4 n) (by kernel_rfl) (qFJ n) [qK1 n] (fun _=>(by kernel_rfl)) fun _=>(by kernel_rfl)
def qLm:Sg:=⟨93,[aS],[],⟨(.tup [(false,[qL]),(false,[qB])]),[],[]⟩⟩
def qGf (n:Nat) (x0:BA):Tr (RW×Bool):=(.opt (qCK n x0) fun r52=>(.ask ((!r52)) (.ask (decide (0=([]:RW).length)) (.done (([]:RW),false)) .fail) (.opt (qEF n (1:Int) x0 (0:Int) false (0:Nat) ([]:RW)) fun r145=>(.opt (qBh n r145.2.1 r145.2.2.1 r145.2.2.2.1 r145.2.2.2.2.1 r145.2.2.2.2.2) fun r146=>(.ask (r146.2.2.1) (.ask (decide (0=([]:RW).length)) (.done (([]:RW),false)) .fail) (.ask ((decide (r146.2.1<(x0.size:Int)))) (.ask (decide (0=([]:RW).length)) (.done (([]:RW),false)) .fail) (.ask (decide (r146.2.2.2.1=r146.2.2.2.2.length)) (.opt (qBi n r146.2.2.2.2) fun r202=>(.ask (zAv (⟨(.c (.p (.b r202))),[],[]⟩:Res)) (.ask ((!r202)) (.ask (decide (0=([]:RW).length)) (.done (([]:RW),false)) .fail) (.ask (decide (r146.2.2.2.1=r146.2.2.2.2.length)) (.done (r146.2.2.2.2,true)) .fail)) .fail)) .fail)))))))
def qEO:Nat→BA→Option (RW×Bool)
 |0,_=>none
 |n+1,x0=>(qGf n x0).run
abbrev qLn (n:Nat):List (Ent (Rn n)):= [en (qFv n),en (qNb n),en (qDw n),en (qHN n)]
theorem qK2:∀n,Ok (Rn n) qLm (qEO n)
 |0=>ok0 fun _=>rfl
 |n+1=>stO (T:=qGf n) (by kernel_rfl) (qLn n) [] (fun _=>(by kernel_rfl)) fun _=>(by kernel_rfl)
def qPn:Sg:=⟨179,[aS],[],⟨aS,[],[]⟩⟩
def qBX (n:Nat) (v:BA×BA×Int):Tr ((BA×BA×Int)⊕((BA))):=(.ask ((decide (v.2.2<(v.1.size:Int)))) (.ask (decide (0≤v.2.2)) (.opt (v.1.toList[(v.2.2).toNat]?) fun c220=>(.ask (((c220.toNat:Int)==(34:Int))) (.ask (decide (v.2.1.size+(⟨#[34]⟩:BA).size≤9223372036854775807)) (.ask (decide (0≤v.2.2∧v.2.2≤(IntKind.i64.wrap (v.2.2+(1:Int)))∧(IntKind.i64.wrap (v.2.2+(1:Int)))≤v.1.size)) (.ask (decide ((v.2.1++(⟨#[34]⟩:BA)).size+(v.1.extract (v.2.2).toNat ((IntKind.i64.wrap (v.2.2+(1:Int)))).toNat).size≤9223372036854775807)) (.done (.inl (v.1,((v.2.1++(⟨#[34]⟩:BA))++(v.1.extract (v.2.2).toNat ((IntKind.i64.wrap (v.2.2+(1:Int)))).toNat)),(IntKind.i64.wrap (v.2.2+(1:Int)))))) .fail) .fail) .fail) (.ask (decide (0≤v.2.2∧v.2.2≤(IntKind.i64.wrap (v.2.2+(1:Int)))∧(IntKind.i64.wrap (v.2.2+(1:Int)))≤v.1.size)) (.ask (decide (v.2.1.size+(v.1.extract (v.2.2).toNat ((IntKind.i64.wrap (v.2.2+(1:Int)))).toNat).size≤9223372036854775807)) (.done (.inl (v.1,(v.2.1++(v.1.extract (v.2.2).toNat ((IntKind.i64.wrap (v.2.2+(1:Int)))).toNat)),(IntKind.i64.wrap (v.2.2+(1:Int)))))) .fail) .fail))) .fail) (.done (.inr (v.2.1))))
def qGg (n:Nat) (x0:BA):Tr (BA):=(.opt (zD (qBX n) n (x0,(⟨#[34]⟩:BA),(0:Int))) fun r221=>(.ask (decide (r221.size+(⟨#[34]⟩:BA).size≤9223372036854775807)) (.done (r221++(⟨#[34]⟩:BA))) .fail))
def qEn:Nat→BA→Option (BA)
 |0,_=>none
 |n+1,x0=>(qGg n x0).run
def qMb (n:Nat):LEnt (KB 179) (Rn n) n:=lok (zK 179) 29 ⟨⟨[(0,aS),(3,aS),(4,aI)],[],[]⟩,[(.exit 0,⟨[(3,aS)],[],[]⟩)]⟩ (qBX n) [] [] fun _=>(by kernel_rfl)
theorem qOs:∀n,Ok (Rn n) qPn (qEn n)
 |0=>ok0 fun _=>rfl
 |n+1=>stO (T:=qGg n) (by kernel_rfl) [] [qMb n] (fun _=>(by kernel_rfl)) fun _=>(by kernel_rfl)
def qIg:Sg:=⟨59,[aI],[],⟨aS,[],[]⟩⟩
def qDJ (n:Nat) (v:Int×BA):Tr ((Int×BA)⊕((Int×BA))):=(.ask ((decide (v.1≥(10:Int)))) (.ask (decide (1=([[(.i .u8 (IntKind.u8.wrap (IntKind.i64.wrap ((48:Int)+(Int.tmod v.1 (10:Int))))))]]:RW).length)) (.opt (bytesOf ([[(.i .u8 (IntKind.u8.wrap (IntKind.i64.wrap ((48:Int)+(Int.tmod v.1 (10:Int))))))]]:RW)) fun l225=>(.ask (decide ((⟨l225.toArray⟩:BA).size+v.2.size≤9223372036854775807)) (.done (.inl ((IntKind.i64.wrap (Int.tdiv v.1 (10:Int))),((⟨l225.toArray⟩:BA)++v.2)))) .fail)) .fail) (.done (.inr ((v.1,v.2)))))
def qGM (rec:Int→Option (BA)) (n:Nat) (x0:Int):Tr (BA):=(.ask ((decide (x0<(0:Int)))) (.opt (rec (IntKind.i64.wrap (0-x0))) fun r224=>(.ask (decide ((⟨#[45]⟩:BA).size+r224.size≤9223372036854775807)) (.done ((⟨#[45]⟩:BA)++r224)) .fail)) (.opt (zD (qDJ n) n (x0,(⟨#[]⟩:BA))) fun r226=>(.ask (decide (1=([[(.i .u8 (IntKind.u8.wrap (IntKind.i64.wrap ((48:Int)+r226.1))))]]:RW).length)) (.opt (bytesOf ([[(.i .u8 (IntKind.u8.wrap (IntKind.i64.wrap ((48:Int)+r226.1))))]]:RW)) fun l227=>(.ask (decide ((⟨l227.toArray⟩:BA).size+r226.2.size≤9223372036854775807)) (.done ((⟨l227.toArray⟩:BA)++r226.2)) .fail)) .fail)))
def qAu:Nat→Int→Option (BA)
 |0,_=>none
 |n+1,x0=>(qGM (qAu n) n x0).run
abbrev qMc (n:Nat) (ih:Ok (Rn n) qIg (qAu n)):List (Ent (Rn n)):= [en ih]
def qOt (n:Nat) (ih:Ok (Rn n) qIg (qAu n)):LEnt (KB 59) (Rn n) n:=lok (zK 59) 30 ⟨⟨[(0,aI),(3,aS)],[],[]⟩,[(.exit 0,⟨[(0,aI),(3,aS)],[],[]⟩)]⟩ (qDJ n) (qMc n ih) [] fun _=>(by kernel_rfl)
theorem qFW:∀n,Ok (Rn n) qIg (qAu n)
 |0=>ok0 fun _=>rfl
 |n+1=>stO (T:=qGM (qAu n) n) (by kernel_rfl) (qMc n (qFW n)) [qOt n (qFW n)] (fun _=>(by kernel_rfl)) fun _=>(by kernel_rfl)
def qQp:Sg:=⟨140,[aI],[],⟨aS,[],[]⟩⟩
def qHp (n:Nat) (x0:Int):Tr (BA):=(.ask ((x0==(1:Int))) (.done (⟨#[84,82,85,69]⟩:BA)) (.done (⟨#[70,65,76,83,69]⟩:BA)))
def qFX:Nat→Int→Option (BA)
 |0,_=>none
 |n+1,x0=>(qHp n x0).run
theorem qPo:∀n,Ok (Rn n) qQp (qFX n)
 |0=>ok0 fun _=>rfl
 |n+1=>stO (T:=qHp n) (by kernel_rfl) [] [] (fun _=>(by kernel_rfl)) fun _=>(by kernel_rfl)
def qNf:Sg:=⟨96,[(.agg [qI,qI,qS])],[],⟨aS,[],[]⟩⟩
def qBP (n:Nat) (x0 x1:Int) (x2:BA):Tr (BA):=(.opt (qY n x0 x1 x2) fun r223=>(.ask ((!r223)) (.done (⟨#[]⟩:BA)) (.ask ((x0==(1:Int))) (.opt (qAu n x1) fun r228=>(.done r228)) (.ask ((x0==(2:Int))) (.ask (decide ((⟨#[39]⟩:BA).size+x2.size≤9223372036854775807)) (.done ((⟨#[39]⟩:BA)++x2)) .fail) (.ask ((x0==(3:Int))) (.opt (qFX n x1) fun r229=>(.done r229)) (.ask ((x0==(4:Int))) (.opt (qBS n x1) fun r230=>(.done r230)) (.done (⟨#[]⟩:BA))))))))
def qAQ:Nat→Int→Int→BA→Option (BA)
 |0,_,_,_=>none
 |n+1,x0,x1,x2=>(qBP n x0 x1 x2).run
abbrev qNg (n:Nat):List (Ent (Rn n)):= [en (qEE n),en (qFW n),en (qPo n),en (qGZ n)]
theorem qHO:∀n,Ok (Rn n) qNf (qAQ n)
 |0=>ok0 fun _=>rfl
 |n+1=>stO (T:=qBP n) (by kernel_rfl) (qNg n) [] (fun _=>(by kernel_rfl)) fun _=>(by kernel_rfl)
def qNh:Sg:=⟨58,[(.agg [qI,qI,qB,qB])],[],⟨aS,[],[]⟩⟩
def qDo (n:Nat) (x0 x1:Int) (x2 x3:Bool):Tr (BA):=(.opt (qAK n x0 x1) fun r232=>(.ask ((!r232)) (.done (⟨#[]⟩:BA)) (.opt (qC2 n x0) fun r233=>(.ask (x2) (.ask (decide ((⟨#[36]⟩:BA).size+r233.size≤9223372036854775807)) (.ask (x3) (.ask (decide (((⟨#[36]⟩:BA)++r233).size+(⟨#[36]⟩:BA).size≤9223372036854775807)) (.opt (qAu n x1) fun r234=>(.ask (decide ((((⟨#[36]⟩:BA)++r233)++(⟨#[36]⟩:BA)).size+r234.size≤9223372036854775807)) (.done ((((⟨#[36]⟩:BA)++r233)++(⟨#[36]⟩:BA))++r234)) .fail)) .fail) (.opt (qAu n x1) fun r235=>(.ask (decide (((⟨#[36]⟩:BA)++r233).size+r235.size≤9223372036854775807)) (.done (((⟨#[36]⟩:BA)++r233)++r235)) .fail))) .fail) (.ask (x3) (.ask (decide (r233.size+(⟨#[36]⟩:BA).size≤9223372036854775807)) (.opt (qAu n x1) fun r236=>(.ask (decide ((r233++(⟨#[36]⟩:BA)).size+r236.size≤9223372036854775807)) (.done ((r233++(⟨#[36]⟩:BA))++r236)) .fail)) .fail) (.opt (qAu n x1) fun r237=>(.ask (decide (r233.size+r237.size≤9223372036854775807)) (.done (r233++r237)) .fail)))))))
def qBj:Nat→Int→Int→Bool→Bool→Option (BA)
 |0,_,_,_,_=>none
 |n+1,x0,x1,x2,x3=>(qDo n x0 x1 x2 x3).run
abbrev qNi (n:Nat):List (Ent (Rn n)):= [en (qD6 n),en (qJG n),en (qFW n)]
theorem qMd:∀n,Ok (Rn n) qNh (qBj n)
 |0=>ok0 fun _=>rfl
 |n+1=>stO (T:=qDo n) (by kernel_rfl) (qNi n) [] (fun _=>(by kernel_rfl)) fun _=>(by kernel_rfl)
def qHq:Sg:=⟨137,[aL,aI,aI],[],⟨aS,[],[]⟩⟩
def qBY (rec:RW→Int→Int→Option (BA)) (n:Nat) (v:RW×BA×Int×Int×Int×Int×Int×BA×Int×Int×Bool×Bool×Int×Int×Bool×Bool×RW):Tr ((RW×BA×Int×Int×Int×Int×Int×BA×Int×Int×Bool×Bool×Int×Int×Bool×Bool×RW)⊕((BA))):=(.ask ((decide (v.2.2.1<(v.2.2.2.2.2.2.2.2.2.2.2.2.2.2.2.2.length:Int)))) (.ask ((decide (v.2.2.1>(0:Int)))) (.ask (decide (v.2.1.size+(⟨#[44]⟩:BA).size≤9223372036854775807)) (.ask (decide (0≤v.2.2.1∧v.2.2.1<v.2.2.2.2.2.2.2.2.2.2.2.2.2.2.2.2.length)) (.opt (v.2.2.2.2.2.2.2.2.2.2.2.2.2.2.2.2[(v.2.2.1).toNat]?) fun e253=>(.ask (decide (e253.length=1)) (.opt (zC .i64 e253 0) fun y254=>(.opt (rec v.1 y254 (0:Int)) fun r255=>(.ask (decide ((v.2.1++(⟨#[44]⟩:BA)).size+r255.size≤9223372036854775807)) (.done (.inl (v.1,((v.2.1++(⟨#[44]⟩:BA))++r255),(IntKind.i64.wrap (v.2.2.1+(1:Int))),v.2.2.2.1,v.2.2.2.2.1,v.2.2.2.2.2.1,v.2.2.2.2.2.2.1,v.2.2.2.2.2.2.2.1,v.2.2.2.2.2.2.2.2.1,v.2.2.2.2.2.2.2.2.2.1,v.2.2.2.2.2.2.2.2.2.2.1,v.2.2.2.2.2.2.2.2.2.2.2.1,v.2.2.2.2.2.2.2.2.2.2.2.2.1,v.2.2.2.2.2.2.2.2.2.2.2.2.2.1,v.2.2.2.2.2.2.2.2.2.2.2.2.2.2.1,v.2.2.2.2.2.2.2.2.2.2.2.2.2.2.2.1,v.2.2.2.2.2.2.2.2.2.2.2.2.2.2.2.2))) .fail))) .fail)) .fail) .fail) (.ask (decide (0≤v.2.2.1∧v.2.2.1<v.2.2.2.2.2.2.2.2.2.2.2.2.2.2.2.2.length)) (.opt (v.2.2.2.2.2.2.2.2.2.2.2.2.2.2.2.2[(v.2.2.1).toNat]?) fun e256=>(.ask (decide (e256.length=1)) (.opt (zC .i64 e256 0) fun y257=>(.opt (rec v.1 y257 (0:Int)) fun r258=>(.ask (decide (v.2.1.size+r258.size≤9223372036854775807)) (.done (.inl (v.1,(v.2.1++r258),(IntKind.i64.wrap (v.2.2.1+(1:Int))),v.2.2.2.1,v.2.2.2.2.1,v.2.2.2.2.2.1,v.2.2.2.2.2.2.1,v.2.2.2.2.2.2.2.1,v.2.2.2.2.2.2.2.2.1,v.2.2.2.2.2.2.2.2.2.1,v.2.2.2.2.2.2.2.2.2.2.1,v.2.2.2.2.2.2.2.2.2.2.2.1,v.2.2.2.2.2.2.2.2.2.2.2.2.1,v.2.2.2.2.2.2.2.2.2.2.2.2.2.1,v.2.2.2.2.2.2.2.2.2.2.2.2.2.2.1,v.2.2.2.2.2.2.2.2.2.2.2.2.2.2.2.1,v.2.2.2.2.2.2.2.2.2.2.2.2.2.2.2.2))) .fail))) .fail)) .fail)) (.done (.inr (v.2.1))))
def qBt (rec:RW→Int→Int→Option (BA)) (n:Nat) (x0:RW) (x1 x2:Int):Tr (BA):=(.ask (decide (0≤x1∧x1<x0.length)) (.opt (x0[(x1).toNat]?) fun e205=>(.ask (decide (e205.length=14)) (.opt (zC .i64 e205 0) fun y206=>(.opt (zC .i64 e205 1) fun y207=>(.opt (zC .i64 e205 2) fun y208=>(.opt (zC .i64 e205 3) fun y209=>(.opt (zR e205 4) fun y210=>(.opt (zC .i64 e205 5) fun y211=>(.opt (zC .i64 e205 6) fun y212=>(.opt (zAG e205 7) fun y213=>(.opt (zAG e205 8) fun y214=>(.opt (zC .i64 e205 9) fun y215=>(.opt (zC .i64 e205 10) fun y216=>(.opt (zAG e205 11) fun y217=>(.opt (zAG e205 12) fun y218=>(.opt (zd e205 13) fun y219=>(.ask ((y206==(1:Int))) (.ask ((y208==(2:Int))) (.opt (qEn n y210) fun r222=>(.done r222)) (.opt (qAQ n y208 y209 y210) fun r231=>(.done r231))) (.ask ((y206==(2:Int))) (.opt (qBj n y211 y212 y213 y214) fun r238=>(.done r238)) (.ask ((y206==(3:Int))) (.opt (qBj n y211 y212 y213 y214) fun r239=>(.ask (decide (r239.size+(⟨#[58]⟩:BA).size≤9223372036854775807)) (.opt (qBj n y215 y216 y217 y218) fun r240=>(.ask (decide ((r239++(⟨#[58]⟩:BA)).size+r240.size≤9223372036854775807)) (.done ((r239++(⟨#[58]⟩:BA))++r240)) .fail)) .fail)) (.ask ((y206==(4:Int))) (.ask (decide (0≤(0:Int)∧(0:Int)<y219.length)) (.opt (y219[((0:Int)).toNat]?) fun e241=>(.ask (decide (e241.length=1)) (.opt (zC .i64 e241 0) fun y242=>(.opt (rec x0 y242 (5:Int)) fun r243=>(.ask (decide ((⟨#[45]⟩:BA).size+r243.size≤9223372036854775807)) (.done ((⟨#[45]⟩:BA)++r243)) .fail))) .fail)) .fail) (.ask ((y206==(5:Int))) (.opt (qCM n y207) fun r244=>(.ask (decide (0≤(0:Int)∧(0:Int)<y219.length)) (.opt (y219[((0:Int)).toNat]?) fun e245=>(.ask (decide (e245.length=1)) (.opt (zC .i64 e245 0) fun y246=>(.ask (decide (0≤(1:Int)∧(1:Int)<y219.length)) (.opt (y219[((1:Int)).toNat]?) fun e247=>(.ask (decide (e247.length=1)) (.opt (zC .i64 e247 0) fun y248=>(.opt (rec x0 y246 r244) fun r249=>(.opt (qCp n y207) fun r250=>(.ask (decide (r249.size+r250.size≤9223372036854775807)) (.opt (rec x0 y248 (IntKind.i64.wrap (r244+(1:Int)))) fun r251=>(.ask (decide ((r249++r250).size+r251.size≤9223372036854775807)) (.ask ((decide (r244<x2))) (.ask (decide ((⟨#[40]⟩:BA).size+((r249++r250)++r251).size≤9223372036854775807)) (.ask (decide (((⟨#[40]⟩:BA)++((r249++r250)++r251)).size+(⟨#[41]⟩:BA).size≤9223372036854775807)) (.done (((⟨#[40]⟩:BA)++((r249++r250)++r251))++(⟨#[41]⟩:BA))) .fail) .fail) (.done ((r249++r250)++r251))) .fail)) .fail)))) .fail)) .fail)) .fail)) .fail)) (.opt (qCb n y207) fun r252=>(.ask (decide (r252.size+(⟨#[40]⟩:BA).size≤9223372036854775807)) (.opt (zD (qBY rec n) n (x0,(r252++(⟨#[40]⟩:BA)),(0:Int),y206,y207,y208,y209,y210,y211,y212,y213,y214,y215,y216,y217,y218,y219)) fun r259=>(.ask (decide (r259.size+(⟨#[41]⟩:BA).size≤9223372036854775807)) (.done (r259++(⟨#[41]⟩:BA))) .fail)) .fail))))))))))))))))))))) .fail)) .fail)
def qn:Nat→RW→Int→Int→Option (BA)
 |0,_,_,_=>none
 |n+1,x0,x1,x2=>(qBt (qn n) n x0 x1 x2).run
abbrev qLU (n:Nat) (ih:Ok (Rn n) qHq (qn n)):List (Ent (Rn n)):= [en (qOs n),en (qHO n),en (qMd n),en ih,en (qJH n),en (qJy n),en (qMX n)]
def qMe (n:Nat) (ih:Ok (Rn n) qHq (qn n)):LEnt (KB 137) (Rn n) n:=lok (zK 137) 125 ⟨⟨[(0,aL),(7,(.c (.ptr 0 448 0 0 0))),(10,aS),(11,aI)],[(448,⟨0,14,162,(.box [qI,qI,qI,qI,qS,qI,qI,qB,qB,qI,qI,qB,qB,qL])⟩)],[]⟩,[(.exit 1,⟨[(10,aS)],[],[]⟩)]⟩ (qBY (qn n) n) (qLU n ih) [] fun _=>(by kernel_rfl)
theorem qGh:∀n,Ok (Rn n) qHq (qn n)
 |0=>ok0 fun _=>rfl
 |n+1=>stO (T:=qBt (qn n) n) (by kernel_rfl) (qLU n (qGh n)) [qMe n (qGh n)] (fun _=>(by kernel_rfl)) fun _=>(by kernel_rfl)
def qLo:Sg:=⟨94,[aL],[],⟨aS,[],[]⟩⟩
def qDD (n:Nat) (x0:RW):Tr (BA):=(.opt (qBi n x0) fun r204=>(.ask ((!r204)) (.done (⟨#[]⟩:BA)) (.opt (qn n x0 (IntKind.i64.wrap ((x0.length:Int)-(1:Int))) (0:Int)) fun r260=>(.ask ((decide ((r260.size:Int)>(200:Int)))) (.done (⟨#[]⟩:BA)) (.done r260)))))
def qBk:Nat→RW→Option (BA)
 |0,_=>none
 |n+1,x0=>(qDD n x0).run
abbrev qLp (n:Nat):List (Ent (Rn n)):= [en (qHN n),en (qGh n)]
theorem qK3:∀n,Ok (Rn n) qLo (qBk n)
 |0=>ok0 fun _=>rfl
 |n+1=>stO (T:=qDD n) (by kernel_rfl) (qLp n) [] (fun _=>(by kernel_rfl)) fun _=>(by kernel_rfl)
def qOu:Sg:=⟨95,[aS],[],⟨(.tup [(true,[qI,qI,qS]),(false,[qB])]),[],[]⟩⟩
def qBl (n:Nat) (v:BA×Bool×Int×Int×BA):Tr ((BA×Bool×Int×Int×BA)⊕((BA×Bool×Int×Int×BA))):=(.ask ((decide ((v.1.size:Int)>(1:Int)))) (.ask (decide (0≤(0:Int))) (.opt (v.1.toList[((0:Int)).toNat]?) fun c263=>(.ask (((c263.toNat:Int)==(48:Int))) (.ask (decide (0≤(1:Int)∧(1:Int)≤(v.1.size:Int)∧(v.1.size:Int)≤v.1.size)) (.done (.inl ((v.1.extract ((1:Int)).toNat ((v.1.size:Int)).toNat),v.2.1,v.2.2.1,v.2.2.2.1,v.2.2.2.2))) .fail) (.done (.inr ((v.1,v.2.1,v.2.2.1,v.2.2.2.1,v.2.2.2.2)))))) .fail) (.done (.inr ((v.1,v.2.1,v.2.2.1,v.2.2.2.1,v.2.2.2.2)))))
def qJP (n:Nat) (x0:BA):Tr (Int×Int×BA×Bool):=(.ask ((decide ((x0.size:Int)>(0:Int)))) (.ask (decide (0≤(0:Int))) (.opt (x0.toList[((0:Int)).toNat]?) fun c262=>(.ask (((c262.toNat:Int)==(45:Int))) (.ask (decide (0≤(1:Int)∧(1:Int)≤(x0.size:Int)∧(x0.size:Int)≤x0.size)) (.ask (((x0.extract ((1:Int)).toNat ((x0.size:Int)).toNat).toList==(⟨#[]⟩:BA).toList)) (.done ((0:Int),(0:Int),(⟨#[]⟩:BA),false)) (.opt (zD (qBl n) n ((x0.extract ((1:Int)).toNat ((x0.size:Int)).toNat),((c262.toNat:Int)==(45:Int)),(0:Int),(0:Int),(⟨#[]⟩:BA))) fun r264=>(.opt (qu n r264.1 (16:Int)) fun r265=>(.ask (r264.2.1) (.ask (r265.2) (.opt (qY n (1:Int) (IntKind.i64.wrap (0-r265.1)) (⟨#[]⟩:BA)) fun r266=>(.done ((1:Int),(IntKind.i64.wrap (0-r265.1)),(⟨#[]⟩:BA),r266))) (.done ((1:Int),(IntKind.i64.wrap (0-r265.1)),(⟨#[]⟩:BA),false))) (.ask (r265.2) (.opt (qY n (1:Int) r265.1 (⟨#[]⟩:BA)) fun r267=>(.done ((1:Int),r265.1,(⟨#[]⟩:BA),r267))) (.done ((1:Int),r265.1,(⟨#[]⟩:BA),false))))))) .fail) (.ask ((x0.toList==(⟨#[]⟩:BA).toList)) (.done ((0:Int),(0:Int),(⟨#[]⟩:BA),false)) (.opt (zD (qBl n) n (x0,((c262.toNat:Int)==(45:Int)),(0:Int),(0:Int),(⟨#[]⟩:BA))) fun r268=>(.opt (qu n r268.1 (16:Int)) fun r269=>(.ask (r268.2.1) (.ask (r269.2) (.opt (qY n (1:Int) (IntKind.i64.wrap (0-r269.1)) (⟨#[]⟩:BA)) fun r270=>(.done ((1:Int),(IntKind.i64.wrap (0-r269.1)),(⟨#[]⟩:BA),r270))) (.done ((1:Int),(IntKind.i64.wrap (0-r269.1)),(⟨#[]⟩:BA),false))) (.ask (r269.2) (.opt (qY n (1:Int) r269.1 (⟨#[]⟩:BA)) fun r271=>(.done ((1:Int),r269.1,(⟨#[]⟩:BA),r271))) (.done ((1:Int),r269.1,(⟨#[]⟩:BA),false))))))))) .fail) (.ask ((x0.toList==(⟨#[]⟩:BA).toList)) (.done ((0:Int),(0:Int),(⟨#[]⟩:BA),false)) (.opt (zD (qBl n) n (x0,false,(0:Int),(0:Int),(⟨#[]⟩:BA))) fun r272=>(.opt (qu n r272.1 (16:Int)) fun r273=>(.ask (r272.2.1) (.ask (r273.2) (.opt (qY n (1:Int) (IntKind.i64.wrap (0-r273.1)) (⟨#[]⟩:BA)) fun r274=>(.done ((1:Int),(IntKind.i64.wrap (0-r273.1)),(⟨#[]⟩:BA),r274))) (.done ((1:Int),(IntKind.i64.wrap (0-r273.1)),(⟨#[]⟩:BA),false))) (.ask (r273.2) (.opt (qY n (1:Int) r273.1 (⟨#[]⟩:BA)) fun r275=>(.done ((1:Int),r273.1,(⟨#[]⟩:BA),r275))) (.done ((1:Int),r273.1,(⟨#[]⟩:BA),false))))))))
def qFy:Nat→BA→Option (Int×Int×BA×Bool)
 |0,_=>none
 |n+1,x0=>(qJP n x0).run
abbrev qJQ (n:Nat):List (Ent (Rn n)):= [en (qHj n),en (qEE n)]
def qLq (n:Nat):LEnt (KB 95) (Rn n) n:=lok (zK 95) 62 ⟨⟨[(0,aS),(2,(.c (.ptr 0 128 0 0 0))),(4,aB)],[(128,⟨0,3,128,(.box [qI,qI,qS])⟩)],[]⟩,[(.exit 0,⟨[(0,aS),(2,(.c (.ptr 0 128 0 0 0))),(4,aB)],[(128,⟨0,3,128,(.box [qI,qI,qS])⟩)],[]⟩)]⟩ (qBl n) (qJQ n) [] fun _=>(by kernel_rfl)
theorem qNj:∀n,Ok (Rn n) qOu (qFy n)
 |0=>ok0 fun _=>rfl
 |n+1=>stO (T:=qJP n) (by kernel_rfl) (qJQ n) [qLq n] (fun _=>(by kernel_rfl)) fun _=>(by kernel_rfl)
def qPp:Sg:=⟨53,[aS],[],⟨(.tup [(false,[qS]),(false,[qB])]),[],[]⟩⟩
def qJ3 (n:Nat) (x0:BA):Tr (BA×Bool):=(.opt (qCK n x0) fun r50=>(.ask ((!r50)) (.done ((⟨#[]⟩:BA),false)) (.ask ((x0.toList==(⟨#[]⟩:BA).toList)) (.done ((⟨#[]⟩:BA),true)) (.ask (decide (0≤(0:Int))) (.opt (x0.toList[((0:Int)).toNat]?) fun c51=>(.ask (((c51.toNat:Int)==(61:Int))) (.ask (decide (0≤(1:Int)∧(1:Int)≤(x0.size:Int)∧(x0.size:Int)≤x0.size)) (.opt (qEO n (x0.extract ((1:Int)).toNat ((x0.size:Int)).toNat)) fun r203=>(.opt (qBk n r203.1) fun r261=>(.ask ((!r203.2)) (.done ((⟨#[]⟩:BA),false)) (.ask ((r261.toList==(⟨#[]⟩:BA).toList)) (.done ((⟨#[]⟩:BA),false)) (.ask ((decide ((IntKind.i64.wrap ((r261.size:Int)+(1:Int)))>(200:Int)))) (.done ((⟨#[]⟩:BA),false)) (.ask (decide ((⟨#[61]⟩:BA).size+r261.size≤9223372036854775807)) (.done (((⟨#[61]⟩:BA)++r261),true)) .fail)))))) .fail) (.opt (qFy n x0) fun r276=>(.ask (r276.2.2.2) (.opt (qAQ n r276.1 r276.2.1 r276.2.2.1) fun r277=>(.done (r277,true))) (.opt (qAI n x0) fun r278=>(.ask ((!r278.2.2.2)) (.opt (qAQ n (2:Int) (0:Int) x0) fun r279=>(.ask ((decide ((r279.size:Int)>(200:Int)))) (.done ((⟨#[]⟩:BA),false)) (.done (r279,true)))) (.opt (qAQ n r278.1 r278.2.1 r278.2.2.1) fun r280=>(.ask ((decide ((r280.size:Int)>(200:Int)))) (.done ((⟨#[]⟩:BA),false)) (.done (r280,true)))))))))) .fail))))
def qEo:Nat→BA→Option (BA×Bool)
 |0,_=>none
 |n+1,x0=>(qJ3 n x0).run
abbrev qPq (n:Nat):List (Ent (Rn n)):= [en (qFv n),en (qK2 n),en (qK3 n),en (qNj n),en (qHO n),en (qHM n)]
theorem qOv:∀n,Ok (Rn n) qPp (qEo n)
 |0=>ok0 fun _=>rfl
 |n+1=>stO (T:=qJ3 n) (by kernel_rfl) (qPq n) [] (fun _=>(by kernel_rfl)) fun _=>(by kernel_rfl)
def qPr:Sg:=⟨88,[(.agg [qI,qI]),(.agg [qI,qI])],[],⟨aB,[],[]⟩⟩
def qGi (n:Nat) (x0 x1 x2 x3:Int):Tr (Bool):=(.ask ((decide (x1<x3))) (.done true) (.ask ((x1==x3)) (.done (decide (x0<x2))) (.done false)))
def qDW:Nat→Int→Int→Int→Int→Option (Bool)
 |0,_,_,_,_=>none
 |n+1,x0,x1,x2,x3=>(qGi n x0 x1 x2 x3).run
theorem qOw:∀n,Ok (Rn n) qPr (qDW n)
 |0=>ok0 fun _=>rfl
 |n+1=>stO (T:=qGi n) (by kernel_rfl) [] [] (fun _=>(by kernel_rfl)) fun _=>(by kernel_rfl)
def qPs:Sg:=⟨44,[aL],[],⟨aB,[],[]⟩⟩
def qEp (n:Nat) (v:RW×Int):Tr ((RW×Int)⊕((Bool)⊕(Unit))):=(.ask ((decide (v.2<(v.1.length:Int)))) (.ask (decide (0≤v.2∧v.2<v.1.length)) (.opt (v.1[(v.2).toNat]?) fun e43=>(.ask (decide (e43.length=3)) (.opt (zR e43 2) fun y44=>(.opt (qEo n y44) fun r45=>(.ask (decide (0≤v.2∧v.2<v.1.length)) (.opt (v.1[(v.2).toNat]?) fun e46=>(.ask (decide (e46.length=3)) (.opt (zC .i64 e46 0) fun y47=>(.opt (zC .i64 e46 1) fun y48=>(.opt (qAK n y47 y48) fun r49=>(.ask ((!r49)) (.done (.inr (.inl (false)))) (.ask ((!r45.2)) (.done (.inr (.inl (false)))) (.ask (decide (0≤v.2∧v.2<v.1.length)) (.opt (v.1[(v.2).toNat]?) fun e50=>(.ask (decide (e50.length=3)) (.opt (zR e50 2) fun y51=>(.ask ((y51.toList==(⟨#[]⟩:BA).toList)) (.done (.inr (.inl (false)))) (.ask (decide (0≤v.2∧v.2<v.1.length)) (.opt (v.1[(v.2).toNat]?) fun e52=>(.ask (decide (e52.length=3)) (.opt (zR e52 2) fun y53=>(.ask ((!(r45.1.toList==y53.toList))) (.done (.inr (.inl (false)))) (.ask ((decide (v.2>(0:Int)))) (.ask (decide (0≤(IntKind.i64.wrap (v.2-(1:Int)))∧(IntKind.i64.wrap (v.2-(1:Int)))<v.1.length)) (.opt (v.1[((IntKind.i64.wrap (v.2-(1:Int)))).toNat]?) fun e54=>(.ask (decide (e54.length=3)) (.opt (zC .i64 e54 0) fun y55=>(.opt (zC .i64 e54 1) fun y56=>(.ask (decide (0≤v.2∧v.2<v.1.length)) (.opt (v.1[(v.2).toNat]?) fun e57=>(.ask (decide (e57.length=3)) (.opt (zC .i64 e57 0) fun y58=>(.opt (zC .i64 e57 1) fun y59=>(.opt (qDW n y55 y56 y58 y59) fun r60=>(.ask ((!r60)) (.done (.inr (.inl (false)))) (.done (.inl (v.1,(IntKind.i64.wrap (v.2+(1:Int)))))))))) .fail)) .fail))) .fail)) .fail) (.done (.inl (v.1,(IntKind.i64.wrap (v.2+(1:Int))))))))) .fail)) .fail))) .fail)) .fail)))))) .fail)) .fail))) .fail)) .fail) (.done (.inr (.inr (())))))
def qJ4 (n:Nat) (x0:RW):Tr (Bool):=(.ask ((decide ((x0.length:Int)>(120:Int)))) (.done false) (.opt (zD (qEp n) n (x0,(0:Int))) fun r61=>(.alt r61 (fun r62=>(.done r62)) (fun r63=>(.done true)))))
def qDX:Nat→RW→Option (Bool)
 |0,_=>none
 |n+1,x0=>(qJ4 n x0).run
abbrev qJ5 (n:Nat):List (Ent (Rn n)):= [en (qOv n),en (qD6 n),en (qOw n)]
def qMf (n:Nat):LEnt (KB 44) (Rn n) n:=lok (zK 44) 29 ⟨⟨[(0,aL),(3,aI)],[],[]⟩,[(.ret,⟨[(2,aB)],[],[]⟩),(.exit 0,⟨[],[],[]⟩)]⟩ (qEp n) (qJ5 n) [] fun _=>(by kernel_rfl)
theorem qOx:∀n,Ok (Rn n) qPs (qDX n)
 |0=>ok0 fun _=>rfl
 |n+1=>stO (T:=qJ4 n) (by kernel_rfl) (qJ5 n) [qMf n] (fun _=>(by kernel_rfl)) fun _=>(by kernel_rfl)
def qPt:Sg:=⟨63,[(.agg [qI,qL,qL]),aI],[],⟨aI,[],[]⟩⟩
def qEq (n:Nat) (v:Int×Int×Int×RW×RW):Tr ((Int×Int×Int×RW×RW)⊕((Int)⊕(Unit))):=(.ask ((decide (v.2.1<(v.2.2.2.1.length:Int)))) (.ask (decide (0≤v.2.1∧v.2.1<v.2.2.2.1.length)) (.opt (v.2.2.2.1[(v.2.1).toNat]?) fun e69=>(.ask (decide (e69.length=3)) (.opt (zC .i64 e69 0) fun y70=>(.ask ((y70==v.1)) (.done (.inr (.inl (v.2.1)))) (.done (.inl (v.1,(IntKind.i64.wrap (v.2.1+(1:Int))),v.2.2.1,v.2.2.2.1,v.2.2.2.2))))) .fail)) .fail) (.done (.inr (.inr (())))))
def qGj (n:Nat) (x0:Int) (x1 x2:RW) (x3:Int):Tr (Int):=(.opt (zD (qEq n) n (x3,(0:Int),x0,x1,x2)) fun r71=>(.alt r71 (fun r72=>(.done r72)) (fun r73=>(.done (-1:Int)))))
def qCN:Nat→Int→RW→RW→Int→Option (Int)
 |0,_,_,_,_=>none
 |n+1,x0,x1,x2,x3=>(qGj n x0 x1 x2 x3).run
def qMg (n:Nat):LEnt (KB 63) (Rn n) n:=lok (zK 63) 13 ⟨⟨[(1,aI),(2,(.c (.ptr 0 128 0 0 0))),(5,aI)],[(128,⟨0,3,50,(.box [qI,qL,qL])⟩)],[]⟩,[(.ret,⟨[(4,aI)],[],[]⟩),(.exit 0,⟨[],[],[]⟩)]⟩ (qEq n) [] [] fun _=>(by kernel_rfl)
theorem qOy:∀n,Ok (Rn n) qPt (qCN n)
 |0=>ok0 fun _=>rfl
 |n+1=>stO (T:=qGj n) (by kernel_rfl) [] [qMg n] (fun _=>(by kernel_rfl)) fun _=>(by kernel_rfl)
def qPu:Sg:=⟨64,[aS],[],⟨aB,[],[]⟩⟩
def qEr (n:Nat) (v:BA×Int):Tr ((BA×Int)⊕((Bool)⊕(Unit))):=(.ask ((decide (v.2<(v.1.size:Int)))) (.ask (decide (0≤v.2)) (.opt (v.1.toList[(v.2).toNat]?) fun c66=>(.ask ((decide ((c66.toNat:Int)<(97:Int)))) (.done (.inr (.inl (false)))) (.ask (decide (0≤v.2)) (.opt (v.1.toList[(v.2).toNat]?) fun c67=>(.ask ((decide ((c67.toNat:Int)>(122:Int)))) (.done (.inr (.inl (false)))) (.done (.inl (v.1,(IntKind.i64.wrap (v.2+(1:Int)))))))) .fail))) .fail) (.done (.inr (.inr (())))))
def qGk (n:Nat) (x0:BA):Tr (Bool):=(.ask ((decide ((x0.size:Int)<(1:Int)))) (.done false) (.ask ((decide ((x0.size:Int)>(12:Int)))) (.done false) (.opt (zD (qEr n) n (x0,(0:Int))) fun r68=>(.alt r68 (fun r69=>(.done r69)) (fun r70=>(.done true))))))
def qEs:Nat→BA→Option (Bool)
 |0,_=>none
 |n+1,x0=>(qGk n x0).run
def qMh (n:Nat):LEnt (KB 64) (Rn n) n:=lok (zK 64) 29 ⟨⟨[(0,aS),(3,aI)],[],[]⟩,[(.ret,⟨[(2,aB)],[],[]⟩),(.exit 0,⟨[],[],[]⟩)]⟩ (qEr n) [] [] fun _=>(by kernel_rfl)
theorem qOz:∀n,Ok (Rn n) qPu (qEs n)
 |0=>ok0 fun _=>rfl
 |n+1=>stO (T:=qGk n) (by kernel_rfl) [] [qMh n] (fun _=>(by kernel_rfl)) fun _=>(by kernel_rfl)
def qRr:Sg:=⟨25,[(.agg [qI,qL,qL])],[],⟨aB,[],[]⟩⟩
def qC5 (n:Nat) (v:Int×Int×Int×RW×RW×Int×RW×RW):Tr ((Int×Int×Int×RW×RW×Int×RW×RW)⊕((Bool)⊕(Int×Int×RW×RW))):=(.ask ((decide (v.2.1<(v.2.2.2.2.2.2.1.length:Int)))) (.ask (decide (0≤v.2.1∧v.2.1<v.2.2.2.2.2.2.1.length)) (.opt (v.2.2.2.2.2.2.1[(v.2.1).toNat]?) fun e44=>(.ask (decide (e44.length=1)) (.opt (zC .i64 e44 0) fun y45=>(.ask ((decide (y45≥v.2.2.2.2.2.1))) (.done (.inr (.inl (false)))) (.ask (decide (0≤v.2.1∧v.2.1<v.2.2.2.2.2.2.1.length)) (.opt (v.2.2.2.2.2.2.1[(v.2.1).toNat]?) fun e46=>(.ask (decide (e46.length=1)) (.opt (zC .i64 e46 0) fun y47=>(.opt (qCN n v.2.2.1 v.2.2.2.1 v.2.2.2.2.1 y47) fun r48=>(.ask ((decide (r48<(0:Int)))) (.done (.inr (.inl (false)))) (.ask ((decide (v.2.1>(0:Int)))) (.ask (decide (0≤(IntKind.i64.wrap (v.2.1-(1:Int)))∧(IntKind.i64.wrap (v.2.1-(1:Int)))<v.2.2.2.2.2.2.1.length)) (.opt (v.2.2.2.2.2.2.1[((IntKind.i64.wrap (v.2.1-(1:Int)))).toNat]?) fun e49=>(.ask (decide (e49.length=1)) (.opt (zC .i64 e49 0) fun y50=>(.ask (decide (0≤v.2.1∧v.2.1<v.2.2.2.2.2.2.1.length)) (.opt (v.2.2.2.2.2.2.1[(v.2.1).toNat]?) fun e51=>(.ask (decide (e51.length=1)) (.opt (zC .i64 e51 0) fun y52=>(.ask ((decide (y50≥y52))) (.done (.inr (.inl (false)))) (.done (.inl (v.1,(IntKind.i64.wrap (v.2.1+(1:Int))),v.2.2.1,v.2.2.2.1,v.2.2.2.2.1,v.2.2.2.2.2.1,v.2.2.2.2.2.2.1,v.2.2.2.2.2.2.2))))) .fail)) .fail)) .fail)) .fail) (.done (.inl (v.1,(IntKind.i64.wrap (v.2.1+(1:Int))),v.2.2.1,v.2.2.2.1,v.2.2.2.2.1,v.2.2.2.2.2.1,v.2.2.2.2.2.2.1,v.2.2.2.2.2.2.2))))))) .fail)) .fail))) .fail)) .fail) (.done (.inr (.inr ((v.1,v.2.2.1,v.2.2.2.1,v.2.2.2.2.1))))))
def qEG (n:Nat) (v:Int×Int×RW×RW):Tr ((Int×Int×RW×RW)⊕((Bool)⊕(Int×RW×RW))):=(.ask ((decide (v.1<(v.2.2.1.length:Int)))) (.ask (decide (0≤v.1∧v.1<v.2.2.1.length)) (.opt (v.2.2.1[(v.1).toNat]?) fun e36=>(.ask (decide (e36.length=3)) (.opt (zC .i64 e36 0) fun y37=>(.opt (zd e36 1) fun y38=>(.opt (zd e36 2) fun y39=>(.opt (qAq n y37 (1:Int) (IntKind.i64.wrap (v.2.1-(1:Int)))) fun r40=>(.ask ((!r40)) (.done (.inr (.inl (false)))) (.ask ((decide (v.1>(0:Int)))) (.ask (decide (0≤(IntKind.i64.wrap (v.1-(1:Int)))∧(IntKind.i64.wrap (v.1-(1:Int)))<v.2.2.1.length)) (.opt (v.2.2.1[((IntKind.i64.wrap (v.1-(1:Int)))).toNat]?) fun e41=>(.ask (decide (e41.length=3)) (.opt (zC .i64 e41 0) fun y42=>(.ask ((decide (y42≥y37))) (.done (.inr (.inl (false)))) (.ask ((decide ((y38.length:Int)>(2:Int)))) (.done (.inr (.inl (false)))) (.opt (qDX n y39) fun r43=>(.ask ((!r43)) (.done (.inr (.inl (false)))) (.opt (zD (qC5 n) n (v.1,(0:Int),v.2.1,v.2.2.1,v.2.2.2,y37,y38,y39)) fun r53=>(.alt r53 (fun r54=>(.done (.inr (.inl (r54))))) (fun r55=>(.done (.inl ((IntKind.i64.wrap (r55.1+(1:Int))),r55.2.1,r55.2.2.1,r55.2.2.2))))))))))) .fail)) .fail) (.ask ((decide ((y38.length:Int)>(2:Int)))) (.done (.inr (.inl (false)))) (.opt (qDX n y39) fun r56=>(.ask ((!r56)) (.done (.inr (.inl (false)))) (.opt (zD (qC5 n) n (v.1,(0:Int),v.2.1,v.2.2.1,v.2.2.2,y37,y38,y39)) fun r57=>(.alt r57 (fun r58=>(.done (.inr (.inl (r58))))) (fun r59=>(.done (.inl ((IntKind.i64.wrap (r59.1+(1:Int))),r59.2.1,r59.2.2.1,r59.2.2.2))))))))))))))) .fail)) .fail) (.done (.inr (.inr ((v.2.1,v.2.2.1,v.2.2.2))))))
def qEH (n:Nat) (v:Int×Int×RW×RW):Tr ((Int×Int×RW×RW)⊕((Bool)⊕(Unit))):=(.ask ((decide (v.1<(v.2.2.2.length:Int)))) (.ask (decide (0≤v.1∧v.1<v.2.2.2.length)) (.opt (v.2.2.2[(v.1).toNat]?) fun e63=>(.ask (decide (e63.length=2)) (.opt (zR e63 0) fun y64=>(.opt (zC .i64 e63 1) fun y65=>(.opt (qEs n y64) fun r66=>(.ask ((!r66)) (.done (.inr (.inl (false)))) (.opt (qCN n v.2.1 v.2.2.1 v.2.2.2 y65) fun r67=>(.ask ((decide (r67<(0:Int)))) (.done (.inr (.inl (false)))) (.ask ((decide (v.1>(0:Int)))) (.ask (decide (0≤(IntKind.i64.wrap (v.1-(1:Int)))∧(IntKind.i64.wrap (v.1-(1:Int)))<v.2.2.2.length)) (.opt (v.2.2.2[((IntKind.i64.wrap (v.1-(1:Int)))).toNat]?) fun e68=>(.ask (decide (e68.length=2)) (.opt (zR e68 0) fun y69=>(.ask ((!(Op.bytesLess y69.toList y64.toList))) (.done (.inr (.inl (false)))) (.done (.inl ((IntKind.i64.wrap (v.1+(1:Int))),v.2.1,v.2.2.1,v.2.2.2))))) .fail)) .fail) (.done (.inl ((IntKind.i64.wrap (v.1+(1:Int))),v.2.1,v.2.2.1,v.2.2.2)))))))))) .fail)) .fail) (.done (.inr (.inr (())))))
def qIh (n:Nat) (x0:Int) (x1 x2:RW):Tr (Bool):=(.opt (qAq n x0 (2:Int) (1000000000:Int)) fun r35=>(.ask ((!r35)) (.done false) (.ask ((decide ((x1.length:Int)<(1:Int)))) (.done false) (.ask ((decide ((x1.length:Int)>(40:Int)))) (.done false) (.ask ((decide ((x2.length:Int)<(1:Int)))) (.done false) (.ask ((decide ((x2.length:Int)>(8:Int)))) (.done false) (.opt (zD (qEG n) n ((0:Int),x0,x1,x2)) fun r60=>(.alt r60 (fun r61=>(.done r61)) (fun r62=>(.opt (zD (qEH n) n ((0:Int),r62.1,r62.2.1,r62.2.2)) fun r70=>(.alt r70 (fun r71=>(.done r71)) (fun r72=>(.done true)))))))))))))
def qIi:Nat→Int→RW→RW→Option (Bool)
 |0,_,_,_=>none
 |n+1,x0,x1,x2=>(qIh n x0 x1 x2).run
abbrev qGN (n:Nat):List (Ent (Rn n)):= [en (qDn n),en (qOx n),en (qOy n),en (qOz n)]
def qNk (n:Nat):LEnt (lb 29 (KB 25)) (Rn n) n:=lok (Uniq.pick (zK 25) 29) 951 ⟨⟨[(1,(.c (.ptr 0 64 0 0 0))),(3,aI),(4,(.c (.ptr 0 256 0 0 0))),(5,aI)],[(64,⟨0,3,50,(.box [qI,qL,qL])⟩),(256,⟨0,3,96,(.box [qI,qL,qL])⟩)],[]⟩,[(.ret,⟨[(2,aB)],[],[]⟩),(.exit 2,⟨[(1,(.c (.ptr 0 64 0 0 0))),(3,aI)],[(64,⟨0,3,50,(.box [qI,qL,qL])⟩)],[]⟩)]⟩ (qC5 n) (qGN n) [] fun _=>(by kernel_rfl)
def qO0 (n:Nat):LEnt (KB 25) (Rn n) n:=lok (zK 25) 29 ⟨⟨[(1,(.c (.ptr 0 64 0 0 0))),(3,aI)],[(64,⟨0,3,50,(.box [qI,qL,qL])⟩)],[]⟩,[(.ret,⟨[(2,aB)],[],[]⟩),(.exit 0,⟨[(1,(.c (.ptr 0 64 0 0 0)))],[(64,⟨0,3,50,(.box [qI,qL,qL])⟩)],[]⟩)]⟩ (qEG n) (qGN n) [qNk n] fun _=>(by kernel_rfl)
def qO1 (n:Nat):LEnt (KB 25) (Rn n) n:=lok (zK 25) 61 ⟨⟨[(1,(.c (.ptr 0 64 0 0 0))),(6,aI)],[(64,⟨0,3,50,(.box [qI,qL,qL])⟩)],[]⟩,[(.ret,⟨[(2,aB)],[],[]⟩),(.exit 4,⟨[],[],[]⟩)]⟩ (qEH n) (qGN n) [] fun _=>(by kernel_rfl)
theorem qQq:∀n,Ok (Rn n) qRr (qIi n)
 |0=>ok0 fun _=>rfl
 |n+1=>stO (T:=qIh n) (by kernel_rfl) (qGN n) [qO0 n,qO1 n] (fun _=>(by kernel_rfl)) fun _=>(by kernel_rfl)
def qQr:Sg:=⟨67,[aI,aI,aI],[],⟨aB,[],[]⟩⟩
def qHr (n:Nat) (x0 x1 x2:Int):Tr (Bool):=(.ask ((decide (x0≥x1))) (.done (decide (x0≤x2))) (.done false))
def qw:Nat→Int→Int→Int→Option (Bool)
 |0,_,_,_=>none
 |n+1,x0,x1,x2=>(qHr n x0 x1 x2).run
theorem qC6:∀n,Ok (Rn n) qQr (qw n)
 |0=>ok0 fun _=>rfl
 |n+1=>stO (T:=qHr n) (by kernel_rfl) [] [] (fun _=>(by kernel_rfl)) fun _=>(by kernel_rfl)
def qJ6:Sg:=⟨111,[(.agg [qI,qL,qL]),(.c (.rp [vI] 0))],[],⟨aB,[],[]⟩⟩
def qFc (n:Nat) (x0:Int) (x1 x2:RW) (x3:Int):Tr (Bool):=(.opt (some x3:Option Int) fun y91=>(.done (x0==y91)))
def qFd:Nat→Int→RW→RW→Int→Option (Bool)
 |0,_,_,_,_=>none
 |n+1,x0,x1,x2,x3=>(qFc n x0 x1 x2 x3).run
theorem qJe:∀n,Ok (Rn n) qJ6 (qFd n)
 |0=>ok0 fun _=>rfl
 |n+1=>stO (T:=qFc n) (by kernel_rfl) [] [] (fun _=>(by kernel_rfl)) fun _=>(by kernel_rfl)
def qBK:Sg:=⟨110,[aL,(.c (.fn 111 [(.rp [vI])]))],[],⟨aI,[],[]⟩⟩
def qf (n:Nat) (v:RW×Int×Int×Int):Tr ((RW×Int×Int×Int)⊕((Int)⊕(Unit))):=(.ask ((decide (v.2.2.2<v.2.2.1))) (.ask (decide (0≤v.2.2.2∧v.2.2.2<v.1.length)) (.opt (v.1[(v.2.2.2).toNat]?) fun e87=>(.ask (decide (e87.length=3)) (.opt (zC .i64 e87 0) fun y88=>(.opt (zd e87 1) fun y89=>(.opt (zd e87 2) fun y90=>(.opt (qFd n y88 y89 y90 v.2.1) fun r91=>(.ask (r91) (.done (.inr (.inl (v.2.2.2)))) (.done (.inl (v.1,v.2.1,v.2.2.1,(IntKind.i64.wrap (v.2.2.2+(1:Int))))))))))) .fail)) .fail) (.done (.inr (.inr (())))))
def qk (n:Nat) (x0:RW) (x1:Int):Tr (Int):=(.opt (zD (qf n) n (x0,x1,(x0.length:Int),(0:Int))) fun r92=>(.alt r92 (fun r93=>(.done r93)) (fun r94=>(.done (-1:Int)))))
def ql:Nat→RW→Int→Option (Int)
 |0,_,_=>none
 |n+1,x0,x1=>(qk n x0 x1).run
abbrev qAJ (n:Nat):List (Ent (Rn n)):= [en (qJe n)]
def qBB (n:Nat):LEnt (KB 110) (Rn n) n:=lok (zK 110) 13 ⟨⟨[(0,aL),(1,(.c (.fn 111 [(.rp [vI])]))),(7,aI),(8,aI)],[],[]⟩,[(.ret,⟨[(4,aI)],[],[]⟩),(.exit 0,⟨[],[],[]⟩)]⟩ (qf n) (qAJ n) [] fun _=>(by kernel_rfl)
theorem qBH:∀n,Ok (Rn n) qBK (ql n)
 |0=>ok0 fun _=>rfl
 |n+1=>stO (T:=qk n) (by kernel_rfl) (qAJ n) [qBB n] (fun _=>(by kernel_rfl)) fun _=>(by kernel_rfl)
def qLr:Sg:=⟨70,[(.agg [qI,qL,qL]),aI],[],⟨aI,[],[]⟩⟩
def qEP (n:Nat) (x0:Int) (x1 x2:RW) (x3:Int):Tr (Int):=(.opt (ql n x1 x3) fun r95=>(.done r95))
def qBL:Nat→Int→RW→RW→Int→Option (Int)
 |0,_,_,_,_=>none
 |n+1,x0,x1,x2,x3=>(qEP n x0 x1 x2 x3).run
abbrev qLs (n:Nat):List (Ent (Rn n)):= [en (qBH n)]
theorem qF9:∀n,Ok (Rn n) qLr (qBL n)
 |0=>ok0 fun _=>rfl
 |n+1=>stO (T:=qEP n) (by kernel_rfl) (qLs n) [] (fun _=>(by kernel_rfl)) fun _=>(by kernel_rfl)
def qNl:Sg:=⟨68,[(.agg [qI,qL,qL]),aL,aI],[],⟨aB,[],[]⟩⟩
def qDz (n:Nat) (v:RW×Int×RW×Int×Int×Int×RW×RW):Tr ((RW×Int×RW×Int×Int×Int×RW×RW)⊕((Bool)⊕(RW))):=(.ask ((decide (v.2.2.2.2.1<v.2.2.2.1))) (.ask (decide (0≤v.2.2.2.2.1∧v.2.2.2.2.1<v.2.2.1.length)) (.opt (v.2.2.1[(v.2.2.2.2.1).toNat]?) fun e85=>(.ask (decide (e85.length=1)) (.opt (zC .i64 e85 0) fun y86=>(.ask ((decide (y86≥v.2.1))) (.done (.inr (.inl (false)))) (.opt (qBL n v.2.2.2.2.2.1 v.2.2.2.2.2.2.1 v.2.2.2.2.2.2.2 y86) fun r87=>(.ask ((decide (r87<(0:Int)))) (.done (.inr (.inl (false)))) (.ask ((decide (v.2.2.2.2.1>(0:Int)))) (.ask (decide (0≤(IntKind.i64.wrap (v.2.2.2.2.1-(1:Int)))∧(IntKind.i64.wrap (v.2.2.2.2.1-(1:Int)))<v.1.length)) (.opt (v.1[((IntKind.i64.wrap (v.2.2.2.2.1-(1:Int)))).toNat]?) fun e88=>(.ask (decide (e88.length=1)) (.opt (zC .i64 e88 0) fun y89=>(.ask ((decide (y89≥y86))) (.done (.inr (.inl (false)))) (.done (.inl (v.1,v.2.1,v.2.2.1,v.2.2.2.1,(IntKind.i64.wrap (v.2.2.2.2.1+(1:Int))),v.2.2.2.2.2.1,v.2.2.2.2.2.2.1,v.2.2.2.2.2.2.2))))) .fail)) .fail) (.done (.inl (v.1,v.2.1,v.2.2.1,v.2.2.2.1,(IntKind.i64.wrap (v.2.2.2.2.1+(1:Int))),v.2.2.2.2.2.1,v.2.2.2.2.2.2.1,v.2.2.2.2.2.2.2)))))))) .fail)) .fail) (.done (.inr (.inr (v.1)))))
def qIH (n:Nat) (x0:Int) (x1 x2 x3:RW) (x4:Int):Tr (Bool):=(.opt (zD (qDz n) n (x3,x4,x3,(x3.length:Int),(0:Int),x0,x1,x2)) fun r90=>(.alt r90 (fun r91=>(.done r91)) (fun r92=>(.done (decide ((r92.length:Int)≤(2:Int)))))))
def qC7:Nat→Int→RW→RW→RW→Int→Option (Bool)
 |0,_,_,_,_,_=>none
 |n+1,x0,x1,x2,x3,x4=>(qIH n x0 x1 x2 x3 x4).run
abbrev qII (n:Nat):List (Ent (Rn n)):= [en (qF9 n)]
def qK4 (n:Nat):LEnt (KB 68) (Rn n) n:=lok (zK 68) 13 ⟨⟨[(1,aL),(2,aI),(3,(.c (.ptr 0 192 0 0 0))),(9,aL),(10,aI),(11,aI)],[(192,⟨0,3,50,(.box [qI,qL,qL])⟩)],[]⟩,[(.ret,⟨[(6,aB)],[],[]⟩),(.exit 0,⟨[(1,aL)],[],[]⟩)]⟩ (qDz n) (qII n) [] fun _=>(by kernel_rfl)
theorem qMi:∀n,Ok (Rn n) qNl (qC7 n)
 |0=>ok0 fun _=>rfl
 |n+1=>stO (T:=qIH n) (by kernel_rfl) (qII n) [qK4 n] (fun _=>(by kernel_rfl)) fun _=>(by kernel_rfl)
def qRs:Sg:=⟨89,[(.agg [qI,qI])],[],⟨aB,[],[]⟩⟩
def qIj (n:Nat) (x0 x1:Int):Tr (Bool):=(.opt (qw n x0 (1:Int) (52:Int)) fun r98=>(.ask (r98) (.opt (qw n x1 (1:Int) (99:Int)) fun r99=>(.done r99)) (.done false)))
def qBu:Nat→Int→Int→Option (Bool)
 |0,_,_=>none
 |n+1,x0,x1=>(qIj n x0 x1).run
abbrev qRt (n:Nat):List (Ent (Rn n)):= [en (qC6 n)]
theorem qFY:∀n,Ok (Rn n) qRs (qBu n)
 |0=>ok0 fun _=>rfl
 |n+1=>stO (T:=qIj n) (by kernel_rfl) (qRt n) [] (fun _=>(by kernel_rfl)) fun _=>(by kernel_rfl)
def qMj:Sg:=⟨166,[aI],[],⟨aB,[],[]⟩⟩
def qEt (n:Nat) (x0:Int):Tr (Bool):=(.done (x0 !=x0))
def qCe:Nat→Int→Option (Bool)
 |0,_=>none
 |n+1,x0=>(qEt n x0).run
theorem qLt:∀n,Ok (Rn n) qMj (qCe n)
 |0=>ok0 fun _=>rfl
 |n+1=>stO (T:=qEt n) (by kernel_rfl) [] [] (fun _=>(by kernel_rfl)) fun _=>(by kernel_rfl)
def qK5:Sg:=⟨132,[aI,aI],[],⟨aI,[],[]⟩⟩
def qD0 (n:Nat) (x0 x1:Int):Tr (Int):=(.opt (qCe n x0) fun r104=>(.opt (qCe n x1) fun r105=>(.ask (r104) (.ask (r105) (.done (0:Int)) (.done (-1:Int))) (.ask (r105) (.done (1:Int)) (.ask ((decide (x0<x1))) (.done (-1:Int)) (.ask ((decide (x0>x1))) (.done (1:Int)) (.done (0:Int))))))))
def qB7:Nat→Int→Int→Option (Int)
 |0,_,_=>none
 |n+1,x0,x1=>(qD0 n x0 x1).run
abbrev qK6 (n:Nat):List (Ent (Rn n)):= [en (qLt n)]
theorem qJ7:∀n,Ok (Rn n) qK5 (qB7 n)
 |0=>ok0 fun _=>rfl
 |n+1=>stO (T:=qD0 n) (by kernel_rfl) (qK6 n) [] (fun _=>(by kernel_rfl)) fun _=>(by kernel_rfl)
def qRu:Sg:=⟨131,[aL],[],⟨aI,[],[]⟩⟩
def qCZ (n:Nat) (v:Int×RW×Int×Int):Tr ((Int×RW×Int×Int)⊕((Int)⊕(Int))):=(.ask ((decide (v.2.2.2<v.2.2.1))) (.ask (decide (0≤v.2.2.2∧v.2.2.2<v.2.1.length)) (.opt (v.2.1[(v.2.2.2).toNat]?) fun e108=>(.ask (decide (e108.length=1)) (.opt (zC .i64 e108 0) fun y109=>(.ask ((y109 !=v.1)) (.done (.inr (.inl (y109)))) (.done (.inl (v.1,v.2.1,v.2.2.1,(IntKind.i64.wrap (v.2.2.2+(1:Int)))))))) .fail)) .fail) (.done (.inr (.inr (v.1)))))
def qIk (n:Nat) (x0:RW):Tr (Int):=(.opt (zD (qCZ n) n ((0:Int),x0,(x0.length:Int),(0:Int))) fun r110=>(.alt r110 (fun r111=>(.done r111)) (fun r112=>(.done r112))))
def qGO:Nat→RW→Option (Int)
 |0,_=>none
 |n+1,x0=>(qIk n x0).run
def qO2 (n:Nat):LEnt (KB 131) (Rn n) n:=lok (zK 131) 29 ⟨⟨[(3,aI),(6,aL),(7,aI),(8,aI)],[],[]⟩,[(.ret,⟨[(2,aI)],[],[]⟩),(.exit 0,⟨[(3,aI)],[],[]⟩)]⟩ (qCZ n) [] [] fun _=>(by kernel_rfl)
theorem qQs:∀n,Ok (Rn n) qRu (qGO n)
 |0=>ok0 fun _=>rfl
 |n+1=>stO (T:=qIk n) (by kernel_rfl) [] [qO2 n] (fun _=>(by kernel_rfl)) fun _=>(by kernel_rfl)
def qLu:Sg:=⟨90,[(.agg [qI,qI]),(.agg [qI,qI])],[],⟨aI,[],[]⟩⟩
def qEQ (n:Nat) (x0 x1 x2 x3:Int):Tr (Int):=(.opt (qB7 n x1 x3) fun r106=>(.opt (qB7 n x0 x2) fun r107=>(.ask (decide (2=([[(.i .i64 r106)],[(.i .i64 r107)]]:RW).length)) (.opt (qGO n ([[(.i .i64 r106)],[(.i .i64 r107)]]:RW)) fun r113=>(.ask (zAv (⟨(.c (.p (.i .i64 r113))),[],[]⟩:Res)) (.done r113) .fail)) .fail)))
def qBm:Nat→Int→Int→Int→Int→Option (Int)
 |0,_,_,_,_=>none
 |n+1,x0,x1,x2,x3=>(qEQ n x0 x1 x2 x3).run
abbrev qLv (n:Nat):List (Ent (Rn n)):= [en (qJ7 n),en (qQs n)]
theorem qK7:∀n,Ok (Rn n) qLu (qBm n)
 |0=>ok0 fun _=>rfl
 |n+1=>stO (T:=qEQ n) (by kernel_rfl) (qLv n) [] (fun _=>(by kernel_rfl)) fun _=>(by kernel_rfl)
def qQt:Sg:=⟨158,[aS,aI],[],⟨aB,[],[]⟩⟩
def qBn (n:Nat) (v:BA×Int×Int×Int):Tr ((BA×Int×Int×Int)⊕((Bool)⊕(BA×Int))):=(.ask ((decide (v.2.2.2<v.2.2.1))) (.ask (decide (0≤v.2.2.2)) (.opt (v.1.toList[(v.2.2.2).toNat]?) fun c115=>(.ask ((decide ((c115.toNat:Int)<(32:Int)))) (.done (.inr (.inl (false)))) (.ask (decide (0≤v.2.2.2)) (.opt (v.1.toList[(v.2.2.2).toNat]?) fun c116=>(.ask ((decide ((c116.toNat:Int)>(126:Int)))) (.done (.inr (.inl (false)))) (.done (.inl (v.1,v.2.1,v.2.2.1,(IntKind.i64.wrap (v.2.2.2+(1:Int)))))))) .fail))) .fail) (.done (.inr (.inr ((v.1,v.2.1))))))
def qHs (n:Nat) (x0:BA) (x1:Int):Tr (Bool):=(.opt (zD (qBn n) n (x0,x1,(x0.size:Int),(0:Int))) fun r117=>(.alt r117 (fun r118=>(.done r118)) (fun r119=>(.done (decide ((r119.1.size:Int)≤r119.2))))))
def qCq:Nat→BA→Int→Option (Bool)
 |0,_,_=>none
 |n+1,x0,x1=>(qHs n x0 x1).run
def qNm (n:Nat):LEnt (KB 158) (Rn n) n:=lok (zK 158) 13 ⟨⟨[(0,aS),(1,aI),(7,aI),(8,aI)],[],[]⟩,[(.ret,⟨[(4,aB)],[],[]⟩),(.exit 0,⟨[(0,aS),(1,aI)],[],[]⟩)]⟩ (qBn n) [] [] fun _=>(by kernel_rfl)
theorem qGl:∀n,Ok (Rn n) qQt (qCq n)
 |0=>ok0 fun _=>rfl
 |n+1=>stO (T:=qHs n) (by kernel_rfl) [] [qNm n] (fun _=>(by kernel_rfl)) fun _=>(by kernel_rfl)
def qGA:Sg:=⟨118,[aS,aS],[],⟨(.tup [(false,[qS]),(false,[qB])]),[],[]⟩⟩
def qAH:Nat→BA→BA→Option ((BA×Bool))
 |0,_,_=>none
 |n+1,x0,x1=>zY x0 x1
theorem qCf:∀n,Ok (Rn n) qGA (qAH n)
 |0=>ok0 fun _=>rfl
 |n+1=>stL (by kernel_rfl) (fun a r e=>congrArg (Option.map fun r=>(qGA.Of r).v) e) rfl rfl rfl
def qGm:Sg:=⟨197,[aS,aS],[],⟨aS,[],[]⟩⟩
def qBM:Nat→BA→BA→Option ((BA))
 |0,_,_=>none
 |n+1,x0,x1=>zN x0 x1
theorem qD1:∀n,Ok (Rn n) qGm (qBM n)
 |0=>ok0 fun _=>rfl
 |n+1=>stL (by kernel_rfl) (fun a r e=>congrArg (Option.map fun r=>(qGm.Of r).v) e) rfl rfl rfl
def qJ8:Sg:=⟨160,[(.c (.ptr 0 0 0 0 0))],[[(0,⟨0,3,198,(.box [qS,(.own 0 1 1 0),qB])⟩),(1,⟨1,14,162,(.row [])⟩)]],⟨(.tup []),[[(0,⟨0,3,198,(.box [qS,(.own 0 1 1 0),qB])⟩),(1,⟨1,14,162,(.row [])⟩)]],[]⟩⟩
def qDY (n:Nat) (x0:BA) (x1:Nat) (x2:Bool) (x3:RW):Tr (BA×Nat×Bool×RW):=(.opt (qBM n x0 (⟨#[32]⟩:BA)) fun r123=>(.done (r123,x1,x2,x3)))
def qAx:Nat→BA→Nat→Bool→RW→Option (BA×Nat×Bool×RW)
 |0,_,_,_,_=>none
 |n+1,x0,x1,x2,x3=>(qDY n x0 x1 x2 x3).run
abbrev qJ9 (n:Nat):List (Ent (Rn n)):= [en (qD1 n)]
theorem qCS:∀n,Ok (Rn n) qJ8 (qAx n)
 |0=>ok0 fun _=>rfl
 |n+1=>stO (T:=qDY n) (by kernel_rfl) (qJ9 n) [] (fun _=>(by kernel_rfl)) fun _=>(by kernel_rfl)
def qEu:Sg:=⟨190,[aS,aS],[],⟨aB,[],[]⟩⟩
def qAv (n:Nat) (x0 x1:BA):Tr (Bool):=(.ask ((decide ((x0.size:Int)≥(x1.size:Int)))) (.ask (decide (0≤(0:Int)∧(0:Int)≤(x1.size:Int)∧(x1.size:Int)≤x0.size)) (.done ((x0.extract ((0:Int)).toNat ((x1.size:Int)).toNat).toList==x1.toList)) .fail) (.done false))
def qAB:Nat→BA→BA→Option (Bool)
 |0,_,_=>none
 |n+1,x0,x1=>(qAv n x0 x1).run
theorem qCV:∀n,Ok (Rn n) qEu (qAB n)
 |0=>ok0 fun _=>rfl
 |n+1=>stO (T:=qAv n) (by kernel_rfl) [] [] (fun _=>(by kernel_rfl)) fun _=>(by kernel_rfl)
def qK8:Sg:=⟨204,[aS,aS],[],⟨aB,[],[]⟩⟩
def qB8 (n:Nat) (x0 x1:BA):Tr (Bool):=(.opt (qAB n x0 x1) fun r127=>(.done r127))
def qm:Nat→BA→BA→Option (Bool)
 |0,_,_=>none
 |n+1,x0,x1=>(qB8 n x0 x1).run
abbrev qK9 (n:Nat):List (Ent (Rn n)):= [en (qCV n)]
theorem qCg:∀n,Ok (Rn n) qK8 (qm n)
 |0=>ok0 fun _=>rfl
 |n+1=>stO (T:=qB8 n) (by kernel_rfl) (qK9 n) [] (fun _=>(by kernel_rfl)) fun _=>(by kernel_rfl)
def qLw:Sg:=⟨192,[(.c (.ptr 0 0 0 0 0))],[[(0,⟨0,3,198,(.box [qS,(.own 0 1 1 0),qB])⟩),(1,⟨1,14,162,(.row [])⟩)]],⟨aS,[[(0,⟨0,3,198,(.box [qS,(.own 0 1 1 0),qB])⟩),(1,⟨1,14,162,(.row [])⟩)]],[]⟩⟩
def qCT (n:Nat) (v:Nat×Int×Int×RW×BA×Nat×Bool×RW):Tr ((Nat×Int×Int×RW×BA×Nat×Bool×RW)⊕((BA×BA×Nat×Bool×RW)⊕(BA×Nat×Bool×RW))):=(.ask ((decide (v.2.2.1<v.2.1))) (.ask (decide (v.1=v.2.2.2.1.length∧0≤v.2.2.1∧v.2.2.1<((v.1:Nat):Int))) (.opt (v.2.2.2.1[(v.2.2.1).toNat]?) fun e125=>(.opt (zR e125 0) fun y126=>(.opt (qm n v.2.2.2.2.1 y126) fun r127=>(.ask (r127) (.done (.inr (.inl ((y126,v.2.2.2.2.1,v.2.2.2.2.2.1,v.2.2.2.2.2.2.1,v.2.2.2.2.2.2.2))))) (.done (.inl (v.1,v.2.1,(IntKind.i64.wrap (v.2.2.1+(1:Int))),v.2.2.2.1,v.2.2.2.2.1,v.2.2.2.2.2.1,v.2.2.2.2.2.2.1,v.2.2.2.2.2.2.2))))))) .fail) (.done (.inr (.inr ((v.2.2.2.2.1,v.2.2.2.2.2.1,v.2.2.2.2.2.2.1,v.2.2.2.2.2.2.2))))))
def qGn (n:Nat) (x0:BA) (x1:Nat) (x2:Bool) (x3:RW):Tr (BA×BA×Nat×Bool×RW):=(.opt (qAx n x0 x1 x2 x3) fun r124=>(.opt (zD (qCT n) n ((15:Nat),(15:Int),(0:Int),([[(.s (⟨#[60,62]⟩:BA))],[(.s (⟨#[60,61]⟩:BA))],[(.s (⟨#[62,61]⟩:BA))],[(.s (⟨#[60]⟩:BA))],[(.s (⟨#[62]⟩:BA))],[(.s (⟨#[61]⟩:BA))],[(.s (⟨#[38]⟩:BA))],[(.s (⟨#[43]⟩:BA))],[(.s (⟨#[45]⟩:BA))],[(.s (⟨#[42]⟩:BA))],[(.s (⟨#[47]⟩:BA))],[(.s (⟨#[40]⟩:BA))],[(.s (⟨#[41]⟩:BA))],[(.s (⟨#[44]⟩:BA))],[(.s (⟨#[58]⟩:BA))]]:RW),r124.1,r124.2.1,r124.2.2.1,r124.2.2.2)) fun r128=>(.alt r128 (fun r129=>(.done (r129.1,r129.2.1,r129.2.2.1,r129.2.2.2.1,r129.2.2.2.2))) (fun r130=>(.done ((⟨#[]⟩:BA),r130.1,r130.2.1,r130.2.2.1,r130.2.2.2))))))
def qBo:Nat→BA→Nat→Bool→RW→Option (BA×BA×Nat×Bool×RW)
 |0,_,_,_,_=>none
 |n+1,x0,x1,x2,x3=>(qGn n x0 x1 x2 x3).run
abbrev qGo (n:Nat):List (Ent (Rn n)):= [en (qCS n),en (qCg n)]
def qJf (n:Nat):LEnt (KB 192) (Rn n) n:=lok (zK 192) 29 ⟨⟨[(0,(.c (.ptr 0 0 0 0 0))),(7,(.c (.own 1 448 0 0))),(8,aI),(9,aI)],[(448,⟨0,1,9,(.row [])⟩)],[[(0,⟨0,3,198,(.box [qS,(.own 0 1 1 0),qB])⟩),(1,⟨1,14,162,(.row [])⟩)]]⟩,[(.ret,⟨[(2,aS)],[],[[(0,⟨0,3,198,(.box [qS,(.own 0 1 1 0),qB])⟩),(1,⟨1,14,162,(.row [])⟩)]]⟩),(.exit 0,⟨[],[],[[(0,⟨0,3,198,(.box [qS,(.own 0 1 1 0),qB])⟩),(1,⟨1,14,162,(.row [])⟩)]]⟩)]⟩ (qCT n) (qGo n) [] fun _=>(by kernel_rfl)
theorem qGB:∀n,Ok (Rn n) qLw (qBo n)
 |0=>ok0 fun _=>rfl
 |n+1=>stO (T:=qGn n) (by kernel_rfl) (qGo n) [qJf n] (fun _=>(by kernel_rfl)) fun _=>(by kernel_rfl)
def qLx:Sg:=⟨195,[(.c (.ptr 0 0 0 0 0)),aS],[[(0,⟨0,3,198,(.box [qS,(.own 0 1 1 0),qB])⟩),(1,⟨1,14,162,(.row [])⟩)]],⟨aB,[[(0,⟨0,3,198,(.box [qS,(.own 0 1 1 0),qB])⟩),(1,⟨1,14,162,(.row [])⟩)]],[]⟩⟩
def qGp (n:Nat) (x0 x1:BA) (x2:Nat) (x3:Bool) (x4:RW):Tr (Bool×BA×Nat×Bool×RW):=(.opt (qBo n x1 x2 x3 x4) fun r131=>(.ask ((!(r131.1.toList==x0.toList))) (.done (false,r131.2.1,r131.2.2.1,r131.2.2.2.1,r131.2.2.2.2)) (.ask (decide (0≤(x0.size:Int)∧(x0.size:Int)≤(r131.2.1.size:Int)∧(r131.2.1.size:Int)≤r131.2.1.size)) (.done (true,(r131.2.1.extract ((x0.size:Int)).toNat ((r131.2.1.size:Int)).toNat),r131.2.2.1,r131.2.2.2.1,r131.2.2.2.2)) .fail)))
def qo:Nat→BA→BA→Nat→Bool→RW→Option (Bool×BA×Nat×Bool×RW)
 |0,_,_,_,_,_=>none
 |n+1,x0,x1,x2,x3,x4=>(qGp n x0 x1 x2 x3 x4).run
abbrev qLy (n:Nat):List (Ent (Rn n)):= [en (qGB n)]
theorem qB9:∀n,Ok (Rn n) qLx (qo n)
 |0=>ok0 fun _=>rfl
 |n+1=>stO (T:=qGp n) (by kernel_rfl) (qLy n) [] (fun _=>(by kernel_rfl)) fun _=>(by kernel_rfl)
def qMk:Sg:=⟨196,[(.c (.ptr 0 0 0 0 0)),(.agg [qI,qI,qI,qI,qS,qI,qI,qB,qB,qI,qI,qB,qB,qL])],[[(0,⟨0,3,198,(.box [qS,(.own 0 1 1 0),qB])⟩),(1,⟨1,14,162,(.row [])⟩)]],⟨aI,[[(0,⟨0,3,198,(.box [qS,(.own 0 1 1 0),qB])⟩),(1,⟨1,14,162,(.row [])⟩)]],[]⟩⟩
def qHP (n:Nat) (x0 x1 x2 x3:Int) (x4:BA) (x5 x6:Int) (x7 x8:Bool) (x9 x10:Int) (x11 x12:Bool) (x13:RW) (x14:BA) (x15:Nat) (x16:Bool) (x17:RW):Tr (Int×BA×Nat×Bool×RW):=(.ask (x16) (.ask (false) (.ask (decide (1=([[(.i .i64 x0),(.i .i64 x1),(.i .i64 x2),(.i .i64 x3),(.s x4),(.i .i64 x5),(.i .i64 x6),(.b x7),(.b x8),(.i .i64 x9),(.i .i64 x10),(.b x11),(.b x12),(.ls x13)]]:RW).length)) (.ask (decide (x15=x17.length∧0<14∧0<120∧(x15+([[(.i .i64 x0),(.i .i64 x1),(.i .i64 x2),(.i .i64 x3),(.s x4),(.i .i64 x5),(.i .i64 x6),(.b x7),(.b x8),(.i .i64 x9),(.i .i64 x10),(.b x11),(.b x12),(.ls x13)]]:RW).length)*120≤140737488355328∧([[(.i .i64 x0),(.i .i64 x1),(.i .i64 x2),(.i .i64 x3),(.s x4),(.i .i64 x5),(.i .i64 x6),(.b x7),(.b x8),(.i .i64 x9),(.i .i64 x10),(.b x11),(.b x12),(.ls x13)]]:RW).all (fun e=>e.length==14)=true)) (.done ((IntKind.i64.wrap ((((x15+1):Nat):Int)-(1:Int))),x14,(x15+1),true,(x17++([[(.i .i64 x0),(.i .i64 x1),(.i .i64 x2),(.i .i64 x3),(.s x4),(.i .i64 x5),(.i .i64 x6),(.b x7),(.b x8),(.i .i64 x9),(.i .i64 x10),(.b x11),(.b x12),(.ls x13)]]:RW)))) .fail) .fail) (.done ((IntKind.i64.wrap (((x15:Nat):Int)-(1:Int))),x14,x15,true,x17))) (.ask ((!(decide (((x15:Nat):Int)≥(60:Int))))) (.ask (decide (1=([[(.i .i64 x0),(.i .i64 x1),(.i .i64 x2),(.i .i64 x3),(.s x4),(.i .i64 x5),(.i .i64 x6),(.b x7),(.b x8),(.i .i64 x9),(.i .i64 x10),(.b x11),(.b x12),(.ls x13)]]:RW).length)) (.ask (decide (x15=x17.length∧0<14∧0<120∧(x15+([[(.i .i64 x0),(.i .i64 x1),(.i .i64 x2),(.i .i64 x3),(.s x4),(.i .i64 x5),(.i .i64 x6),(.b x7),(.b x8),(.i .i64 x9),(.i .i64 x10),(.b x11),(.b x12),(.ls x13)]]:RW).length)*120≤140737488355328∧([[(.i .i64 x0),(.i .i64 x1),(.i .i64 x2),(.i .i64 x3),(.s x4),(.i .i64 x5),(.i .i64 x6),(.b x7),(.b x8),(.i .i64 x9),(.i .i64 x10),(.b x11),(.b x12),(.ls x13)]]:RW).all (fun e=>e.length==14)=true)) (.done ((IntKind.i64.wrap ((((x15+1):Nat):Int)-(1:Int))),x14,(x15+1),(decide (((x15:Nat):Int)≥(60:Int))),(x17++([[(.i .i64 x0),(.i .i64 x1),(.i .i64 x2),(.i .i64 x3),(.s x4),(.i .i64 x5),(.i .i64 x6),(.b x7),(.b x8),(.i .i64 x9),(.i .i64 x10),(.b x11),(.b x12),(.ls x13)]]:RW)))) .fail) .fail) (.done ((IntKind.i64.wrap (((x15:Nat):Int)-(1:Int))),x14,x15,(decide (((x15:Nat):Int)≥(60:Int))),x17))))
def qp:Nat→Int→Int→Int→Int→BA→Int→Int→Bool→Bool→Int→Int→Bool→Bool→RW→BA→Nat→Bool→RW→Option (Int×BA×Nat×Bool×RW)
 |0,_,_,_,_,_,_,_,_,_,_,_,_,_,_,_,_,_,_=>none
 |n+1,x0,x1,x2,x3,x4,x5,x6,x7,x8,x9,x10,x11,x12,x13,x14,x15,x16,x17=>(qHP n x0 x1 x2 x3 x4 x5 x6 x7 x8 x9 x10 x11 x12 x13 x14 x15 x16 x17).run
theorem qCO:∀n,Ok (Rn n) qMk (qp n)
 |0=>ok0 fun _=>rfl
 |n+1=>stO (T:=qHP n) (by kernel_rfl) [] [] (fun _=>(by kernel_rfl)) fun _=>(by kernel_rfl)
def qLV:Sg:=⟨261,[aS,aS],[],⟨(.tup [(false,[qS]),(false,[qS]),(false,[qB])]),[],[]⟩⟩
def qHt:Nat→BA→BA→Option ((BA×BA×Bool))
 |0,_,_=>none
 |n+1,x0,x1=>zAS x0 x1
theorem qPv:∀n,Ok (Rn n) qLV (qHt n)
 |0=>ok0 fun _=>rfl
 |n+1=>stL (by kernel_rfl) (fun a r e=>congrArg (Option.map fun r=>(qLV.Of r).v) e) rfl rfl rfl
def qIl:Sg:=⟨244,[(.c (.ptr 0 0 0 0 0)),(.agg [qI,qI,qS])],[[(0,⟨0,3,198,(.box [qS,(.own 0 1 1 0),qB])⟩),(1,⟨1,14,162,(.row [])⟩)]],⟨aI,[[(0,⟨0,3,198,(.box [qS,(.own 0 1 1 0),qB])⟩),(1,⟨1,14,162,(.row [])⟩)]],[]⟩⟩
def qEv (n:Nat) (x0 x1:Int) (x2 x3:BA) (x4:Nat) (x5:Bool) (x6:RW):Tr (Int×BA×Nat×Bool×RW):=(.opt (qp n (1:Int) (0:Int) x0 x1 x2 (0:Int) (0:Int) false false (0:Int) (0:Int) false false ([]:RW) x3 x4 x5 x6) fun r142=>(.done (r142.1,r142.2.1,r142.2.2.1,r142.2.2.2.1,r142.2.2.2.2)))
def qi:Nat→Int→Int→BA→BA→Nat→Bool→RW→Option (Int×BA×Nat×Bool×RW)
 |0,_,_,_,_,_,_,_=>none
 |n+1,x0,x1,x2,x3,x4,x5,x6=>(qEv n x0 x1 x2 x3 x4 x5 x6).run
abbrev qIm (n:Nat):List (Ent (Rn n)):= [en (qCO n)]
theorem qEY:∀n,Ok (Rn n) qIl (qi n)
 |0=>ok0 fun _=>rfl
 |n+1=>stO (T:=qEv n) (by kernel_rfl) (qIm n) [] (fun _=>(by kernel_rfl)) fun _=>(by kernel_rfl)
def qKA:Sg:=⟨243,[(.c (.ptr 0 0 0 0 0))],[[(0,⟨0,3,198,(.box [qS,(.own 0 1 1 0),qB])⟩),(1,⟨1,14,162,(.row [])⟩)]],⟨aI,[[(0,⟨0,3,198,(.box [qS,(.own 0 1 1 0),qB])⟩),(1,⟨1,14,162,(.row [])⟩)]],[]⟩⟩
def qC8 (n:Nat) (v:BA×BA×BA×Nat×Bool×RW):Tr ((BA×BA×BA×Nat×Bool×RW)⊕((Int×BA×Nat×Bool×RW)⊕(BA×BA×BA×Nat×Bool×RW))):=(.opt (qHt n v.2.1 (⟨#[34]⟩:BA)) fun r137=>(.ask ((!r137.2.2)) (.done (.inr (.inl (((-1:Int),v.2.2.1,v.2.2.2.1,true,v.2.2.2.2.2))))) (.ask (decide (v.1.size+r137.1.size≤9223372036854775807)) (.opt (qm n r137.2.1 (⟨#[34]⟩:BA)) fun r138=>(.ask ((!r138)) (.done (.inr (.inr (((v.1++r137.1),r137.2.1,v.2.2.1,v.2.2.2.1,v.2.2.2.2.1,v.2.2.2.2.2))))) (.ask (decide ((v.1++r137.1).size+(⟨#[34]⟩:BA).size≤9223372036854775807)) (.ask (decide (0≤(1:Int)∧(1:Int)≤(r137.2.1.size:Int)∧(r137.2.1.size:Int)≤r137.2.1.size)) (.done (.inl (((v.1++r137.1)++(⟨#[34]⟩:BA)),(r137.2.1.extract ((1:Int)).toNat ((r137.2.1.size:Int)).toNat),v.2.2.1,v.2.2.2.1,v.2.2.2.2.1,v.2.2.2.2.2))) .fail) .fail))) .fail)))
def qFe (n:Nat) (x0:BA) (x1:Nat) (x2:Bool) (x3:RW):Tr (Int×BA×Nat×Bool×RW):=(.ask (decide (0≤(1:Int)∧(1:Int)≤(x0.size:Int)∧(x0.size:Int)≤x0.size)) (.opt (zD (qC8 n) n ((⟨#[]⟩:BA),(x0.extract ((1:Int)).toNat ((x0.size:Int)).toNat),x0,x1,x2,x3)) fun r139=>(.alt r139 (fun r140=>(.done (r140.1,r140.2.1,r140.2.2.1,r140.2.2.2.1,r140.2.2.2.2))) (fun r141=>(.opt (qi n (2:Int) (0:Int) r141.1 r141.2.1 r141.2.2.2.1 r141.2.2.2.2.1 r141.2.2.2.2.2) fun r143=>(.done (r143.1,r143.2.1,r143.2.2.1,r143.2.2.2.1,r143.2.2.2.2)))))) .fail)
def qDZ:Nat→BA→Nat→Bool→RW→Option (Int×BA×Nat×Bool×RW)
 |0,_,_,_,_=>none
 |n+1,x0,x1,x2,x3=>(qFe n x0 x1 x2 x3).run
abbrev qFf (n:Nat):List (Ent (Rn n)):= [en (qPv n),en (qCg n),en (qEY n)]
def qIJ (n:Nat):LEnt (KB 243) (Rn n) n:=lok (zK 243) 14 ⟨⟨[(0,(.c (.ptr 0 0 0 0 0))),(3,aS),(4,aS)],[],[[(0,⟨0,3,198,(.box [qS,(.own 0 1 1 0),qB])⟩),(1,⟨1,14,162,(.row [])⟩)]]⟩,[(.ret,⟨[(2,aI)],[],[[(0,⟨0,3,198,(.box [qS,(.own 0 1 1 0),qB])⟩),(1,⟨1,14,162,(.row [])⟩)]]⟩),(.exit 0,⟨[(0,(.c (.ptr 0 0 0 0 0))),(3,aS),(4,aS)],[],[[(0,⟨0,3,198,(.box [qS,(.own 0 1 1 0),qB])⟩),(1,⟨1,14,162,(.row [])⟩)]]⟩)]⟩ (qC8 n) (qFf n) [] fun _=>(by kernel_rfl)
theorem qJg:∀n,Ok (Rn n) qKA (qDZ n)
 |0=>ok0 fun _=>rfl
 |n+1=>stO (T:=qFe n) (by kernel_rfl) (qFf n) [qIJ n] (fun _=>(by kernel_rfl)) fun _=>(by kernel_rfl)
def qNn:Sg:=⟨205,[aI],[],⟨aS,[],[]⟩⟩
def qFK (n:Nat) (x0:Int):Tr (BA):=(.ask (decide (6=([[(.s (⟨#[]⟩:BA))],[(.s (⟨#[35,68,73,86,33]⟩:BA))],[(.s (⟨#[35,84,89,80,69,33]⟩:BA))],[(.s (⟨#[35,82,69,70,33]⟩:BA))],[(.s (⟨#[35,79,86,69,82,33]⟩:BA))],[(.s (⟨#[35,67,89,67,76,69,33]⟩:BA))]]:RW).length∧0≤x0∧x0<((6:Nat):Int))) (.opt (([[(.s (⟨#[]⟩:BA))],[(.s (⟨#[35,68,73,86,33]⟩:BA))],[(.s (⟨#[35,84,89,80,69,33]⟩:BA))],[(.s (⟨#[35,82,69,70,33]⟩:BA))],[(.s (⟨#[35,79,86,69,82,33]⟩:BA))],[(.s (⟨#[35,67,89,67,76,69,33]⟩:BA))]]:RW)[(x0).toNat]?) fun e146=>(.opt (zR e146 0) fun y147=>(.done y147))) .fail)
def qAf:Nat→Int→Option (BA)
 |0,_=>none
 |n+1,x0=>(qFK n x0).run
theorem qEw:∀n,Ok (Rn n) qNn (qAf n)
 |0=>ok0 fun _=>rfl
 |n+1=>stO (T:=qFK n) (by kernel_rfl) [] [] (fun _=>(by kernel_rfl)) fun _=>(by kernel_rfl)
def qRv:Sg:=⟨206,[aI],[],⟨(.agg [qI,qI,qS]),[],[]⟩⟩
def qIn (n:Nat) (x0:Int):Tr (Int×Int×BA):=(.done ((4:Int),x0,(⟨#[]⟩:BA)))
def qBv:Nat→Int→Option (Int×Int×BA)
 |0,_=>none
 |n+1,x0=>(qIn n x0).run
theorem qLW:∀n,Ok (Rn n) qRv (qBv n)
 |0=>ok0 fun _=>rfl
 |n+1=>stO (T:=qIn n) (by kernel_rfl) [] [] (fun _=>(by kernel_rfl)) fun _=>(by kernel_rfl)
def qLz:Sg:=⟨245,[(.c (.ptr 0 0 0 0 0))],[[(0,⟨0,3,198,(.box [qS,(.own 0 1 1 0),qB])⟩),(1,⟨1,14,162,(.row [])⟩)]],⟨aS,[[(0,⟨0,3,198,(.box [qS,(.own 0 1 1 0),qB])⟩),(1,⟨1,14,162,(.row [])⟩)]],[]⟩⟩
def qGq (n:Nat) (x0:BA) (x1:Nat) (x2:Bool) (x3:RW):Tr (BA×BA×Nat×Bool×RW):=(.opt (qAx n x0 x1 x2 x3) fun r153=>(.opt (qBM n r153.1 (⟨#[65,66,67,68,69,70,71,72,73,74,75,76,77,78,79,80,81,82,83,84,85,86,87,88,89,90,48,49,50,51,52,53,54,55,56,57,36]⟩:BA)) fun r154=>(.ask (decide (0≤(0:Int)∧(0:Int)≤(IntKind.i64.wrap ((r153.1.size:Int)-(r154.size:Int)))∧(IntKind.i64.wrap ((r153.1.size:Int)-(r154.size:Int)))≤r153.1.size)) (.ask (decide (0≤(IntKind.i64.wrap ((r153.1.size:Int)-(r154.size:Int)))∧(IntKind.i64.wrap ((r153.1.size:Int)-(r154.size:Int)))≤(r153.1.size:Int)∧(r153.1.size:Int)≤r153.1.size)) (.done ((r153.1.extract ((0:Int)).toNat ((IntKind.i64.wrap ((r153.1.size:Int)-(r154.size:Int)))).toNat),(r153.1.extract ((IntKind.i64.wrap ((r153.1.size:Int)-(r154.size:Int)))).toNat ((r153.1.size:Int)).toNat),r153.2.1,r153.2.2.1,r153.2.2.2)) .fail) .fail)))
def qBN:Nat→BA→Nat→Bool→RW→Option (BA×BA×Nat×Bool×RW)
 |0,_,_,_,_=>none
 |n+1,x0,x1,x2,x3=>(qGq n x0 x1 x2 x3).run
abbrev qL0 (n:Nat):List (Ent (Rn n)):= [en (qCS n),en (qD1 n)]
theorem qGC:∀n,Ok (Rn n) qLz (qBN n)
 |0=>ok0 fun _=>rfl
 |n+1=>stO (T:=qGq n) (by kernel_rfl) (qL0 n) [] (fun _=>(by kernel_rfl)) fun _=>(by kernel_rfl)
def qPw:Sg:=⟨170,[(.agg [qI,qI,qS])],[],⟨aB,[],[]⟩⟩
def qGr (n:Nat) (x0 x1:Int) (x2:BA):Tr (Bool):=(.ask ((x0==(2:Int))) (.ask ((x1==(0:Int))) (.opt (qCq n x2 (200:Int)) fun r157=>(.done r157)) (.done false)) (.ask ((!(x2.toList==(⟨#[]⟩:BA).toList))) (.done false) (.ask ((x0==(0:Int))) (.done (x1==(0:Int))) (.ask ((x0==(1:Int))) (.opt (qw n x1 (-1000000000000000:Int) (1000000000000000:Int)) fun r158=>(.done r158)) (.ask ((x0==(3:Int))) (.opt (qw n x1 (0:Int) (1:Int)) fun r159=>(.done r159)) (.ask ((x0==(4:Int))) (.opt (qw n x1 (1:Int) (5:Int)) fun r160=>(.done r160)) (.done false)))))))
def qAR:Nat→Int→Int→BA→Option (Bool)
 |0,_,_,_=>none
 |n+1,x0,x1,x2=>(qGr n x0 x1 x2).run
abbrev qPx (n:Nat):List (Ent (Rn n)):= [en (qGl n),en (qC6 n)]
theorem qFz:∀n,Ok (Rn n) qPw (qAR n)
 |0=>ok0 fun _=>rfl
 |n+1=>stO (T:=qGr n) (by kernel_rfl) (qPx n) [] (fun _=>(by kernel_rfl)) fun _=>(by kernel_rfl)
def qGD:Sg:=⟨144,[aI,aI],[],⟨aS,[],[]⟩⟩
def qD2:Nat→Int→Int→Option ((BA))
 |0,_,_=>none
 |n+1,x0,x1=>zf x0 x1
theorem qKB:∀n,Ok (Rn n) qGD (qD2 n)
 |0=>ok0 fun _=>rfl
 |n+1=>stL (by kernel_rfl) (fun a r e=>congrArg (Option.map fun r=>(qGD.Of r).v) e) rfl rfl rfl
def qPy:Sg:=⟨103,[aI],[],⟨aS,[],[]⟩⟩
def qGs (n:Nat) (x0:Int):Tr (BA):=(.opt (qD2 n x0 (10:Int)) fun r162=>(.done r162))
def qBD:Nat→Int→Option (BA)
 |0,_=>none
 |n+1,x0=>(qGs n x0).run
abbrev qPz (n:Nat):List (Ent (Rn n)):= [en (qKB n)]
theorem qF0:∀n,Ok (Rn n) qPy (qBD n)
 |0=>ok0 fun _=>rfl
 |n+1=>stO (T:=qGs n) (by kernel_rfl) (qPz n) [] (fun _=>(by kernel_rfl)) fun _=>(by kernel_rfl)
def qNo:Sg:=⟨207,[(.agg [qI,qI,qS])],[],⟨aS,[],[]⟩⟩
def qBp (n:Nat) (x0 x1:Int) (x2:BA):Tr (BA):=(.ask ((x0==(1:Int))) (.opt (qBD n x1) fun r163=>(.done r163)) (.ask ((x0==(2:Int))) (.ask (decide ((⟨#[39]⟩:BA).size+x2.size≤9223372036854775807)) (.done ((⟨#[39]⟩:BA)++x2)) .fail) (.ask ((x0==(3:Int))) (.ask (decide (2=([[(.s (⟨#[70,65,76,83,69]⟩:BA))],[(.s (⟨#[84,82,85,69]⟩:BA))]]:RW).length∧0≤x1∧x1<((2:Nat):Int))) (.opt (([[(.s (⟨#[70,65,76,83,69]⟩:BA))],[(.s (⟨#[84,82,85,69]⟩:BA))]]:RW)[(x1).toNat]?) fun e164=>(.opt (zR e164 0) fun y165=>(.done y165))) .fail) (.ask ((x0==(4:Int))) (.opt (qAf n x1) fun r166=>(.done r166)) (.done (⟨#[]⟩:BA))))))
def qq:Nat→Int→Int→BA→Option (BA)
 |0,_,_,_=>none
 |n+1,x0,x1,x2=>(qBp n x0 x1 x2).run
abbrev qNp (n:Nat):List (Ent (Rn n)):= [en (qF0 n),en (qEw n)]
theorem qHQ:∀n,Ok (Rn n) qNo (qq n)
 |0=>ok0 fun _=>rfl
 |n+1=>stO (T:=qBp n) (by kernel_rfl) (qNp n) [] (fun _=>(by kernel_rfl)) fun _=>(by kernel_rfl)
def qRw:Sg:=⟨203,[aB],[],⟨(.agg [qI,qI,qS]),[],[]⟩⟩
def qIo (n:Nat) (x0:Bool):Tr (Int×Int×BA):=(.ask (x0) (.done ((3:Int),(1:Int),(⟨#[]⟩:BA))) (.done ((3:Int),(0:Int),(⟨#[]⟩:BA))))
def qEx:Nat→Bool→Option (Int×Int×BA)
 |0,_=>none
 |n+1,x0=>(qIo n x0).run
theorem qQu:∀n,Ok (Rn n) qRw (qEx n)
 |0=>ok0 fun _=>rfl
 |n+1=>stO (T:=qIo n) (by kernel_rfl) [] [] (fun _=>(by kernel_rfl)) fun _=>(by kernel_rfl)
def qL1:Sg2:=⟨168,[aS,aI,aI],(.tup [(false,[qI]),(false,[(.p .nif)])]),(.tup [(false,[qI]),(false,[(.p .ifc)])])⟩
def qAy:Nat→BA→Int→Int→Option ((Int)⊕(Int))
 |0,_,_,_=>none
 |n+1,x0,x1,x2=>zL x0 x1 x2
theorem qD3:∀n,Ok2 (Rn n) qL1 (qAy n)
 |0=>fun a r e=>by cases e
 |n+1=>zKr (by kernel_rfl) fun a r e=>by
  rcases r with r|r
  ·exact congrArg (Option.map zAD) e
  ·exact congrArg (Option.map zAD) e
def qQv:Sg:=⟨171,[aI],[],⟨(.agg [qI,qI,qS]),[],[]⟩⟩
def qHu (n:Nat) (x0:Int):Tr (Int×Int×BA):=(.done ((1:Int),x0,(⟨#[]⟩:BA)))
def qCr:Nat→Int→Option (Int×Int×BA)
 |0,_=>none
 |n+1,x0=>(qHu n x0).run
theorem qKC:∀n,Ok (Rn n) qQv (qCr n)
 |0=>ok0 fun _=>rfl
 |n+1=>stO (T:=qHu n) (by kernel_rfl) [] [] (fun _=>(by kernel_rfl)) fun _=>(by kernel_rfl)
def qNq:Sg:=⟨172,[aS],[],⟨(.tup [(true,[qI,qI,qS]),(false,[qB])]),[],[]⟩⟩
def qBC (n:Nat) (v:BA×Int×Int×Int×BA×Int×Int×BA):Tr ((BA×Int×Int×Int×BA×Int×Int×BA)⊕((BA×Int×Int×BA×Int×Int×BA))):=(.ask ((decide (v.2.1≤(5:Int)))) (.opt (qAf n v.2.1) fun r175=>(.ask ((r175.toList==v.1.toList)) (.opt (qBv n v.2.1) fun r176=>(.done (.inl (v.1,(IntKind.i64.wrap (v.2.1+(1:Int))),v.2.2.1,v.2.2.2.1,v.2.2.2.2.1,r176.1,r176.2.1,r176.2.2)))) (.done (.inl (v.1,(IntKind.i64.wrap (v.2.1+(1:Int))),v.2.2.1,v.2.2.2.1,v.2.2.2.2.1,v.2.2.2.2.2.1,v.2.2.2.2.2.2.1,v.2.2.2.2.2.2.2))))) (.done (.inr ((v.1,v.2.2.1,v.2.2.2.1,v.2.2.2.2.1,v.2.2.2.2.2.1,v.2.2.2.2.2.2.1,v.2.2.2.2.2.2.2)))))
def qBQ (n:Nat) (x0:BA):Tr (Int×Int×BA×Bool):=(.opt (qAH n x0 (⟨#[39]⟩:BA)) fun r156=>(.ask (r156.2) (.opt (qAR n (2:Int) (0:Int) r156.1) fun r161=>(.ask ((!r161)) (.done ((0:Int),(0:Int),(⟨#[]⟩:BA),false)) (.opt (qq n (2:Int) (0:Int) r156.1) fun r167=>(.ask ((!(r167.toList==x0.toList))) (.done ((0:Int),(0:Int),(⟨#[]⟩:BA),false)) (.done ((2:Int),(0:Int),r156.1,true)))))) (.ask ((x0.toList==(⟨#[70,65,76,83,69]⟩:BA).toList)) (.opt (qEx n (x0.toList==(⟨#[84,82,85,69]⟩:BA).toList)) fun r168=>(.opt (qAR n r168.1 r168.2.1 r168.2.2) fun r169=>(.ask ((!r169)) (.done ((0:Int),(0:Int),(⟨#[]⟩:BA),false)) (.opt (qq n r168.1 r168.2.1 r168.2.2) fun r170=>(.ask ((!(r170.toList==x0.toList))) (.done ((0:Int),(0:Int),(⟨#[]⟩:BA),false)) (.done (r168.1,r168.2.1,r168.2.2,true))))))) (.ask ((x0.toList==(⟨#[84,82,85,69]⟩:BA).toList)) (.opt (qEx n (x0.toList==(⟨#[84,82,85,69]⟩:BA).toList)) fun r171=>(.opt (qAR n r171.1 r171.2.1 r171.2.2) fun r172=>(.ask ((!r172)) (.done ((0:Int),(0:Int),(⟨#[]⟩:BA),false)) (.opt (qq n r171.1 r171.2.1 r171.2.2) fun r173=>(.ask ((!(r173.toList==x0.toList))) (.done ((0:Int),(0:Int),(⟨#[]⟩:BA),false)) (.done (r171.1,r171.2.1,r171.2.2,true))))))) (.opt (qm n x0 (⟨#[35]⟩:BA)) fun r174=>(.ask (r174) (.opt (zD (qBC n) n (x0,(1:Int),(0:Int),(0:Int),(⟨#[]⟩:BA),(0:Int),(0:Int),(⟨#[]⟩:BA))) fun r177=>(.opt (qAR n r177.2.2.2.2.1 r177.2.2.2.2.2.1 r177.2.2.2.2.2.2) fun r178=>(.ask ((!r178)) (.done ((0:Int),(0:Int),(⟨#[]⟩:BA),false)) (.opt (qq n r177.2.2.2.2.1 r177.2.2.2.2.2.1 r177.2.2.2.2.2.2) fun r179=>(.ask ((!(r179.toList==r177.1.toList))) (.done ((0:Int),(0:Int),(⟨#[]⟩:BA),false)) (.done (r177.2.2.2.2.1,r177.2.2.2.2.2.1,r177.2.2.2.2.2.2,true))))))) (.ask ((!(x0.toList==(⟨#[]⟩:BA).toList))) (.opt (qAy n x0 (10:Int) (64:Int)) fun r180=>(.alt r180 (fun r181=>(.opt (qCr n r181) fun r183=>(.opt (qAR n r183.1 r183.2.1 r183.2.2) fun r184=>(.ask ((!r184)) (.done ((0:Int),(0:Int),(⟨#[]⟩:BA),false)) (.opt (qq n r183.1 r183.2.1 r183.2.2) fun r185=>(.ask ((!(r185.toList==x0.toList))) (.done ((0:Int),(0:Int),(⟨#[]⟩:BA),false)) (.done (r183.1,r183.2.1,r183.2.2,true)))))))) (fun r182=>(.opt (qCr n r182) fun r186=>(.opt (qAR n r186.1 r186.2.1 r186.2.2) fun r187=>(.ask ((!r187)) (.done ((0:Int),(0:Int),(⟨#[]⟩:BA),false)) (.opt (qq n r186.1 r186.2.1 r186.2.2) fun r188=>(.ask ((!(r188.toList==x0.toList))) (.done ((0:Int),(0:Int),(⟨#[]⟩:BA),false)) (.done (r186.1,r186.2.1,r186.2.2,true)))))))))) (.opt (qAR n (0:Int) (0:Int) (⟨#[]⟩:BA)) fun r189=>(.ask ((!r189)) (.done ((0:Int),(0:Int),(⟨#[]⟩:BA),false)) (.opt (qq n (0:Int) (0:Int) (⟨#[]⟩:BA)) fun r190=>(.ask ((!(r190.toList==x0.toList))) (.done ((0:Int),(0:Int),(⟨#[]⟩:BA),false)) (.done ((0:Int),(0:Int),(⟨#[]⟩:BA),true)))))))))))))
def qd:Nat→BA→Option (Int×Int×BA×Bool)
 |0,_=>none
 |n+1,x0=>(qBQ n x0).run
abbrev qIK (n:Nat):List (Ent (Rn n)):= [en (qCf n),en (qFz n),en (qHQ n),en (qQu n),en (qCg n),en (qEw n),en (qLW n),en2 (qD3 n),en (qKC n)]
def qJh (n:Nat):LEnt (KB 172) (Rn n) n:=lok (zK 172) 3837 ⟨⟨[(0,aS),(2,(.c (.ptr 0 128 0 0 0))),(4,(.c (.ptr 0 256 0 0 0))),(7,aI)],[(128,⟨0,3,128,(.box [qI,qI,qS])⟩),(256,⟨0,3,128,(.box [qI,qI,qS])⟩)],[]⟩,[(.exit 1,⟨[(0,aS),(2,(.c (.ptr 0 128 0 0 0))),(4,(.c (.ptr 0 256 0 0 0)))],[(128,⟨0,3,128,(.box [qI,qI,qS])⟩),(256,⟨0,3,128,(.box [qI,qI,qS])⟩)],[]⟩)]⟩ (qBC n) (qIK n) [] fun _=>(by kernel_rfl)
theorem qHR:∀n,Ok (Rn n) qNq (qd n)
 |0=>ok0 fun _=>rfl
 |n+1=>stO (T:=qBQ n) (by kernel_rfl) (qIK n) [qJh n] (fun _=>(by kernel_rfl)) fun _=>(by kernel_rfl)
def qP0:Sg:=⟨184,[aI],[],⟨aS,[],[]⟩⟩
def qDa (n:Nat) (x0:Int):Tr (BA):=(.opt (qw n x0 (1:Int) (52:Int)) fun r196=>(.ask ((!r196)) (.done (⟨#[]⟩:BA)) (.ask ((decide (x0≤(26:Int)))) (.ask (decide (1=([[(.i .u8 (IntKind.u8.wrap (IntKind.i64.wrap ((IntKind.i64.wrap ((65:Int)+x0))-(1:Int)))))]]:RW).length)) (.opt (bytesOf ([[(.i .u8 (IntKind.u8.wrap (IntKind.i64.wrap ((IntKind.i64.wrap ((65:Int)+x0))-(1:Int)))))]]:RW)) fun l197=>(.done (⟨l197.toArray⟩:BA))) .fail) (.ask (decide (2=([[(.i .u8 (IntKind.u8.wrap (IntKind.i64.wrap ((IntKind.i64.wrap ((65:Int)+(IntKind.i64.wrap (Int.tdiv (IntKind.i64.wrap (x0-(1:Int))) (26:Int)))))-(1:Int)))))],[(.i .u8 (IntKind.u8.wrap (IntKind.i64.wrap ((65:Int)+(Int.tmod (IntKind.i64.wrap (x0-(1:Int))) (26:Int))))))]]:RW).length)) (.opt (bytesOf ([[(.i .u8 (IntKind.u8.wrap (IntKind.i64.wrap ((IntKind.i64.wrap ((65:Int)+(IntKind.i64.wrap (Int.tdiv (IntKind.i64.wrap (x0-(1:Int))) (26:Int)))))-(1:Int)))))],[(.i .u8 (IntKind.u8.wrap (IntKind.i64.wrap ((65:Int)+(Int.tmod (IntKind.i64.wrap (x0-(1:Int))) (26:Int))))))]]:RW)) fun l198=>(.done (⟨l198.toArray⟩:BA))) .fail))))
def qBz:Nat→Int→Option (BA)
 |0,_=>none
 |n+1,x0=>(qDa n x0).run
abbrev qP1 (n:Nat):List (Ent (Rn n)):= [en (qC6 n)]
theorem qJR:∀n,Ok (Rn n) qP0 (qBz n)
 |0=>ok0 fun _=>rfl
 |n+1=>stO (T:=qDa n) (by kernel_rfl) (qP1 n) [] (fun _=>(by kernel_rfl)) fun _=>(by kernel_rfl)
def qP2:Sg:=⟨262,[aS],[],⟨aI,[],[]⟩⟩
def qCh (n:Nat) (v:BA×Int):Tr ((BA×Int)⊕((Int)⊕(Unit))):=(.ask ((decide (v.2≤(52:Int)))) (.opt (qBz n v.2) fun r196=>(.ask ((r196.toList==v.1.toList)) (.done (.inr (.inl (v.2)))) (.done (.inl (v.1,(IntKind.i64.wrap (v.2+(1:Int)))))))) (.done (.inr (.inr (())))))
def qGt (n:Nat) (x0:BA):Tr (Int):=(.opt (zD (qCh n) n (x0,(1:Int))) fun r197=>(.alt r197 (fun r198=>(.done r198)) (fun r199=>(.done (0:Int)))))
def qEy:Nat→BA→Option (Int)
 |0,_=>none
 |n+1,x0=>(qGt n x0).run
abbrev qKD (n:Nat):List (Ent (Rn n)):= [en (qJR n)]
def qMl (n:Nat):LEnt (KB 262) (Rn n) n:=lok (zK 262) 13 ⟨⟨[(0,aS),(3,aI)],[],[]⟩,[(.ret,⟨[(2,aI)],[],[]⟩),(.exit 0,⟨[],[],[]⟩)]⟩ (qCh n) (qKD n) [] fun _=>(by kernel_rfl)
theorem qO3:∀n,Ok (Rn n) qP2 (qEy n)
 |0=>ok0 fun _=>rfl
 |n+1=>stO (T:=qGt n) (by kernel_rfl) (qKD n) [qMl n] (fun _=>(by kernel_rfl)) fun _=>(by kernel_rfl)
def qNr:Sg:=⟨143,[(.agg [qI,qI,qB,qB])],[],⟨aS,[],[]⟩⟩
def qDp (n:Nat) (x0 x1:Int) (x2 x3:Bool):Tr (BA):=(.opt (qBu n x0 x1) fun r206=>(.ask ((!r206)) (.done (⟨#[]⟩:BA)) (.ask (x2) (.opt (qBz n x0) fun r207=>(.ask (decide ((⟨#[36]⟩:BA).size+r207.size≤9223372036854775807)) (.ask (x3) (.ask (decide (((⟨#[36]⟩:BA)++r207).size+(⟨#[36]⟩:BA).size≤9223372036854775807)) (.opt (qBD n x1) fun r208=>(.ask (decide ((((⟨#[36]⟩:BA)++r207)++(⟨#[36]⟩:BA)).size+r208.size≤9223372036854775807)) (.done ((((⟨#[36]⟩:BA)++r207)++(⟨#[36]⟩:BA))++r208)) .fail)) .fail) (.opt (qBD n x1) fun r209=>(.ask (decide (((⟨#[36]⟩:BA)++r207).size+r209.size≤9223372036854775807)) (.done (((⟨#[36]⟩:BA)++r207)++r209)) .fail))) .fail)) (.opt (qBz n x0) fun r210=>(.ask (decide ((⟨#[]⟩:BA).size+r210.size≤9223372036854775807)) (.ask (x3) (.ask (decide (((⟨#[]⟩:BA)++r210).size+(⟨#[36]⟩:BA).size≤9223372036854775807)) (.opt (qBD n x1) fun r211=>(.ask (decide ((((⟨#[]⟩:BA)++r210)++(⟨#[36]⟩:BA)).size+r211.size≤9223372036854775807)) (.done ((((⟨#[]⟩:BA)++r210)++(⟨#[36]⟩:BA))++r211)) .fail)) .fail) (.opt (qBD n x1) fun r212=>(.ask (decide (((⟨#[]⟩:BA)++r210).size+r212.size≤9223372036854775807)) (.done (((⟨#[]⟩:BA)++r210)++r212)) .fail))) .fail)))))
def qA7:Nat→Int→Int→Bool→Bool→Option (BA)
 |0,_,_,_,_=>none
 |n+1,x0,x1,x2,x3=>(qDp n x0 x1 x2 x3).run
abbrev qNs (n:Nat):List (Ent (Rn n)):= [en (qFY n),en (qJR n),en (qF0 n)]
theorem qHS:∀n,Ok (Rn n) qNr (qA7 n)
 |0=>ok0 fun _=>rfl
 |n+1=>stO (T:=qDp n) (by kernel_rfl) (qNs n) [] (fun _=>(by kernel_rfl)) fun _=>(by kernel_rfl)
def qNt:Sg:=⟨246,[aS],[],⟨(.tup [(true,[qI,qI,qB,qB]),(false,[qB])]),[],[]⟩⟩
def qFL (n:Nat) (x0:BA):Tr (Int×Int×Bool×Bool×Bool):=(.opt (qAH n x0 (⟨#[36]⟩:BA)) fun r194=>(.opt (qBM n r194.1 (⟨#[65,66,67,68,69,70,71,72,73,74,75,76,77,78,79,80,81,82,83,84,85,86,87,88,89,90]⟩:BA)) fun r195=>(.ask (decide (0≤(0:Int)∧(0:Int)≤(IntKind.i64.wrap ((r194.1.size:Int)-(r195.size:Int)))∧(IntKind.i64.wrap ((r194.1.size:Int)-(r195.size:Int)))≤r194.1.size)) (.opt (qEy n (r194.1.extract ((0:Int)).toNat ((IntKind.i64.wrap ((r194.1.size:Int)-(r195.size:Int)))).toNat)) fun r200=>(.ask (decide (0≤(IntKind.i64.wrap ((r194.1.size:Int)-(r195.size:Int)))∧(IntKind.i64.wrap ((r194.1.size:Int)-(r195.size:Int)))≤(r194.1.size:Int)∧(r194.1.size:Int)≤r194.1.size)) (.opt (qAH n (r194.1.extract ((IntKind.i64.wrap ((r194.1.size:Int)-(r195.size:Int)))).toNat ((r194.1.size:Int)).toNat) (⟨#[36]⟩:BA)) fun r201=>(.opt (qAy n r201.1 (10:Int) (64:Int)) fun r202=>(.alt r202 (fun r203=>(.opt (qBu n r200 r203) fun r205=>(.ask ((!r205)) (.done ((0:Int),(0:Int),false,false,false)) (.opt (qA7 n r200 r203 r194.2 r201.2) fun r213=>(.ask ((!(r213.toList==x0.toList))) (.done ((0:Int),(0:Int),false,false,false)) (.done (r200,r203,r194.2,r201.2,true))))))) (fun r204=>(.opt (qBu n r200 r204) fun r214=>(.ask ((!r214)) (.done ((0:Int),(0:Int),false,false,false)) (.opt (qA7 n r200 r204 r194.2 r201.2) fun r215=>(.ask ((!(r215.toList==x0.toList))) (.done ((0:Int),(0:Int),false,false,false)) (.done (r200,r204,r194.2,r201.2,true)))))))))) .fail)) .fail)))
def qAg:Nat→BA→Option (Int×Int×Bool×Bool×Bool)
 |0,_=>none
 |n+1,x0=>(qFL n x0).run
abbrev qNu (n:Nat):List (Ent (Rn n)):= [en (qCf n),en (qD1 n),en (qO3 n),en2 (qD3 n),en (qFY n),en (qHS n)]
theorem qHT:∀n,Ok (Rn n) qNt (qAg n)
 |0=>ok0 fun _=>rfl
 |n+1=>stO (T:=qFL n) (by kernel_rfl) (qNu n) [] (fun _=>(by kernel_rfl)) fun _=>(by kernel_rfl)
def qQw:Sg:=⟨247,[aI],[],⟨aS,[],[]⟩⟩
def qHv (n:Nat) (x0:Int):Tr (BA):=(.ask (decide (11=([[(.s (⟨#[]⟩:BA))],[(.s (⟨#[83,85,77]⟩:BA))],[(.s (⟨#[77,73,78]⟩:BA))],[(.s (⟨#[77,65,88]⟩:BA))],[(.s (⟨#[67,79,85,78,84]⟩:BA))],[(.s (⟨#[73,70]⟩:BA))],[(.s (⟨#[65,78,68]⟩:BA))],[(.s (⟨#[79,82]⟩:BA))],[(.s (⟨#[78,79,84]⟩:BA))],[(.s (⟨#[65,66,83]⟩:BA))],[(.s (⟨#[76,69,78]⟩:BA))]]:RW).length∧0≤x0∧x0<((11:Nat):Int))) (.opt (([[(.s (⟨#[]⟩:BA))],[(.s (⟨#[83,85,77]⟩:BA))],[(.s (⟨#[77,73,78]⟩:BA))],[(.s (⟨#[77,65,88]⟩:BA))],[(.s (⟨#[67,79,85,78,84]⟩:BA))],[(.s (⟨#[73,70]⟩:BA))],[(.s (⟨#[65,78,68]⟩:BA))],[(.s (⟨#[79,82]⟩:BA))],[(.s (⟨#[78,79,84]⟩:BA))],[(.s (⟨#[65,66,83]⟩:BA))],[(.s (⟨#[76,69,78]⟩:BA))]]:RW)[(x0).toNat]?) fun e218=>(.opt (zR e218 0) fun y219=>(.done y219))) .fail)
def qCG:Nat→Int→Option (BA)
 |0,_=>none
 |n+1,x0=>(qHv n x0).run
theorem qKE:∀n,Ok (Rn n) qQw (qCG n)
 |0=>ok0 fun _=>rfl
 |n+1=>stO (T:=qHv n) (by kernel_rfl) [] [] (fun _=>(by kernel_rfl)) fun _=>(by kernel_rfl)
def qIp:Sg:=⟨263,[(.c (.ptr 0 0 0 0 0))],[[(0,⟨0,3,198,(.box [qS,(.own 0 1 1 0),qB])⟩),(1,⟨1,14,162,(.row [])⟩)]],⟨(.tup [(true,[qI,qI,qI,qI,qS,qI,qI,qB,qB,qI,qI,qB,qB,qL]),(false,[qB])]),[[(0,⟨0,3,198,(.box [qS,(.own 0 1 1 0),qB])⟩),(1,⟨1,14,162,(.row [])⟩)]],[]⟩⟩
def qEz (n:Nat) (x0:BA) (x1:Nat) (x2:Bool) (x3:RW):Tr (Int×Int×Int×Int×BA×Int×Int×Bool×Bool×Int×Int×Bool×Bool×RW×Bool×BA×Nat×Bool×RW):=(.opt (qBN n x0 x1 x2 x3) fun r221=>(.opt (qAg n r221.1) fun r222=>(.ask (r222.2.2.2.2) (.opt (qo n (⟨#[58]⟩:BA) r221.2.1 r221.2.2.1 r221.2.2.2.1 r221.2.2.2.2) fun r223=>(.ask ((!r223.1)) (.done ((0:Int),(0:Int),(0:Int),(0:Int),(⟨#[]⟩:BA),(0:Int),(0:Int),false,false,(0:Int),(0:Int),false,false,([]:RW),false,x0,r223.2.2.1,r223.2.2.2.1,r223.2.2.2.2)) (.opt (qBN n r223.2.1 r223.2.2.1 r223.2.2.2.1 r223.2.2.2.2) fun r224=>(.opt (qAg n r224.1) fun r225=>(.ask (r224.2.2.2.1) (.done ((3:Int),(0:Int),(0:Int),(0:Int),(⟨#[]⟩:BA),r222.1,r222.2.1,r222.2.2.1,r222.2.2.2.1,r225.1,r225.2.1,r225.2.2.1,r225.2.2.2.1,([]:RW),true,r224.2.1,r224.2.2.1,true,r224.2.2.2.2)) (.done ((3:Int),(0:Int),(0:Int),(0:Int),(⟨#[]⟩:BA),r222.1,r222.2.1,r222.2.2.1,r222.2.2.2.1,r225.1,r225.2.1,r225.2.2.1,r225.2.2.2.1,([]:RW),true,r224.2.1,r224.2.2.1,(!r225.2.2.2.2),r224.2.2.2.2))))))) (.done ((0:Int),(0:Int),(0:Int),(0:Int),(⟨#[]⟩:BA),(0:Int),(0:Int),false,false,(0:Int),(0:Int),false,false,([]:RW),false,x0,r221.2.2.1,r221.2.2.2.1,r221.2.2.2.2)))))
def qDE:Nat→BA→Nat→Bool→RW→Option (Int×Int×Int×Int×BA×Int×Int×Bool×Bool×Int×Int×Bool×Bool×RW×Bool×BA×Nat×Bool×RW)
 |0,_,_,_,_=>none
 |n+1,x0,x1,x2,x3=>(qEz n x0 x1 x2 x3).run
abbrev qIq (n:Nat):List (Ent (Rn n)):= [en (qGC n),en (qHT n),en (qB9 n)]
theorem qIL:∀n,Ok (Rn n) qIp (qDE n)
 |0=>ok0 fun _=>rfl
 |n+1=>stO (T:=qEz n) (by kernel_rfl) (qIq n) [] (fun _=>(by kernel_rfl)) fun _=>(by kernel_rfl)
def qQx:Sg:=⟨193,[aI],[],⟨aS,[],[]⟩⟩
def qHw (n:Nat) (x0:Int):Tr (BA):=(.ask (decide (12=([[(.s (⟨#[]⟩:BA))],[(.s (⟨#[43]⟩:BA))],[(.s (⟨#[45]⟩:BA))],[(.s (⟨#[42]⟩:BA))],[(.s (⟨#[47]⟩:BA))],[(.s (⟨#[38]⟩:BA))],[(.s (⟨#[61]⟩:BA))],[(.s (⟨#[60,62]⟩:BA))],[(.s (⟨#[60]⟩:BA))],[(.s (⟨#[60,61]⟩:BA))],[(.s (⟨#[62]⟩:BA))],[(.s (⟨#[62,61]⟩:BA))]]:RW).length∧0≤x0∧x0<((12:Nat):Int))) (.opt (([[(.s (⟨#[]⟩:BA))],[(.s (⟨#[43]⟩:BA))],[(.s (⟨#[45]⟩:BA))],[(.s (⟨#[42]⟩:BA))],[(.s (⟨#[47]⟩:BA))],[(.s (⟨#[38]⟩:BA))],[(.s (⟨#[61]⟩:BA))],[(.s (⟨#[60,62]⟩:BA))],[(.s (⟨#[60]⟩:BA))],[(.s (⟨#[60,61]⟩:BA))],[(.s (⟨#[62]⟩:BA))],[(.s (⟨#[62,61]⟩:BA))]]:RW)[(x0).toNat]?) fun e252=>(.opt (zR e252 0) fun y253=>(.done y253))) .fail)
def qBT:Nat→Int→Option (BA)
 |0,_=>none
 |n+1,x0=>(qHw n x0).run
theorem qKF:∀n,Ok (Rn n) qQx (qBT n)
 |0=>ok0 fun _=>rfl
 |n+1=>stO (T:=qHw n) (by kernel_rfl) [] [] (fun _=>(by kernel_rfl)) fun _=>(by kernel_rfl)
def qRx:Sg:=⟨194,[aI],[],⟨aI,[],[]⟩⟩
def qIr (n:Nat) (x0:Int):Tr (Int):=(.ask ((x0==(3:Int))) (.done (4:Int)) (.ask ((x0==(4:Int))) (.done (4:Int)) (.ask ((x0==(1:Int))) (.done (3:Int)) (.ask ((x0==(2:Int))) (.done (3:Int)) (.ask ((x0==(5:Int))) (.done (2:Int)) (.done (1:Int)))))))
def qDq:Nat→Int→Option (Int)
 |0,_=>none
 |n+1,x0=>(qIr n x0).run
theorem qLX:∀n,Ok (Rn n) qRx (qDq n)
 |0=>ok0 fun _=>rfl
 |n+1=>stO (T:=qIr n) (by kernel_rfl) [] [] (fun _=>(by kernel_rfl)) fun _=>(by kernel_rfl)
def qFg:Sg:=⟨159,[(.c (.ptr 0 0 0 0 0)),aI,aI],[[(0,⟨0,3,198,(.box [qS,(.own 0 1 1 0),qB])⟩),(1,⟨1,14,162,(.row [])⟩)]],⟨aI,[[(0,⟨0,3,198,(.box [qS,(.own 0 1 1 0),qB])⟩),(1,⟨1,14,162,(.row [])⟩)]],[]⟩⟩
def qLA:Sg:=⟨191,[(.c (.ptr 0 0 0 0 0)),aI],[[(0,⟨0,3,198,(.box [qS,(.own 0 1 1 0),qB])⟩),(1,⟨1,14,162,(.row [])⟩)]],⟨aI,[[(0,⟨0,3,198,(.box [qS,(.own 0 1 1 0),qB])⟩),(1,⟨1,14,162,(.row [])⟩)]],[]⟩⟩
def qL2:Sg:=⟨223,[(.c (.ptr 0 0 0 0 0)),aI],[[(0,⟨0,3,198,(.box [qS,(.own 0 1 1 0),qB])⟩),(1,⟨1,14,162,(.row [])⟩)]],⟨aI,[[(0,⟨0,3,198,(.box [qS,(.own 0 1 1 0),qB])⟩),(1,⟨1,14,162,(.row [])⟩)]],[]⟩⟩
def qL3:Sg:=⟨248,[(.c (.ptr 0 0 0 0 0)),aI,aI],[[(0,⟨0,3,198,(.box [qS,(.own 0 1 1 0),qB])⟩),(1,⟨1,14,162,(.row [])⟩)]],⟨aI,[[(0,⟨0,3,198,(.box [qS,(.own 0 1 1 0),qB])⟩),(1,⟨1,14,162,(.row [])⟩)]],[]⟩⟩
structure G_impl_reader_binary where
 impl_reader_binary:Int→Int→BA→Nat→Bool→RW→Option (Int×BA×Nat×Bool×RW)
 impl_reader_unary:Int→BA→Nat→Bool→RW→Option (Int×BA×Nat×Bool×RW)
 impl_reader_atom:Int→BA→Nat→Bool→RW→Option (Int×BA×Nat×Bool×RW)
 impl_reader_call:Int→Int→BA→Nat→Bool→RW→Option (Int×BA×Nat×Bool×RW)
def qBE (n:Nat) (v:Int×Int×Int×Int×Int×BA×Nat×Bool×RW):Tr ((Int×Int×Int×Int×Int×BA×Nat×Bool×RW)⊕((Int×Int×Int×Int×BA×Nat×Bool×RW))):=(.ask ((decide (v.2.2.2.2.1≤(11:Int)))) (.opt (qBo n v.2.2.2.2.2.1 v.2.2.2.2.2.2.1 v.2.2.2.2.2.2.2.1 v.2.2.2.2.2.2.2.2) fun r251=>(.opt (qBT n v.2.2.2.2.1) fun r252=>(.ask ((r251.1.toList==r252.toList)) (.done (.inl (v.1,v.2.1,v.2.2.1,v.2.2.2.2.1,(IntKind.i64.wrap (v.2.2.2.2.1+(1:Int))),r251.2.1,r251.2.2.1,r251.2.2.2.1,r251.2.2.2.2))) (.done (.inl (v.1,v.2.1,v.2.2.1,v.2.2.2.1,(IntKind.i64.wrap (v.2.2.2.2.1+(1:Int))),r251.2.1,r251.2.2.1,r251.2.2.2.1,r251.2.2.2.2)))))) (.done (.inr ((v.1,v.2.1,v.2.2.1,v.2.2.2.1,v.2.2.2.2.2.1,v.2.2.2.2.2.2.1,v.2.2.2.2.2.2.2.1,v.2.2.2.2.2.2.2.2)))))
def qC9 (rec:G_impl_reader_binary) (n:Nat) (v:Int×Int×Int×BA×Nat×Bool×RW):Tr ((Int×Int×Int×BA×Nat×Bool×RW)⊕((Int×BA×Nat×Bool×RW))):=(.ask ((!v.2.2.2.2.2.1)) (.opt (zD (qBE n) n (v.1,v.2.1,v.2.2.1,(0:Int),(1:Int),v.2.2.2.1,v.2.2.2.2.1,v.2.2.2.2.2.1,v.2.2.2.2.2.2)) fun r253=>(.ask ((r253.2.2.2.1==(0:Int))) (.done (.inr ((r253.2.2.1,r253.2.2.2.2.1,r253.2.2.2.2.2.1,r253.2.2.2.2.2.2.1,r253.2.2.2.2.2.2.2)))) (.opt (qDq n r253.2.2.2.1) fun r254=>(.ask ((decide (r254<r253.1))) (.done (.inr ((r253.2.2.1,r253.2.2.2.2.1,r253.2.2.2.2.2.1,r253.2.2.2.2.2.2.1,r253.2.2.2.2.2.2.2)))) (.opt (qBT n r253.2.2.2.1) fun r255=>(.opt (qo n r255 r253.2.2.2.2.1 r253.2.2.2.2.2.1 r253.2.2.2.2.2.2.1 r253.2.2.2.2.2.2.2) fun r256=>(.opt (qDq n r253.2.2.2.1) fun r257=>(.opt (rec.impl_reader_binary (IntKind.i64.wrap (r257+(1:Int))) r253.2.1 r256.2.1 r256.2.2.1 r256.2.2.2.1 r256.2.2.2.2) fun r258=>(.ask (decide (2=([[(.i .i64 r253.2.2.1)],[(.i .i64 r258.1)]]:RW).length)) (.opt (qp n (5:Int) r253.2.2.2.1 (0:Int) (0:Int) (⟨#[]⟩:BA) (0:Int) (0:Int) false false (0:Int) (0:Int) false false ([[(.i .i64 r253.2.2.1)],[(.i .i64 r258.1)]]:RW) r258.2.1 r258.2.2.1 r258.2.2.2.1 r258.2.2.2.2) fun r259=>(.done (.inl (r253.1,r253.2.1,r259.1,r259.2.1,r259.2.2.1,r259.2.2.2.1,r259.2.2.2.2)))) .fail))))))))) (.done (.inr ((v.2.2.1,v.2.2.2.1,v.2.2.2.2.1,v.2.2.2.2.2.1,v.2.2.2.2.2.2)))))
def qFh (rec:G_impl_reader_binary) (n:Nat) (x0 x1:Int) (x2:BA) (x3:Nat) (x4:Bool) (x5:RW):Tr (Int×BA×Nat×Bool×RW):=(.opt (rec.impl_reader_unary x1 x2 x3 x4 x5) fun r250=>(.opt (zD (qC9 rec n) n (x0,x1,r250.1,r250.2.1,r250.2.2.1,r250.2.2.2.1,r250.2.2.2.2)) fun r260=>(.done (r260.1,r260.2.1,r260.2.2.1,r260.2.2.2.1,r260.2.2.2.2))))
def qGE (rec:G_impl_reader_binary) (n:Nat) (x0:Int) (x1:BA) (x2:Nat) (x3:Bool) (x4:RW):Tr (Int×BA×Nat×Bool×RW):=(.ask ((decide (x0>(400:Int)))) (.ask (true) (.done ((-1:Int),x1,x2,true,x4)) (.opt (qo n (⟨#[45]⟩:BA) x1 x2 true x4) fun r132=>(.ask (r132.1) (.opt (rec.impl_reader_unary (IntKind.i64.wrap (x0+(1:Int))) r132.2.1 r132.2.2.1 r132.2.2.2.1 r132.2.2.2.2) fun r133=>(.ask (decide (1=([[(.i .i64 r133.1)]]:RW).length)) (.opt (qp n (4:Int) (0:Int) (0:Int) (0:Int) (⟨#[]⟩:BA) (0:Int) (0:Int) false false (0:Int) (0:Int) false false ([[(.i .i64 r133.1)]]:RW) r133.2.1 r133.2.2.1 r133.2.2.2.1 r133.2.2.2.2) fun r134=>(.done (r134.1,r134.2.1,r134.2.2.1,r134.2.2.2.1,r134.2.2.2.2))) .fail)) (.opt (rec.impl_reader_atom x0 r132.2.1 r132.2.2.1 r132.2.2.2.1 r132.2.2.2.2) fun r245=>(.done (r245.1,r245.2.1,r245.2.2.1,r245.2.2.2.1,r245.2.2.2.2)))))) (.ask (x3) (.done ((-1:Int),x1,x2,x3,x4)) (.opt (qo n (⟨#[45]⟩:BA) x1 x2 x3 x4) fun r246=>(.ask (r246.1) (.opt (rec.impl_reader_unary (IntKind.i64.wrap (x0+(1:Int))) r246.2.1 r246.2.2.1 r246.2.2.2.1 r246.2.2.2.2) fun r247=>(.ask (decide (1=([[(.i .i64 r247.1)]]:RW).length)) (.opt (qp n (4:Int) (0:Int) (0:Int) (0:Int) (⟨#[]⟩:BA) (0:Int) (0:Int) false false (0:Int) (0:Int) false false ([[(.i .i64 r247.1)]]:RW) r247.2.1 r247.2.2.1 r247.2.2.2.1 r247.2.2.2.2) fun r248=>(.done (r248.1,r248.2.1,r248.2.2.1,r248.2.2.2.1,r248.2.2.2.2))) .fail)) (.opt (rec.impl_reader_atom x0 r246.2.1 r246.2.2.1 r246.2.2.2.1 r246.2.2.2.2) fun r249=>(.done (r249.1,r249.2.1,r249.2.2.1,r249.2.2.2.1,r249.2.2.2.2)))))))
def qCD (n:Nat) (v:Int×Int×BA×Nat×Bool×RW):Tr ((Int×Int×BA×Nat×Bool×RW)⊕((Int×BA×Nat×Bool×RW)⊕(Int×BA×Nat×Bool×RW))):=(.ask ((decide (v.2.1≤(5:Int)))) (.opt (qAf n v.2.1) fun r146=>(.opt (qAH n v.2.2.1 r146) fun r147=>(.ask (r147.2) (.opt (qBv n v.2.1) fun r148=>(.opt (qi n r148.1 r148.2.1 r148.2.2 r147.1 v.2.2.2.1 v.2.2.2.2.1 v.2.2.2.2.2) fun r149=>(.done (.inr (.inl ((r149.1,r149.2.1,r149.2.2.1,r149.2.2.2.1,r149.2.2.2.2))))))) (.done (.inl (v.1,(IntKind.i64.wrap (v.2.1+(1:Int))),v.2.2.1,v.2.2.2.1,v.2.2.2.2.1,v.2.2.2.2.2)))))) (.done (.inr (.inr ((v.1,v.2.2.1,v.2.2.2.1,v.2.2.2.2.1,v.2.2.2.2.2))))))
def qAj (rec:G_impl_reader_binary) (n:Nat) (v:Int×BA×Int×BA×Nat×Bool×RW):Tr ((Int×BA×Int×BA×Nat×Bool×RW)⊕((Int×BA×Nat×Bool×RW)⊕(BA×Nat×Bool×RW))):=(.ask ((decide (v.2.2.1≤(10:Int)))) (.opt (qCG n v.2.2.1) fun r218=>(.ask ((v.2.1.toList==r218.toList)) (.opt (rec.impl_reader_call v.2.2.1 v.1 v.2.2.2.1 v.2.2.2.2.1 v.2.2.2.2.2.1 v.2.2.2.2.2.2) fun r219=>(.done (.inr (.inl ((r219.1,r219.2.1,r219.2.2.1,r219.2.2.2.1,r219.2.2.2.2)))))) (.done (.inl (v.1,v.2.1,(IntKind.i64.wrap (v.2.2.1+(1:Int))),v.2.2.2.1,v.2.2.2.2.1,v.2.2.2.2.2.1,v.2.2.2.2.2.2))))) (.done (.inr (.inr ((v.2.2.2.1,v.2.2.2.2.1,v.2.2.2.2.2.1,v.2.2.2.2.2.2))))))
def qGu (rec:G_impl_reader_binary) (n:Nat) (x0:Int) (x1:BA) (x2:Nat) (x3:Bool) (x4:RW):Tr (Int×BA×Nat×Bool×RW):=(.opt (qAx n x1 x2 x3 x4) fun r135=>(.opt (qm n r135.1 (⟨#[34]⟩:BA)) fun r136=>(.ask (r136) (.opt (qDZ n r135.1 r135.2.1 r135.2.2.1 r135.2.2.2) fun r144=>(.done (r144.1,r144.2.1,r144.2.2.1,r144.2.2.2.1,r144.2.2.2.2))) (.opt (qm n r135.1 (⟨#[35]⟩:BA)) fun r145=>(.ask (r145) (.opt (zD (qCD n) n (x0,(1:Int),r135.1,r135.2.1,r135.2.2.1,r135.2.2.2)) fun r150=>(.alt r150 (fun r151=>(.done (r151.1,r151.2.1,r151.2.2.1,r151.2.2.2.1,r151.2.2.2.2))) (fun r152=>(.opt (qBN n r152.2.1 r152.2.2.1 r152.2.2.2.1 r152.2.2.2.2) fun r155=>(.opt (qd n r155.1) fun r191=>(.ask (r191.2.2.2) (.ask ((r191.1==(1:Int))) (.opt (qi n r191.1 r191.2.1 r191.2.2.1 r155.2.1 r155.2.2.1 r155.2.2.2.1 r155.2.2.2.2) fun r192=>(.done (r192.1,r192.2.1,r192.2.2.1,r192.2.2.2.1,r192.2.2.2.2))) (.ask ((r191.1==(3:Int))) (.opt (qi n r191.1 r191.2.1 r191.2.2.1 r155.2.1 r155.2.2.1 r155.2.2.2.1 r155.2.2.2.2) fun r193=>(.done (r193.1,r193.2.1,r193.2.2.1,r193.2.2.2.1,r193.2.2.2.2))) (.opt (qAg n r155.1) fun r216=>(.ask (r216.2.2.2.2) (.opt (qp n (2:Int) (0:Int) (0:Int) (0:Int) (⟨#[]⟩:BA) r216.1 r216.2.1 r216.2.2.1 r216.2.2.2.1 (0:Int) (0:Int) false false ([]:RW) r155.2.1 r155.2.2.1 r155.2.2.2.1 r155.2.2.2.2) fun r217=>(.done (r217.1,r217.2.1,r217.2.2.1,r217.2.2.2.1,r217.2.2.2.2))) (.opt (zD (qAj rec n) n (r152.1,r155.1,(1:Int),r155.2.1,r155.2.2.1,r155.2.2.2.1,r155.2.2.2.2)) fun r220=>(.alt r220 (fun r221=>(.done (r221.1,r221.2.1,r221.2.2.1,r221.2.2.2.1,r221.2.2.2.2))) (fun r222=>(.done ((-1:Int),r222.1,r222.2.1,true,r222.2.2.2))))))))) (.opt (qAg n r155.1) fun r223=>(.ask (r223.2.2.2.2) (.opt (qp n (2:Int) (0:Int) (0:Int) (0:Int) (⟨#[]⟩:BA) r223.1 r223.2.1 r223.2.2.1 r223.2.2.2.1 (0:Int) (0:Int) false false ([]:RW) r155.2.1 r155.2.2.1 r155.2.2.2.1 r155.2.2.2.2) fun r224=>(.done (r224.1,r224.2.1,r224.2.2.1,r224.2.2.2.1,r224.2.2.2.2))) (.opt (zD (qAj rec n) n (r152.1,r155.1,(1:Int),r155.2.1,r155.2.2.1,r155.2.2.2.1,r155.2.2.2.2)) fun r225=>(.alt r225 (fun r226=>(.done (r226.1,r226.2.1,r226.2.2.1,r226.2.2.2.1,r226.2.2.2.2))) (fun r227=>(.done ((-1:Int),r227.1,r227.2.1,true,r227.2.2.2))))))))))))) (.opt (qo n (⟨#[40]⟩:BA) r135.1 r135.2.1 r135.2.2.1 r135.2.2.2) fun r228=>(.ask (r228.1) (.opt (rec.impl_reader_binary (1:Int) (IntKind.i64.wrap (x0+(1:Int))) r228.2.1 r228.2.2.1 r228.2.2.2.1 r228.2.2.2.2) fun r229=>(.ask (r229.2.2.2.1) (.done (r229.1,r229.2.1,r229.2.2.1,true,r229.2.2.2.2)) (.opt (qo n (⟨#[41]⟩:BA) r229.2.1 r229.2.2.1 r229.2.2.2.1 r229.2.2.2.2) fun r230=>(.done (r229.1,r230.2.1,r230.2.2.1,(!r230.1),r230.2.2.2.2))))) (.opt (qBN n r228.2.1 r228.2.2.1 r228.2.2.2.1 r228.2.2.2.2) fun r231=>(.opt (qd n r231.1) fun r232=>(.ask (r232.2.2.2) (.ask ((r232.1==(1:Int))) (.opt (qi n r232.1 r232.2.1 r232.2.2.1 r231.2.1 r231.2.2.1 r231.2.2.2.1 r231.2.2.2.2) fun r233=>(.done (r233.1,r233.2.1,r233.2.2.1,r233.2.2.2.1,r233.2.2.2.2))) (.ask ((r232.1==(3:Int))) (.opt (qi n r232.1 r232.2.1 r232.2.2.1 r231.2.1 r231.2.2.1 r231.2.2.2.1 r231.2.2.2.2) fun r234=>(.done (r234.1,r234.2.1,r234.2.2.1,r234.2.2.2.1,r234.2.2.2.2))) (.opt (qAg n r231.1) fun r235=>(.ask (r235.2.2.2.2) (.opt (qp n (2:Int) (0:Int) (0:Int) (0:Int) (⟨#[]⟩:BA) r235.1 r235.2.1 r235.2.2.1 r235.2.2.2.1 (0:Int) (0:Int) false false ([]:RW) r231.2.1 r231.2.2.1 r231.2.2.2.1 r231.2.2.2.2) fun r236=>(.done (r236.1,r236.2.1,r236.2.2.1,r236.2.2.2.1,r236.2.2.2.2))) (.opt (zD (qAj rec n) n (x0,r231.1,(1:Int),r231.2.1,r231.2.2.1,r231.2.2.2.1,r231.2.2.2.2)) fun r237=>(.alt r237 (fun r238=>(.done (r238.1,r238.2.1,r238.2.2.1,r238.2.2.2.1,r238.2.2.2.2))) (fun r239=>(.done ((-1:Int),r239.1,r239.2.1,true,r239.2.2.2))))))))) (.opt (qAg n r231.1) fun r240=>(.ask (r240.2.2.2.2) (.opt (qp n (2:Int) (0:Int) (0:Int) (0:Int) (⟨#[]⟩:BA) r240.1 r240.2.1 r240.2.2.1 r240.2.2.2.1 (0:Int) (0:Int) false false ([]:RW) r231.2.1 r231.2.2.1 r231.2.2.2.1 r231.2.2.2.2) fun r241=>(.done (r241.1,r241.2.1,r241.2.2.1,r241.2.2.2.1,r241.2.2.2.2))) (.opt (zD (qAj rec n) n (x0,r231.1,(1:Int),r231.2.1,r231.2.2.1,r231.2.2.2.1,r231.2.2.2.2)) fun r242=>(.alt r242 (fun r243=>(.done (r243.1,r243.2.1,r243.2.2.1,r243.2.2.2.1,r243.2.2.2.2))) (fun r244=>(.done ((-1:Int),r244.1,r244.2.1,true,r244.2.2.2)))))))))))))))))
def qCU (rec:G_impl_reader_binary) (n:Nat) (v:Int×Int×Nat×RW×BA×Nat×Bool×RW):Tr ((Int×Int×Nat×RW×BA×Nat×Bool×RW)⊕((Int×Nat×RW×BA×Nat×Bool×RW))):=(.ask ((!v.2.2.2.2.2.2.1)) (.opt (qDE n v.2.2.2.2.1 v.2.2.2.2.2.1 v.2.2.2.2.2.2.1 v.2.2.2.2.2.2.2) fun r221=>(.ask (r221.2.2.2.2.2.2.2.2.2.2.2.2.2.2.1) (.opt (qp n r221.1 r221.2.1 r221.2.2.1 r221.2.2.2.1 r221.2.2.2.2.1 r221.2.2.2.2.2.1 r221.2.2.2.2.2.2.1 r221.2.2.2.2.2.2.2.1 r221.2.2.2.2.2.2.2.2.1 r221.2.2.2.2.2.2.2.2.2.1 r221.2.2.2.2.2.2.2.2.2.2.1 r221.2.2.2.2.2.2.2.2.2.2.2.1 r221.2.2.2.2.2.2.2.2.2.2.2.2.1 r221.2.2.2.2.2.2.2.2.2.2.2.2.2.1 r221.2.2.2.2.2.2.2.2.2.2.2.2.2.2.2.1 r221.2.2.2.2.2.2.2.2.2.2.2.2.2.2.2.2.1 r221.2.2.2.2.2.2.2.2.2.2.2.2.2.2.2.2.2.1 r221.2.2.2.2.2.2.2.2.2.2.2.2.2.2.2.2.2.2) fun r222=>(.ask (decide (1=([[(.i .i64 r222.1)]]:RW).length)) (.ask (decide (v.2.2.1=v.2.2.2.1.length∧0<1∧0<8∧(v.2.2.1+([[(.i .i64 r222.1)]]:RW).length)*8≤140737488355328∧([[(.i .i64 r222.1)]]:RW).all (fun e=>e.length==1)=true)) (.opt (qo n (⟨#[44]⟩:BA) r222.2.1 r222.2.2.1 r222.2.2.2.1 r222.2.2.2.2) fun r223=>(.ask ((!r223.1)) (.ask (r223.2.2.2.1) (.done (.inr ((v.1,(v.2.2.1+1),(v.2.2.2.1++([[(.i .i64 r222.1)]]:RW)),r223.2.1,r223.2.2.1,true,r223.2.2.2.2)))) (.opt (qo n (⟨#[41]⟩:BA) r223.2.1 r223.2.2.1 r223.2.2.2.1 r223.2.2.2.2) fun r224=>(.done (.inr ((v.1,(v.2.2.1+1),(v.2.2.2.1++([[(.i .i64 r222.1)]]:RW)),r224.2.1,r224.2.2.1,(!r224.1),r224.2.2.2.2)))))) (.done (.inl (v.1,v.2.1,(v.2.2.1+1),(v.2.2.2.1++([[(.i .i64 r222.1)]]:RW)),r223.2.1,r223.2.2.1,r223.2.2.2.1,r223.2.2.2.2))))) .fail) .fail)) (.opt (rec.impl_reader_binary (1:Int) (IntKind.i64.wrap (v.2.1+(1:Int))) r221.2.2.2.2.2.2.2.2.2.2.2.2.2.2.2.1 r221.2.2.2.2.2.2.2.2.2.2.2.2.2.2.2.2.1 r221.2.2.2.2.2.2.2.2.2.2.2.2.2.2.2.2.2.1 r221.2.2.2.2.2.2.2.2.2.2.2.2.2.2.2.2.2.2) fun r225=>(.ask (decide (1=([[(.i .i64 r225.1)]]:RW).length)) (.ask (decide (v.2.2.1=v.2.2.2.1.length∧0<1∧0<8∧(v.2.2.1+([[(.i .i64 r225.1)]]:RW).length)*8≤140737488355328∧([[(.i .i64 r225.1)]]:RW).all (fun e=>e.length==1)=true)) (.opt (qo n (⟨#[44]⟩:BA) r225.2.1 r225.2.2.1 r225.2.2.2.1 r225.2.2.2.2) fun r226=>(.ask ((!r226.1)) (.ask (r226.2.2.2.1) (.done (.inr ((v.1,(v.2.2.1+1),(v.2.2.2.1++([[(.i .i64 r225.1)]]:RW)),r226.2.1,r226.2.2.1,true,r226.2.2.2.2)))) (.opt (qo n (⟨#[41]⟩:BA) r226.2.1 r226.2.2.1 r226.2.2.2.1 r226.2.2.2.2) fun r227=>(.done (.inr ((v.1,(v.2.2.1+1),(v.2.2.2.1++([[(.i .i64 r225.1)]]:RW)),r227.2.1,r227.2.2.1,(!r227.1),r227.2.2.2.2)))))) (.done (.inl (v.1,v.2.1,(v.2.2.1+1),(v.2.2.2.1++([[(.i .i64 r225.1)]]:RW)),r226.2.1,r226.2.2.1,r226.2.2.2.1,r226.2.2.2.2))))) .fail) .fail)))) (.done (.inr ((v.1,v.2.2.1,v.2.2.2.1,v.2.2.2.2.1,v.2.2.2.2.2.1,v.2.2.2.2.2.2.1,v.2.2.2.2.2.2.2)))))
def qGv (rec:G_impl_reader_binary) (n:Nat) (x0 x1:Int) (x2:BA) (x3:Nat) (x4:Bool) (x5:RW):Tr (Int×BA×Nat×Bool×RW):=(.ask (x4) (.opt (zD (qCU rec n) n (x0,x1,(0:Nat),([]:RW),x2,x3,true,x5)) fun r228=>(.ask (decide (r228.2.1=r228.2.2.1.length)) (.opt (qp n (6:Int) r228.1 (0:Int) (0:Int) (⟨#[]⟩:BA) (0:Int) (0:Int) false false (0:Int) (0:Int) false false r228.2.2.1 r228.2.2.2.1 r228.2.2.2.2.1 r228.2.2.2.2.2.1 r228.2.2.2.2.2.2) fun r229=>(.done (r229.1,r229.2.1,r229.2.2.1,r229.2.2.2.1,r229.2.2.2.2))) .fail)) (.opt (qo n (⟨#[40]⟩:BA) x2 x3 x4 x5) fun r230=>(.opt (zD (qCU rec n) n (x0,x1,(0:Nat),([]:RW),r230.2.1,r230.2.2.1,(!r230.1),r230.2.2.2.2)) fun r231=>(.ask (decide (r231.2.1=r231.2.2.1.length)) (.opt (qp n (6:Int) r231.1 (0:Int) (0:Int) (⟨#[]⟩:BA) (0:Int) (0:Int) false false (0:Int) (0:Int) false false r231.2.2.1 r231.2.2.2.1 r231.2.2.2.2.1 r231.2.2.2.2.2.1 r231.2.2.2.2.2.2) fun r232=>(.done (r232.1,r232.2.1,r232.2.2.1,r232.2.2.2.1,r232.2.2.2.2))) .fail))))
def qR:Nat→G_impl_reader_binary
 |0=>⟨fun _ _ _ _ _ _=>none,fun _ _ _ _ _=>none,fun _ _ _ _ _=>none,fun _ _ _ _ _ _=>none⟩
 |n+1=>⟨fun x0 x1 x2 x3 x4 x5=>(qFh (qR n) n x0 x1 x2 x3 x4 x5).run,fun x0 x1 x2 x3 x4=>(qGE (qR n) n x0 x1 x2 x3 x4).run,fun x0 x1 x2 x3 x4=>(qGu (qR n) n x0 x1 x2 x3 x4).run,fun x0 x1 x2 x3 x4 x5=>(qGv (qR n) n x0 x1 x2 x3 x4 x5).run⟩
def qCi (n:Nat) (x0 x1:Int) (x2:BA) (x3:Nat) (x4:Bool) (x5:RW):Option (Int×BA×Nat×Bool×RW):=(qR n).impl_reader_binary x0 x1 x2 x3 x4 x5
def qGF (n:Nat) (x0:Int) (x1:BA) (x2:Nat) (x3:Bool) (x4:RW):Option (Int×BA×Nat×Bool×RW):=(qR n).impl_reader_unary x0 x1 x2 x3 x4
def qGw (n:Nat) (x0:Int) (x1:BA) (x2:Nat) (x3:Bool) (x4:RW):Option (Int×BA×Nat×Bool×RW):=(qR n).impl_reader_atom x0 x1 x2 x3 x4
def qCP (n:Nat) (x0 x1:Int) (x2:BA) (x3:Nat) (x4:Bool) (x5:RW):Option (Int×BA×Nat×Bool×RW):=(qR n).impl_reader_call x0 x1 x2 x3 x4 x5
def qAC (n:Nat):Prop:=
 Ok (Rn n) qFg (qCi n)∧
 Ok (Rn n) qLA (qGF n)∧
 Ok (Rn n) qL2 (qGw n)∧
 Ok (Rn n) qL3 (qCP n)
abbrev qDb (n:Nat) (ih:qAC n):List (Ent (Rn n)):= [en ih.2.1,en (qGB n),en (qKF n),en (qLX n),en (qB9 n),en ih.1,en (qCO n)]
def qHx (n:Nat) (ih:qAC n):LEnt (lb 14 (KB 159)) (Rn n) n:=lok (Uniq.pick (zK 159) 14) 237 ⟨⟨[(0,(.c (.ptr 0 0 0 0 0))),(1,aI),(2,aI),(7,aI),(8,aI),(9,aI)],[],[[(0,⟨0,3,198,(.box [qS,(.own 0 1 1 0),qB])⟩),(1,⟨1,14,162,(.row [])⟩)]]⟩,[(.exit 2,⟨[(0,(.c (.ptr 0 0 0 0 0))),(1,aI),(2,aI),(7,aI),(8,aI)],[],[[(0,⟨0,3,198,(.box [qS,(.own 0 1 1 0),qB])⟩),(1,⟨1,14,162,(.row [])⟩)]]⟩)]⟩ (qBE n) (qDb n ih) [] fun _=>(by kernel_rfl)
def qIM (n:Nat) (ih:qAC n):LEnt (KB 159) (Rn n) n:=lok (zK 159) 14 ⟨⟨[(0,(.c (.ptr 0 0 0 0 0))),(1,aI),(2,aI),(7,aI)],[],[[(0,⟨0,3,198,(.box [qS,(.own 0 1 1 0),qB])⟩),(1,⟨1,14,162,(.row [])⟩)]]⟩,[(.exit 0,⟨[(7,aI)],[],[[(0,⟨0,3,198,(.box [qS,(.own 0 1 1 0),qB])⟩),(1,⟨1,14,162,(.row [])⟩)]]⟩)]⟩ (qC9 (qR n) n) (qDb n ih) [qHx n ih] fun _=>(by kernel_rfl)
abbrev qLB (n:Nat) (ih:qAC n):List (Ent (Rn n)):= [en (qB9 n),en ih.2.1,en (qCO n),en ih.2.2.1]
abbrev qER (n:Nat) (ih:qAC n):List (Ent (Rn n)):= [en (qCS n),en (qCg n),en (qJg n),en (qEw n),en (qCf n),en (qLW n),en (qEY n),en (qGC n),en (qHR n),en (qHT n),en (qCO n),en (qKE n),en ih.2.2.2,en (qB9 n),en ih.1]
def qIs (n:Nat) (ih:qAC n):LEnt (KB 223) (Rn n) n:=lok (zK 223) 477 ⟨⟨[(0,(.c (.ptr 0 0 0 0 0))),(1,aI),(5,aI)],[],[[(0,⟨0,3,198,(.box [qS,(.own 0 1 1 0),qB])⟩),(1,⟨1,14,162,(.row [])⟩)]]⟩,[(.ret,⟨[(4,aI)],[],[[(0,⟨0,3,198,(.box [qS,(.own 0 1 1 0),qB])⟩),(1,⟨1,14,162,(.row [])⟩)]]⟩),(.exit 1,⟨[(0,(.c (.ptr 0 0 0 0 0))),(1,aI)],[],[[(0,⟨0,3,198,(.box [qS,(.own 0 1 1 0),qB])⟩),(1,⟨1,14,162,(.row [])⟩)]]⟩)]⟩ (qCD n) (qER n ih) [] fun _=>(by kernel_rfl)
def qIt (n:Nat) (ih:qAC n):LEnt (KB 223) (Rn n) n:=lok (zK 223) 509 ⟨⟨[(0,(.c (.ptr 0 0 0 0 0))),(1,aI),(9,aS),(14,aI)],[],[[(0,⟨0,3,198,(.box [qS,(.own 0 1 1 0),qB])⟩),(1,⟨1,14,162,(.row [])⟩)]]⟩,[(.ret,⟨[(4,aI)],[],[[(0,⟨0,3,198,(.box [qS,(.own 0 1 1 0),qB])⟩),(1,⟨1,14,162,(.row [])⟩)]]⟩),(.exit 3,⟨[(0,(.c (.ptr 0 0 0 0 0)))],[],[[(0,⟨0,3,198,(.box [qS,(.own 0 1 1 0),qB])⟩),(1,⟨1,14,162,(.row [])⟩)]]⟩)]⟩ (qAj (qR n) n) (qER n ih) [] fun _=>(by kernel_rfl)
abbrev qGx (n:Nat) (ih:qAC n):List (Ent (Rn n)):= [en (qIL n),en (qCO n),en (qB9 n),en ih.1]
def qJi (n:Nat) (ih:qAC n):LEnt (KB 248) (Rn n) n:=lok (zK 248) 30 ⟨⟨[(0,(.c (.ptr 0 0 0 0 0))),(1,aI),(2,aI),(7,(.c (.own 1 640 0 0)))],[(640,⟨0,1,2,(.row [])⟩)],[[(0,⟨0,3,198,(.box [qS,(.own 0 1 1 0),qB])⟩),(1,⟨1,14,162,(.row [])⟩)]]⟩,[(.exit 0,⟨[(0,(.c (.ptr 0 0 0 0 0))),(1,aI),(7,(.c (.own 1 640 0 0)))],[(640,⟨0,1,2,(.row [])⟩)],[[(0,⟨0,3,198,(.box [qS,(.own 0 1 1 0),qB])⟩),(1,⟨1,14,162,(.row [])⟩)]]⟩)]⟩ (qCU (qR n) n) (qGx n ih) [] fun _=>(by kernel_rfl)
theorem qAL:∀n,qAC n
 |0=>⟨ok0 fun _=>rfl,ok0 fun _=>rfl,ok0 fun _=>rfl,ok0 fun _=>rfl⟩
 |n+1=>⟨stO (T:=qFh (qR n) n) (by kernel_rfl) (qDb n (qAL n)) [qIM n (qAL n)] (fun _=>(by kernel_rfl)) fun _=>(by kernel_rfl),stO (T:=qGE (qR n) n) (by kernel_rfl) (qLB n (qAL n)) [] (fun _=>(by kernel_rfl)) fun _=>(by kernel_rfl),stO (T:=qGu (qR n) n) (by kernel_rfl) (qER n (qAL n)) [qIs n (qAL n),qIt n (qAL n)] (fun _=>(by kernel_rfl)) fun _=>(by kernel_rfl),stO (T:=qGv (qR n) n) (by kernel_rfl) (qGx n (qAL n)) [qJi n (qAL n)] (fun _=>(by kernel_rfl)) fun _=>(by kernel_rfl)⟩
theorem qJj (n:Nat):Ok (Rn n) qFg (qCi n):=(qAL n).1
def qMm:Sg:=⟨120,[(.agg [qI,qI,qI,qI,qS,qI,qI,qB,qB,qI,qI,qB,qB,qL])],[],⟨(.agg [qI,qI,qI,qI]),[],[]⟩⟩
def qE0 (n:Nat) (x0 x1 x2 x3:Int) (x4:BA) (x5 x6:Int) (x7 x8:Bool) (x9 x10:Int) (x11 x12:Bool) (x13:RW):Tr (Int×Int×Int×Int):=(.ask ((x0==(2:Int))) (.done (x5,x6,x5,x6)) (.done (x5,x6,x9,x10)))
def qCj:Nat→Int→Int→Int→Int→BA→Int→Int→Bool→Bool→Int→Int→Bool→Bool→RW→Option (Int×Int×Int×Int)
 |0,_,_,_,_,_,_,_,_,_,_,_,_,_,_=>none
 |n+1,x0,x1,x2,x3,x4,x5,x6,x7,x8,x9,x10,x11,x12,x13=>(qE0 n x0 x1 x2 x3 x4 x5 x6 x7 x8 x9 x10 x11 x12 x13).run
theorem qL4:∀n,Ok (Rn n) qMm (qCj n)
 |0=>ok0 fun _=>rfl
 |n+1=>stO (T:=qE0 n) (by kernel_rfl) [] [] (fun _=>(by kernel_rfl)) fun _=>(by kernel_rfl)
def qQy:Sg:=⟨264,[(.agg [qI,qI,qI,qI])],[],⟨aB,[],[]⟩⟩
def qHy (n:Nat) (x0 x1 x2 x3:Int):Tr (Bool):=(.opt (qBu n x0 x1) fun r283=>(.ask (r283) (.opt (qBu n x2 x3) fun r284=>(.ask (r284) (.ask ((decide (x0≤x2))) (.done (decide (x1≤x3))) (.done false)) (.done false))) (.done false)))
def qD7:Nat→Int→Int→Int→Int→Option (Bool)
 |0,_,_,_,_=>none
 |n+1,x0,x1,x2,x3=>(qHy n x0 x1 x2 x3).run
abbrev qQz (n:Nat):List (Ent (Rn n)):= [en (qFY n)]
theorem qP3:∀n,Ok (Rn n) qQy (qD7 n)
 |0=>ok0 fun _=>rfl
 |n+1=>stO (T:=qHy n) (by kernel_rfl) (qQz n) [] (fun _=>(by kernel_rfl)) fun _=>(by kernel_rfl)
def qJk:Sg:=⟨249,[(.agg [qI,qI,qI,qI,qS,qI,qI,qB,qB,qI,qI,qB,qB,qL])],[],⟨aB,[],[]⟩⟩
def qDP (n:Nat) (x0 x1 x2 x3:Int) (x4:BA) (x5 x6:Int) (x7 x8:Bool) (x9 x10:Int) (x11 x12:Bool) (x13:RW):Tr (Bool):=(.ask ((x0 !=(2:Int))) (.ask ((x0 !=(3:Int))) (.done true) (.opt (qCj n x0 x1 x2 x3 x4 x5 x6 x7 x8 x9 x10 x11 x12 x13) fun r282=>(.opt (qD7 n r282.1 r282.2.1 r282.2.2.1 r282.2.2.2) fun r285=>(.done r285)))) (.opt (qCj n x0 x1 x2 x3 x4 x5 x6 x7 x8 x9 x10 x11 x12 x13) fun r286=>(.opt (qD7 n r286.1 r286.2.1 r286.2.2.1 r286.2.2.2) fun r287=>(.done r287))))
def qAD:Nat→Int→Int→Int→Int→BA→Int→Int→Bool→Bool→Int→Int→Bool→Bool→RW→Option (Bool)
 |0,_,_,_,_,_,_,_,_,_,_,_,_,_,_=>none
 |n+1,x0,x1,x2,x3,x4,x5,x6,x7,x8,x9,x10,x11,x12,x13=>(qDP n x0 x1 x2 x3 x4 x5 x6 x7 x8 x9 x10 x11 x12 x13).run
abbrev qJl (n:Nat):List (Ent (Rn n)):= [en (qL4 n),en (qP3 n)]
theorem qIu:∀n,Ok (Rn n) qJk (qAD n)
 |0=>ok0 fun _=>rfl
 |n+1=>stO (T:=qDP n) (by kernel_rfl) (qJl n) [] (fun _=>(by kernel_rfl)) fun _=>(by kernel_rfl)
def qLC:Sg:=⟨250,[(.agg [qI,qI,qI,qI,qS,qI,qI,qB,qB,qI,qI,qB,qB,qL])],[],⟨aB,[],[]⟩⟩
def qD4 (n:Nat) (x0 x1 x2 x3:Int) (x4:BA) (x5 x6:Int) (x7 x8:Bool) (x9 x10:Int) (x11 x12:Bool) (x13:RW):Tr (Bool):=(.ask ((x0==(4:Int))) (.ask ((x1==(0:Int))) (.done ((x13.length:Int)==(1:Int))) (.done false)) (.ask ((x0==(5:Int))) (.opt (qw n x1 (1:Int) (11:Int)) fun r289=>(.ask (r289) (.done ((x13.length:Int)==(2:Int))) (.done false))) (.ask ((x0==(6:Int))) (.opt (qw n x1 (1:Int) (10:Int)) fun r290=>(.ask ((!r290)) (.done false) (.ask ((x1==(5:Int))) (.opt (qw n (x13.length:Int) (2:Int) (3:Int)) fun r291=>(.done r291)) (.ask ((decide (x1≥(8:Int)))) (.done ((x13.length:Int)==(1:Int))) (.opt (qw n (x13.length:Int) (1:Int) (10:Int)) fun r292=>(.done r292)))))) (.ask ((x1==(0:Int))) (.done ((x13.length:Int)==(0:Int))) (.done false)))))
def qAO:Nat→Int→Int→Int→Int→BA→Int→Int→Bool→Bool→Int→Int→Bool→Bool→RW→Option (Bool)
 |0,_,_,_,_,_,_,_,_,_,_,_,_,_,_=>none
 |n+1,x0,x1,x2,x3,x4,x5,x6,x7,x8,x9,x10,x11,x12,x13=>(qD4 n x0 x1 x2 x3 x4 x5 x6 x7 x8 x9 x10 x11 x12 x13).run
abbrev qLD (n:Nat):List (Ent (Rn n)):= [en (qC6 n)]
theorem qKG:∀n,Ok (Rn n) qLC (qAO n)
 |0=>ok0 fun _=>rfl
 |n+1=>stO (T:=qD4 n) (by kernel_rfl) (qLD n) [] (fun _=>(by kernel_rfl)) fun _=>(by kernel_rfl)
def qL5:Sg:=⟨224,[(.agg [qI,qI,qI,qI,qS,qI,qI,qB,qB,qI,qI,qB,qB,qL])],[],⟨aB,[],[]⟩⟩
def qES (n:Nat) (x0 x1 x2 x3:Int) (x4:BA) (x5 x6:Int) (x7 x8:Bool) (x9 x10:Int) (x11 x12:Bool) (x13:RW):Tr (Bool):=(.ask ((x0==(1:Int))) (.opt (qAR n x2 x3 x4) fun r281=>(.ask ((!r281)) (.done false) (.ask ((x2==(0:Int))) (.done false) (.ask ((x2==(1:Int))) (.ask ((decide (x3<(0:Int)))) (.done false) (.opt (qAD n x0 x1 x2 x3 x4 x5 x6 x7 x8 x9 x10 x11 x12 x13) fun r288=>(.ask (r288) (.opt (qAO n x0 x1 x2 x3 x4 x5 x6 x7 x8 x9 x10 x11 x12 x13) fun r293=>(.ask (r293) (.ask (((x2==x2)&&((x3==x3)&&((x4.toList==x4.toList)&&true)))) (.ask ((((0:Int)==x5)&&(((0:Int)==x6)&&((false==x7)&&((false==x8)&&true))))) (.done (((0:Int)==x9)&&(((0:Int)==x10)&&((false==x11)&&((false==x12)&&true))))) (.done false)) (.done false)) (.done false))) (.done false)))) (.opt (qAD n x0 x1 x2 x3 x4 x5 x6 x7 x8 x9 x10 x11 x12 x13) fun r294=>(.ask (r294) (.opt (qAO n x0 x1 x2 x3 x4 x5 x6 x7 x8 x9 x10 x11 x12 x13) fun r295=>(.ask (r295) (.ask (((x2==x2)&&((x3==x3)&&((x4.toList==x4.toList)&&true)))) (.ask ((((0:Int)==x5)&&(((0:Int)==x6)&&((false==x7)&&((false==x8)&&true))))) (.done (((0:Int)==x9)&&(((0:Int)==x10)&&((false==x11)&&((false==x12)&&true))))) (.done false)) (.done false)) (.done false))) (.done false))))))) (.ask ((x0==(2:Int))) (.opt (qAD n x0 x1 x2 x3 x4 x5 x6 x7 x8 x9 x10 x11 x12 x13) fun r296=>(.ask (r296) (.opt (qAO n x0 x1 x2 x3 x4 x5 x6 x7 x8 x9 x10 x11 x12 x13) fun r297=>(.ask (r297) (.ask ((((0:Int)==x2)&&(((0:Int)==x3)&&(((⟨#[]⟩:BA).toList==x4.toList)&&true)))) (.ask (((x5==x5)&&((x6==x6)&&((x7==x7)&&((x8==x8)&&true))))) (.done (((0:Int)==x9)&&(((0:Int)==x10)&&((false==x11)&&((false==x12)&&true))))) (.done false)) (.done false)) (.done false))) (.done false))) (.ask ((x0==(3:Int))) (.opt (qAD n x0 x1 x2 x3 x4 x5 x6 x7 x8 x9 x10 x11 x12 x13) fun r298=>(.ask (r298) (.opt (qAO n x0 x1 x2 x3 x4 x5 x6 x7 x8 x9 x10 x11 x12 x13) fun r299=>(.ask (r299) (.ask ((((0:Int)==x2)&&(((0:Int)==x3)&&(((⟨#[]⟩:BA).toList==x4.toList)&&true)))) (.ask (((x5==x5)&&((x6==x6)&&((x7==x7)&&((x8==x8)&&true))))) (.done ((x9==x9)&&((x10==x10)&&((x11==x11)&&((x12==x12)&&true))))) (.done false)) (.done false)) (.done false))) (.done false))) (.ask ((x0==(4:Int))) (.opt (qAD n x0 x1 x2 x3 x4 x5 x6 x7 x8 x9 x10 x11 x12 x13) fun r300=>(.ask (r300) (.opt (qAO n x0 x1 x2 x3 x4 x5 x6 x7 x8 x9 x10 x11 x12 x13) fun r301=>(.ask (r301) (.ask ((((0:Int)==x2)&&(((0:Int)==x3)&&(((⟨#[]⟩:BA).toList==x4.toList)&&true)))) (.ask ((((0:Int)==x5)&&(((0:Int)==x6)&&((false==x7)&&((false==x8)&&true))))) (.done (((0:Int)==x9)&&(((0:Int)==x10)&&((false==x11)&&((false==x12)&&true))))) (.done false)) (.done false)) (.done false))) (.done false))) (.ask ((x0==(5:Int))) (.opt (qAD n x0 x1 x2 x3 x4 x5 x6 x7 x8 x9 x10 x11 x12 x13) fun r302=>(.ask (r302) (.opt (qAO n x0 x1 x2 x3 x4 x5 x6 x7 x8 x9 x10 x11 x12 x13) fun r303=>(.ask (r303) (.ask ((((0:Int)==x2)&&(((0:Int)==x3)&&(((⟨#[]⟩:BA).toList==x4.toList)&&true)))) (.ask ((((0:Int)==x5)&&(((0:Int)==x6)&&((false==x7)&&((false==x8)&&true))))) (.done (((0:Int)==x9)&&(((0:Int)==x10)&&((false==x11)&&((false==x12)&&true))))) (.done false)) (.done false)) (.done false))) (.done false))) (.ask ((x0==(6:Int))) (.opt (qAD n x0 x1 x2 x3 x4 x5 x6 x7 x8 x9 x10 x11 x12 x13) fun r304=>(.ask (r304) (.opt (qAO n x0 x1 x2 x3 x4 x5 x6 x7 x8 x9 x10 x11 x12 x13) fun r305=>(.ask (r305) (.ask ((((0:Int)==x2)&&(((0:Int)==x3)&&(((⟨#[]⟩:BA).toList==x4.toList)&&true)))) (.ask ((((0:Int)==x5)&&(((0:Int)==x6)&&((false==x7)&&((false==x8)&&true))))) (.done (((0:Int)==x9)&&(((0:Int)==x10)&&((false==x11)&&((false==x12)&&true))))) (.done false)) (.done false)) (.done false))) (.done false))) (.done false)))))))
def qDF:Nat→Int→Int→Int→Int→BA→Int→Int→Bool→Bool→Int→Int→Bool→Bool→RW→Option (Bool)
 |0,_,_,_,_,_,_,_,_,_,_,_,_,_,_=>none
 |n+1,x0,x1,x2,x3,x4,x5,x6,x7,x8,x9,x10,x11,x12,x13=>(qES n x0 x1 x2 x3 x4 x5 x6 x7 x8 x9 x10 x11 x12 x13).run
abbrev qL6 (n:Nat):List (Ent (Rn n)):= [en (qFz n),en (qIu n),en (qKG n)]
theorem qLE:∀n,Ok (Rn n) qL5 (qDF n)
 |0=>ok0 fun _=>rfl
 |n+1=>stO (T:=qES n) (by kernel_rfl) (qL6 n) [] (fun _=>(by kernel_rfl)) fun _=>(by kernel_rfl)
def qKH:Sg:=⟨198,[aL,aI,aI],[],⟨aI,[],[]⟩⟩
def qAS (rec:RW→Int→Int→Option (Int)) (n:Nat) (v:RW×Int×Int×Int×Int):Tr ((RW×Int×Int×Int×Int)⊕((Int)⊕(Int))):=(.ask ((decide (v.2.2.2.2≥(0:Int)))) (.ask (decide (0≤v.2.1∧v.2.1<v.1.length)) (.opt (v.1[(v.2.1).toNat]?) fun e309=>(.ask (decide (e309.length=14)) (.opt (zd e309 13) fun y310=>(.ask (decide (0≤v.2.2.2.2∧v.2.2.2.2<y310.length)) (.opt (y310[(v.2.2.2.2).toNat]?) fun e311=>(.ask (decide (e311.length=1)) (.opt (zC .i64 e311 0) fun y312=>(.ask ((y312 !=(IntKind.i64.wrap (v.2.2.2.1-(1:Int))))) (.done (.inr (.inl ((-1:Int))))) (.ask ((decide (y312<(0:Int)))) (.done (.inr (.inl ((-1:Int))))) (.ask (decide (0≤y312∧y312<v.1.length)) (.opt (v.1[(y312).toNat]?) fun e313=>(.ask (decide (e313.length=14)) (.opt (zC .i64 e313 0) fun y314=>(.ask ((y314==(3:Int))) (.ask (decide (0≤v.2.1∧v.2.1<v.1.length)) (.opt (v.1[(v.2.1).toNat]?) fun e315=>(.ask (decide (e315.length=14)) (.opt (zC .i64 e315 0) fun y316=>(.ask ((y316 !=(6:Int))) (.done (.inr (.inl ((-1:Int))))) (.opt (rec v.1 y312 (IntKind.i64.wrap (v.2.2.1+(1:Int)))) fun r317=>(.ask ((decide (r317<(0:Int)))) (.done (.inr (.inl ((-1:Int))))) (.done (.inl (v.1,v.2.1,v.2.2.1,r317,(IntKind.i64.wrap (v.2.2.2.2-(1:Int)))))))))) .fail)) .fail) (.opt (rec v.1 y312 (IntKind.i64.wrap (v.2.2.1+(1:Int)))) fun r318=>(.ask ((decide (r318<(0:Int)))) (.done (.inr (.inl ((-1:Int))))) (.done (.inl (v.1,v.2.1,v.2.2.1,r318,(IntKind.i64.wrap (v.2.2.2.2-(1:Int)))))))))) .fail)) .fail)))) .fail)) .fail)) .fail)) .fail) (.done (.inr (.inr (v.2.2.2.1)))))
def qFi (rec:RW→Int→Int→Option (Int)) (n:Nat) (x0:RW) (x1 x2:Int):Tr (Int):=(.ask ((decide (x1<(0:Int)))) (.done (-1:Int)) (.ask ((decide (x2≥(12:Int)))) (.done (-1:Int)) (.ask (decide (0≤x1∧x1<x0.length)) (.opt (x0[(x1).toNat]?) fun e266=>(.ask (decide (e266.length=14)) (.opt (zC .i64 e266 0) fun y267=>(.opt (zC .i64 e266 1) fun y268=>(.opt (zC .i64 e266 2) fun y269=>(.opt (zC .i64 e266 3) fun y270=>(.opt (zR e266 4) fun y271=>(.opt (zC .i64 e266 5) fun y272=>(.opt (zC .i64 e266 6) fun y273=>(.opt (zAG e266 7) fun y274=>(.opt (zAG e266 8) fun y275=>(.opt (zC .i64 e266 9) fun y276=>(.opt (zC .i64 e266 10) fun y277=>(.opt (zAG e266 11) fun y278=>(.opt (zAG e266 12) fun y279=>(.opt (zd e266 13) fun y280=>(.opt (qDF n y267 y268 y269 y270 y271 y272 y273 y274 y275 y276 y277 y278 y279 y280) fun r306=>(.ask ((!r306)) (.done (-1:Int)) (.ask (decide (0≤x1∧x1<x0.length)) (.opt (x0[(x1).toNat]?) fun e307=>(.ask (decide (e307.length=14)) (.opt (zd e307 13) fun y308=>(.opt (zD (qAS rec n) n (x0,x1,x2,x1,(IntKind.i64.wrap ((y308.length:Int)-(1:Int))))) fun r319=>(.alt r319 (fun r320=>(.done r320)) (fun r321=>(.done r321))))) .fail)) .fail))))))))))))))))) .fail)) .fail)))
def qAi:Nat→RW→Int→Int→Option (Int)
 |0,_,_,_=>none
 |n+1,x0,x1,x2=>(qFi (qAi n) n x0 x1 x2).run
abbrev qOT (n:Nat) (ih:Ok (Rn n) qKH (qAi n)):List (Ent (Rn n)):= [en (qLE n),en ih]
def qP4 (n:Nat) (ih:Ok (Rn n) qKH (qAi n)):LEnt (KB 198) (Rn n) n:=lok (zK 198) 61 ⟨⟨[(0,aL),(1,aI),(2,aI),(7,aI),(8,aI)],[],[]⟩,[(.ret,⟨[(6,aI)],[],[]⟩),(.exit 0,⟨[(7,aI)],[],[]⟩)]⟩ (qAS (qAi n) n) (qOT n ih) [] fun _=>(by kernel_rfl)
theorem qIv:∀n,Ok (Rn n) qKH (qAi n)
 |0=>ok0 fun _=>rfl
 |n+1=>stO (T:=qFi (qAi n) n) (by kernel_rfl) (qOT n (qIv n)) [qP4 n (qIv n)] (fun _=>(by kernel_rfl)) fun _=>(by kernel_rfl)
def qNv:Sg:=⟨161,[aL],[],⟨aB,[],[]⟩⟩
def qDA (n:Nat) (x0:RW):Tr (Bool):=(.opt (qw n (x0.length:Int) (1:Int) (60:Int)) fun r263=>(.ask (r263) (.ask (decide (0≤(IntKind.i64.wrap ((x0.length:Int)-(1:Int)))∧(IntKind.i64.wrap ((x0.length:Int)-(1:Int)))<x0.length)) (.opt (x0[((IntKind.i64.wrap ((x0.length:Int)-(1:Int)))).toNat]?) fun e264=>(.ask (decide (e264.length=14)) (.opt (zC .i64 e264 0) fun y265=>(.ask ((y265 !=(3:Int))) (.opt (qAi n x0 (IntKind.i64.wrap ((x0.length:Int)-(1:Int))) (0:Int)) fun r322=>(.done (r322==(0:Int)))) (.done false))) .fail)) .fail) (.done false)))
def qBq:Nat→RW→Option (Bool)
 |0,_=>none
 |n+1,x0=>(qDA n x0).run
abbrev qNw (n:Nat):List (Ent (Rn n)):= [en (qC6 n),en (qIv n)]
theorem qHU:∀n,Ok (Rn n) qNv (qBq n)
 |0=>ok0 fun _=>rfl
 |n+1=>stO (T:=qDA n) (by kernel_rfl) (qNw n) [] (fun _=>(by kernel_rfl)) fun _=>(by kernel_rfl)
def qL7:Sg:=⟨119,[aS],[],⟨(.tup [(false,[qL]),(false,[qB])]),[],[]⟩⟩
def qGy (n:Nat) (x0:BA):Tr (RW×Bool):=(.opt (qCq n x0 (200:Int)) fun r122=>(.ask ((!r122)) (.ask (decide (0=([]:RW).length)) (.done (([]:RW),false)) .fail) (.opt (qCi n (1:Int) (0:Int) x0 (0:Nat) false ([]:RW)) fun r261=>(.opt (qAx n r261.2.1 r261.2.2.1 r261.2.2.2.1 r261.2.2.2.2) fun r262=>(.ask (r262.2.2.1) (.ask (decide (0=([]:RW).length)) (.done (([]:RW),false)) .fail) (.ask ((!(r262.1.toList==(⟨#[]⟩:BA).toList))) (.ask (decide (0=([]:RW).length)) (.done (([]:RW),false)) .fail) (.ask (decide (r262.2.1=r262.2.2.2.length)) (.opt (qBq n r262.2.2.2) fun r323=>(.ask (zAv (⟨(.c (.p (.b r323))),[],[]⟩:Res)) (.ask ((!r323)) (.ask (decide (0=([]:RW).length)) (.done (([]:RW),false)) .fail) (.ask (decide (r262.2.1=r262.2.2.2.length)) (.done (r262.2.2.2,true)) .fail)) .fail)) .fail)))))))
def qET:Nat→BA→Option (RW×Bool)
 |0,_=>none
 |n+1,x0=>(qGy n x0).run
abbrev qL8 (n:Nat):List (Ent (Rn n)):= [en (qGl n),en (qJj n),en (qCS n),en (qHU n)]
theorem qLF:∀n,Ok (Rn n) qL7 (qET n)
 |0=>ok0 fun _=>rfl
 |n+1=>stO (T:=qGy n) (by kernel_rfl) (qL8 n) [] (fun _=>(by kernel_rfl)) fun _=>(by kernel_rfl)
def qFj:Sg:=⟨251,[aS,aS,aS],[],⟨aS,[],[]⟩⟩
def qDc:Nat→BA→BA→BA→Option ((BA))
 |0,_,_,_=>none
 |n+1,x0,x1,x2=>zb x0 x1 x2
theorem qJm:∀n,Ok (Rn n) qFj (qDc n)
 |0=>ok0 fun _=>rfl
 |n+1=>stL (by kernel_rfl) (fun a r e=>congrArg (Option.map fun r=>(qFj.Of r).v) e) rfl rfl rfl
def qKI:Sg:=⟨252,[aL,aS],[],⟨aS,[],[]⟩⟩
def qGz:Nat→RW→BA→Option ((BA))
 |0,_,_=>none
 |n+1,x0,x1=>zAc x0 x1
theorem qO4:∀n,Ok (Rn n) qKI (qGz n)
 |0=>ok0 fun _=>rfl
 |n+1=>stL (by kernel_rfl) (fun a r e=>congrArg (Option.map fun r=>(qKI.Of r).v) e) rfl rfl rfl
def qEU:Sg:=⟨225,[aL,aI,aI],[],⟨aS,[],[]⟩⟩
def qBZ (rec:RW→Int→Int→Option (BA)) (n:Nat) (v:RW×Nat×RW×Int×Int×Int×Int×Int×Int×BA×Int×Int×Bool×Bool×Int×Int×Bool×Bool×RW×RW):Tr ((RW×Nat×RW×Int×Int×Int×Int×Int×Int×BA×Int×Int×Bool×Bool×Int×Int×Bool×Bool×RW×RW)⊕((Nat×Int×Int×Int×Int×BA×Int×Int×Bool×Bool×Int×Int×Bool×Bool×RW×RW))):=(.ask ((decide (v.2.2.2.2.1<v.2.2.2.1))) (.ask (decide (0≤v.2.2.2.2.1∧v.2.2.2.2.1<v.2.2.1.length)) (.opt (v.2.2.1[(v.2.2.2.2.1).toNat]?) fun e357=>(.ask (decide (e357.length=1)) (.opt (zC .i64 e357 0) fun y358=>(.opt (rec v.1 y358 (1:Int)) fun r359=>(.ask (decide (1=([[(.s r359)]]:RW).length)) (.ask (decide (v.2.1=v.2.2.2.2.2.2.2.2.2.2.2.2.2.2.2.2.2.2.2.length∧0<1∧0<16∧(v.2.1+([[(.s r359)]]:RW).length)*16≤140737488355328∧([[(.s r359)]]:RW).all (fun e=>e.length==1)=true)) (.done (.inl (v.1,(v.2.1+1),v.2.2.1,v.2.2.2.1,(IntKind.i64.wrap (v.2.2.2.2.1+(1:Int))),v.2.2.2.2.2.1,v.2.2.2.2.2.2.1,v.2.2.2.2.2.2.2.1,v.2.2.2.2.2.2.2.2.1,v.2.2.2.2.2.2.2.2.2.1,v.2.2.2.2.2.2.2.2.2.2.1,v.2.2.2.2.2.2.2.2.2.2.2.1,v.2.2.2.2.2.2.2.2.2.2.2.2.1,v.2.2.2.2.2.2.2.2.2.2.2.2.2.1,v.2.2.2.2.2.2.2.2.2.2.2.2.2.2.1,v.2.2.2.2.2.2.2.2.2.2.2.2.2.2.2.1,v.2.2.2.2.2.2.2.2.2.2.2.2.2.2.2.2.1,v.2.2.2.2.2.2.2.2.2.2.2.2.2.2.2.2.2.1,v.2.2.2.2.2.2.2.2.2.2.2.2.2.2.2.2.2.2.1,(v.2.2.2.2.2.2.2.2.2.2.2.2.2.2.2.2.2.2.2++([[(.s r359)]]:RW))))) .fail) .fail))) .fail)) .fail) (.done (.inr ((v.2.1,v.2.2.2.2.2.1,v.2.2.2.2.2.2.1,v.2.2.2.2.2.2.2.1,v.2.2.2.2.2.2.2.2.1,v.2.2.2.2.2.2.2.2.2.1,v.2.2.2.2.2.2.2.2.2.2.1,v.2.2.2.2.2.2.2.2.2.2.2.1,v.2.2.2.2.2.2.2.2.2.2.2.2.1,v.2.2.2.2.2.2.2.2.2.2.2.2.2.1,v.2.2.2.2.2.2.2.2.2.2.2.2.2.2.1,v.2.2.2.2.2.2.2.2.2.2.2.2.2.2.2.1,v.2.2.2.2.2.2.2.2.2.2.2.2.2.2.2.2.1,v.2.2.2.2.2.2.2.2.2.2.2.2.2.2.2.2.2.1,v.2.2.2.2.2.2.2.2.2.2.2.2.2.2.2.2.2.2.1,v.2.2.2.2.2.2.2.2.2.2.2.2.2.2.2.2.2.2.2)))))
def qAk (rec:RW→Int→Int→Option (BA)) (n:Nat) (x0:RW) (x1 x2:Int):Tr (BA):=(.ask (decide (0≤x1∧x1<x0.length)) (.opt (x0[(x1).toNat]?) fun e326=>(.ask (decide (e326.length=14)) (.opt (zC .i64 e326 0) fun y327=>(.opt (zC .i64 e326 1) fun y328=>(.opt (zC .i64 e326 2) fun y329=>(.opt (zC .i64 e326 3) fun y330=>(.opt (zR e326 4) fun y331=>(.opt (zC .i64 e326 5) fun y332=>(.opt (zC .i64 e326 6) fun y333=>(.opt (zAG e326 7) fun y334=>(.opt (zAG e326 8) fun y335=>(.opt (zC .i64 e326 9) fun y336=>(.opt (zC .i64 e326 10) fun y337=>(.opt (zAG e326 11) fun y338=>(.opt (zAG e326 12) fun y339=>(.opt (zd e326 13) fun y340=>(.ask ((y327==(1:Int))) (.ask ((y329==(2:Int))) (.opt (qDc n y331 (⟨#[34]⟩:BA) (⟨#[34,34]⟩:BA)) fun r341=>(.ask (decide ((⟨#[34]⟩:BA).size+r341.size≤9223372036854775807)) (.ask (decide (((⟨#[34]⟩:BA)++r341).size+(⟨#[34]⟩:BA).size≤9223372036854775807)) (.done (((⟨#[34]⟩:BA)++r341)++(⟨#[34]⟩:BA))) .fail) .fail)) (.opt (qq n y329 y330 y331) fun r342=>(.done r342))) (.ask ((y327==(2:Int))) (.opt (qA7 n y332 y333 y334 y335) fun r343=>(.done r343)) (.ask ((y327==(3:Int))) (.opt (qA7 n y332 y333 y334 y335) fun r344=>(.ask (decide (r344.size+(⟨#[58]⟩:BA).size≤9223372036854775807)) (.opt (qA7 n y336 y337 y338 y339) fun r345=>(.ask (decide ((r344++(⟨#[58]⟩:BA)).size+r345.size≤9223372036854775807)) (.done ((r344++(⟨#[58]⟩:BA))++r345)) .fail)) .fail)) (.ask ((y327==(4:Int))) (.ask (decide (0≤(0:Int)∧(0:Int)<y340.length)) (.opt (y340[((0:Int)).toNat]?) fun e346=>(.ask (decide (e346.length=1)) (.opt (zC .i64 e346 0) fun y347=>(.opt (rec x0 y347 (5:Int)) fun r348=>(.ask (decide ((⟨#[45]⟩:BA).size+r348.size≤9223372036854775807)) (.done ((⟨#[45]⟩:BA)++r348)) .fail))) .fail)) .fail) (.ask ((y327==(5:Int))) (.opt (qDq n y328) fun r349=>(.ask (decide (0≤(0:Int)∧(0:Int)<y340.length)) (.opt (y340[((0:Int)).toNat]?) fun e350=>(.ask (decide (e350.length=1)) (.opt (zC .i64 e350 0) fun y351=>(.ask (decide (0≤(1:Int)∧(1:Int)<y340.length)) (.opt (y340[((1:Int)).toNat]?) fun e352=>(.ask (decide (e352.length=1)) (.opt (zC .i64 e352 0) fun y353=>(.opt (rec x0 y351 r349) fun r354=>(.opt (qBT n y328) fun r355=>(.ask (decide (r354.size+r355.size≤9223372036854775807)) (.opt (rec x0 y353 (IntKind.i64.wrap (r349+(1:Int)))) fun r356=>(.ask (decide ((r354++r355).size+r356.size≤9223372036854775807)) (.ask ((decide (r349<x2))) (.ask (decide ((⟨#[40]⟩:BA).size+((r354++r355)++r356).size≤9223372036854775807)) (.ask (decide (((⟨#[40]⟩:BA)++((r354++r355)++r356)).size+(⟨#[41]⟩:BA).size≤9223372036854775807)) (.done (((⟨#[40]⟩:BA)++((r354++r355)++r356))++(⟨#[41]⟩:BA))) .fail) .fail) (.done ((r354++r355)++r356))) .fail)) .fail)))) .fail)) .fail)) .fail)) .fail)) (.opt (zD (qBZ rec n) n (x0,(0:Nat),y340,(y340.length:Int),(0:Int),y327,y328,y329,y330,y331,y332,y333,y334,y335,y336,y337,y338,y339,y340,([]:RW))) fun r360=>(.opt (qCG n r360.2.2.1) fun r361=>(.ask (decide (r361.size+(⟨#[40]⟩:BA).size≤9223372036854775807)) (.ask (decide (r360.1=r360.2.2.2.2.2.2.2.2.2.2.2.2.2.2.2.length)) (.opt (qGz n r360.2.2.2.2.2.2.2.2.2.2.2.2.2.2.2 (⟨#[44]⟩:BA)) fun r362=>(.ask (zAv (⟨(.c (.p (.s r362))),[],[]⟩:Res)) (.ask (decide ((r361++(⟨#[40]⟩:BA)).size+r362.size≤9223372036854775807)) (.ask (decide (((r361++(⟨#[40]⟩:BA))++r362).size+(⟨#[41]⟩:BA).size≤9223372036854775807)) (.done (((r361++(⟨#[40]⟩:BA))++r362)++(⟨#[41]⟩:BA))) .fail) .fail) .fail)) .fail) .fail)))))))))))))))))))))) .fail)) .fail)
def qZ:Nat→RW→Int→Int→Option (BA)
 |0,_,_,_=>none
 |n+1,x0,x1,x2=>(qAk (qZ n) n x0 x1 x2).run
abbrev qG0 (n:Nat) (ih:Ok (Rn n) qEU (qZ n)):List (Ent (Rn n)):= [en (qJm n),en (qHQ n),en (qHS n),en ih,en (qLX n),en (qKF n),en (qKE n),en (qO4 n)]
def qIw (n:Nat) (ih:Ok (Rn n) qEU (qZ n)):LEnt (KB 225) (Rn n) n:=lok (zK 225) 125 ⟨⟨[(0,aL),(7,(.c (.ptr 0 448 0 0 0))),(10,(.c (.own 0 5760 0 0))),(92,aL),(93,aI),(94,aI)],[(448,⟨0,14,162,(.box [qI,qI,qI,qI,qS,qI,qI,qB,qB,qI,qI,qB,qB,qL])⟩),(5760,⟨0,1,9,(.row [])⟩)],[]⟩,[(.exit 1,⟨[(7,(.c (.ptr 0 448 0 0 0))),(10,(.c (.own 0 5760 0 0)))],[(448,⟨0,14,162,(.box [qI,qI,qI,qI,qS,qI,qI,qB,qB,qI,qI,qB,qB,qL])⟩),(5760,⟨0,1,9,(.row [])⟩)],[]⟩)]⟩ (qBZ (qZ n) n) (qG0 n ih) [] fun _=>(by kernel_rfl)
theorem qD5:∀n,Ok (Rn n) qEU (qZ n)
 |0=>ok0 fun _=>rfl
 |n+1=>stO (T:=qAk (qZ n) n) (by kernel_rfl) (qG0 n (qD5 n)) [qIw n (qD5 n)] (fun _=>(by kernel_rfl)) fun _=>(by kernel_rfl)
def qL9:Sg:=⟨199,[aL],[],⟨aS,[],[]⟩⟩
def qDG (n:Nat) (x0:RW):Tr (BA):=(.opt (qBq n x0) fun r325=>(.ask ((!r325)) (.done (⟨#[]⟩:BA)) (.opt (qZ n x0 (IntKind.i64.wrap ((x0.length:Int)-(1:Int))) (1:Int)) fun r363=>(.ask ((decide ((r363.size:Int)>(200:Int)))) (.done (⟨#[]⟩:BA)) (.done r363)))))
def qBr:Nat→RW→Option (BA)
 |0,_=>none
 |n+1,x0=>(qDG n x0).run
abbrev qMA (n:Nat):List (Ent (Rn n)):= [en (qHU n),en (qD5 n)]
theorem qLG:∀n,Ok (Rn n) qL9 (qBr n)
 |0=>ok0 fun _=>rfl
 |n+1=>stO (T:=qDG n) (by kernel_rfl) (qMA n) [] (fun _=>(by kernel_rfl)) fun _=>(by kernel_rfl)
def qO5:Sg:=⟨167,[aL],[],⟨(.tup [(false,[qS]),(false,[qB])]),[],[]⟩⟩
def qJS (n:Nat) (x0:RW):Tr (BA×Bool):=(.opt (qBr n x0) fun r364=>(.ask (decide ((⟨#[61]⟩:BA).size+r364.size≤9223372036854775807)) (.ask ((!(r364.toList==(⟨#[]⟩:BA).toList))) (.done (((⟨#[61]⟩:BA)++r364),(decide ((r364.size:Int)<(200:Int))))) (.done (((⟨#[61]⟩:BA)++r364),false))) .fail))
def qF1:Nat→RW→Option (BA×Bool)
 |0,_=>none
 |n+1,x0=>(qJS n x0).run
abbrev qO6 (n:Nat):List (Ent (Rn n)):= [en (qLG n)]
theorem qNx:∀n,Ok (Rn n) qO5 (qF1 n)
 |0=>ok0 fun _=>rfl
 |n+1=>stO (T:=qJS n) (by kernel_rfl) (qO6 n) [] (fun _=>(by kernel_rfl)) fun _=>(by kernel_rfl)
def qEc:Sg:=⟨231,[aS,aS],[],⟨aS,[],[]⟩⟩
def qCW (n:Nat) (x0 x1:BA):Tr (BA):=(.opt (qAB n x0 x1) fun r369=>(.ask (r369) (.ask (decide (0≤(x1.size:Int)∧(x1.size:Int)≤(x0.size:Int)∧(x0.size:Int)≤x0.size)) (.done (x0.extract ((x1.size:Int)).toNat ((x0.size:Int)).toNat)) .fail) (.done x0)))
def qBR:Nat→BA→BA→Option (BA)
 |0,_,_=>none
 |n+1,x0,x1=>(qCW n x0 x1).run
abbrev qEd (n:Nat):List (Ent (Rn n)):= [en (qCV n)]
theorem qEV:∀n,Ok (Rn n) qEc (qBR n)
 |0=>ok0 fun _=>rfl
 |n+1=>stO (T:=qCW n) (by kernel_rfl) (qEd n) [] (fun _=>(by kernel_rfl)) fun _=>(by kernel_rfl)
def qKJ:Sg:=⟨202,[aS,aS],[],⟨aS,[],[]⟩⟩
def qFk (n:Nat) (x0 x1:BA):Tr (BA):=(.opt (qBR n x0 x1) fun r370=>(.done r370))
def qDd:Nat→BA→BA→Option (BA)
 |0,_,_=>none
 |n+1,x0,x1=>(qFk n x0 x1).run
abbrev qKK (n:Nat):List (Ent (Rn n)):= [en (qEV n)]
theorem qJn:∀n,Ok (Rn n) qKJ (qDd n)
 |0=>ok0 fun _=>rfl
 |n+1=>stO (T:=qFk n) (by kernel_rfl) (qKK n) [] (fun _=>(by kernel_rfl)) fun _=>(by kernel_rfl)
def qKL:Sg:=⟨109,[aS,aS],[],⟨aS,[],[]⟩⟩
def qDe:Nat→BA→BA→Option ((BA))
 |0,_,_=>none
 |n+1,x0,x1=>zm x0 x1
theorem qJT:∀n,Ok (Rn n) qKL (qDe n)
 |0=>ok0 fun _=>rfl
 |n+1=>stL (by kernel_rfl) (fun a r e=>congrArg (Option.map fun r=>(qKL.Of r).v) e) rfl rfl rfl
def qO7:Sg:=⟨169,[aS],[],⟨aB,[],[]⟩⟩
def qJU (n:Nat) (x0:BA):Tr (Bool):=(.opt (qDd n x0 (⟨#[45]⟩:BA)) fun r371=>(.ask ((!(r371.toList==(⟨#[]⟩:BA).toList))) (.opt (qDe n r371 (⟨#[48,49,50,51,52,53,54,55,56,57]⟩:BA)) fun r372=>(.done (r372.toList==(⟨#[]⟩:BA).toList))) (.done false)))
def qEI:Nat→BA→Option (Bool)
 |0,_=>none
 |n+1,x0=>(qJU n x0).run
abbrev qO8 (n:Nat):List (Ent (Rn n)):= [en (qJn n),en (qJT n)]
theorem qNy:∀n,Ok (Rn n) qO7 (qEI n)
 |0=>ok0 fun _=>rfl
 |n+1=>stO (T:=qJU n) (by kernel_rfl) (qO8 n) [] (fun _=>(by kernel_rfl)) fun _=>(by kernel_rfl)
def qP5:Sg:=⟨133,[aS],[],⟨(.tup [(false,[qS]),(false,[qB])]),[],[]⟩⟩
def qKM (n:Nat) (x0:BA):Tr (BA×Bool):=(.opt (qCq n x0 (200:Int)) fun r120=>(.ask ((!r120)) (.done ((⟨#[]⟩:BA),(x0.toList==(⟨#[]⟩:BA).toList))) (.ask ((x0.toList==(⟨#[]⟩:BA).toList)) (.done ((⟨#[]⟩:BA),(x0.toList==(⟨#[]⟩:BA).toList))) (.opt (qAH n x0 (⟨#[61]⟩:BA)) fun r121=>(.ask (r121.2) (.opt (qET n r121.1) fun r324=>(.opt (qF1 n r324.1) fun r365=>(.ask ((!r324.2)) (.done ((⟨#[]⟩:BA),false)) (.ask ((!r365.2)) (.done ((⟨#[]⟩:BA),false)) (.done (r365.1,true)))))) (.opt (qAy n x0 (10:Int) (64:Int)) fun r366=>(.alt r366 (fun r367=>(.ask (true) (.opt (qEI n x0) fun r373=>(.ask (r373) (.opt (qCr n r367) fun r374=>(.opt (qAR n r374.1 r374.2.1 r374.2.2) fun r375=>(.ask (r375) (.opt (qBD n r367) fun r376=>(.done (r376,true))) (.opt (qd n x0) fun r377=>(.ask (r377.2.2.2) (.done (x0,true)) (.ask (((x0.size:Int)==(200:Int))) (.done ((⟨#[]⟩:BA),false)) (.ask (decide ((⟨#[39]⟩:BA).size+x0.size≤9223372036854775807)) (.done (((⟨#[39]⟩:BA)++x0),true)) .fail))))))) (.opt (qd n x0) fun r378=>(.ask (r378.2.2.2) (.done (x0,true)) (.ask (((x0.size:Int)==(200:Int))) (.done ((⟨#[]⟩:BA),false)) (.ask (decide ((⟨#[39]⟩:BA).size+x0.size≤9223372036854775807)) (.done (((⟨#[39]⟩:BA)++x0),true)) .fail)))))) (.opt (qd n x0) fun r379=>(.ask (r379.2.2.2) (.done (x0,true)) (.ask (((x0.size:Int)==(200:Int))) (.done ((⟨#[]⟩:BA),false)) (.ask (decide ((⟨#[39]⟩:BA).size+x0.size≤9223372036854775807)) (.done (((⟨#[39]⟩:BA)++x0),true)) .fail)))))) (fun r368=>(.ask (false) (.opt (qEI n x0) fun r380=>(.ask (r380) (.opt (qCr n r368) fun r381=>(.opt (qAR n r381.1 r381.2.1 r381.2.2) fun r382=>(.ask (r382) (.opt (qBD n r368) fun r383=>(.done (r383,true))) (.opt (qd n x0) fun r384=>(.ask (r384.2.2.2) (.done (x0,true)) (.ask (((x0.size:Int)==(200:Int))) (.done ((⟨#[]⟩:BA),false)) (.ask (decide ((⟨#[39]⟩:BA).size+x0.size≤9223372036854775807)) (.done (((⟨#[39]⟩:BA)++x0),true)) .fail))))))) (.opt (qd n x0) fun r385=>(.ask (r385.2.2.2) (.done (x0,true)) (.ask (((x0.size:Int)==(200:Int))) (.done ((⟨#[]⟩:BA),false)) (.ask (decide ((⟨#[39]⟩:BA).size+x0.size≤9223372036854775807)) (.done (((⟨#[39]⟩:BA)++x0),true)) .fail)))))) (.opt (qd n x0) fun r386=>(.ask (r386.2.2.2) (.done (x0,true)) (.ask (((x0.size:Int)==(200:Int))) (.done ((⟨#[]⟩:BA),false)) (.ask (decide ((⟨#[39]⟩:BA).size+x0.size≤9223372036854775807)) (.done (((⟨#[39]⟩:BA)++x0),true)) .fail)))))))))))))
def qG1:Nat→BA→Option (BA×Bool)
 |0,_=>none
 |n+1,x0=>(qKM n x0).run
abbrev qP6 (n:Nat):List (Ent (Rn n)):= [en (qGl n),en (qCf n),en (qLF n),en (qNx n),en2 (qD3 n),en (qNy n),en (qKC n),en (qFz n),en (qF0 n),en (qHR n)]
theorem qO9:∀n,Ok (Rn n) qP5 (qG1 n)
 |0=>ok0 fun _=>rfl
 |n+1=>stO (T:=qKM n) (by kernel_rfl) (qP6 n) [] (fun _=>(by kernel_rfl)) fun _=>(by kernel_rfl)
def qPA:Sg:=⟨91,[aS],[],⟨aB,[],[]⟩⟩
def qJV (n:Nat) (x0:BA):Tr (Bool):=(.opt (qG1 n x0) fun r387=>(.ask (r387.2) (.ask ((!(x0.toList==(⟨#[]⟩:BA).toList))) (.done (r387.1.toList==x0.toList)) (.done false)) (.done false)))
def qDK:Nat→BA→Option (Bool)
 |0,_=>none
 |n+1,x0=>(qJV n x0).run
abbrev qPB (n:Nat):List (Ent (Rn n)):= [en (qO9 n)]
theorem qNz:∀n,Ok (Rn n) qPA (qDK n)
 |0=>ok0 fun _=>rfl
 |n+1=>stO (T:=qJV n) (by kernel_rfl) (qPB n) [] (fun _=>(by kernel_rfl)) fun _=>(by kernel_rfl)
def qP7:Sg:=⟨47,[aL],[],⟨aB,[],[]⟩⟩
def qE1 (n:Nat) (v:RW×RW×Int×Int):Tr ((RW×RW×Int×Int)⊕((Bool)⊕(RW))):=(.ask ((decide (v.2.2.2<v.2.2.1))) (.ask (decide (0≤v.2.2.2∧v.2.2.2<v.2.1.length)) (.opt (v.2.1[(v.2.2.2).toNat]?) fun e94=>(.ask (decide (e94.length=3)) (.opt (zC .i64 e94 0) fun y95=>(.opt (zC .i64 e94 1) fun y96=>(.opt (zR e94 2) fun y97=>(.opt (qBu n y95 y96) fun r98=>(.ask ((!r98)) (.done (.inr (.inl (false)))) (.ask ((decide (v.2.2.2>(0:Int)))) (.ask (decide (0≤(IntKind.i64.wrap (v.2.2.2-(1:Int)))∧(IntKind.i64.wrap (v.2.2.2-(1:Int)))<v.1.length)) (.opt (v.1[((IntKind.i64.wrap (v.2.2.2-(1:Int)))).toNat]?) fun e99=>(.ask (decide (e99.length=3)) (.opt (zC .i64 e99 0) fun y100=>(.opt (zC .i64 e99 1) fun y101=>(.opt (qBm n y100 y101 y95 y96) fun r102=>(.ask ((decide (r102≥(0:Int)))) (.done (.inr (.inl (false)))) (.opt (qDK n y97) fun r103=>(.ask ((!r103)) (.done (.inr (.inl (false)))) (.done (.inl (v.1,v.2.1,v.2.2.1,(IntKind.i64.wrap (v.2.2.2+(1:Int)))))))))))) .fail)) .fail) (.opt (qDK n y97) fun r104=>(.ask ((!r104)) (.done (.inr (.inl (false)))) (.done (.inl (v.1,v.2.1,v.2.2.1,(IntKind.i64.wrap (v.2.2.2+(1:Int)))))))))))))) .fail)) .fail) (.done (.inr (.inr (v.1)))))
def qKN (n:Nat) (x0:RW):Tr (Bool):=(.opt (zD (qE1 n) n (x0,x0,(x0.length:Int),(0:Int))) fun r105=>(.alt r105 (fun r106=>(.done r106)) (fun r107=>(.done (decide ((r107.length:Int)≤(120:Int)))))))
def qDf:Nat→RW→Option (Bool)
 |0,_=>none
 |n+1,x0=>(qKN n x0).run
abbrev qKO (n:Nat):List (Ent (Rn n)):= [en (qFY n),en (qK7 n),en (qNz n)]
def qMn (n:Nat):LEnt (KB 47) (Rn n) n:=lok (zK 47) 13 ⟨⟨[(0,aL),(5,aL),(6,aI),(7,aI)],[],[]⟩,[(.ret,⟨[(2,aB)],[],[]⟩),(.exit 0,⟨[(0,aL)],[],[]⟩)]⟩ (qE1 n) (qKO n) [] fun _=>(by kernel_rfl)
theorem qPC:∀n,Ok (Rn n) qP7 (qDf n)
 |0=>ok0 fun _=>rfl
 |n+1=>stO (T:=qKN n) (by kernel_rfl) (qKO n) [qMn n] (fun _=>(by kernel_rfl)) fun _=>(by kernel_rfl)
def qQ0:Sg:=⟨69,[aS],[],⟨aB,[],[]⟩⟩
def qHz (n:Nat) (x0:BA):Tr (Bool):=(.ask ((decide ((x0.size:Int)≥(1:Int)))) (.ask ((decide ((x0.size:Int)≤(12:Int)))) (.opt (qDe n x0 (⟨#[97,98,99,100,101,102,103,104,105,106,107,108,109,110,111,112,113,114,115,116,117,118,119,120,121,122]⟩:BA)) fun r95=>(.done (r95.toList==(⟨#[]⟩:BA).toList))) (.done false)) (.done false))
def qFZ:Nat→BA→Option (Bool)
 |0,_=>none
 |n+1,x0=>(qHz n x0).run
abbrev qQ1 (n:Nat):List (Ent (Rn n)):= [en (qJT n)]
theorem qP8:∀n,Ok (Rn n) qQ0 (qFZ n)
 |0=>ok0 fun _=>rfl
 |n+1=>stO (T:=qHz n) (by kernel_rfl) (qQ1 n) [] (fun _=>(by kernel_rfl)) fun _=>(by kernel_rfl)
def qRy:Sg:=⟨27,[(.agg [qI,qL,qL])],[],⟨aB,[],[]⟩⟩
def qEJ (n:Nat) (v:RW×Int×Int×Int×RW×RW):Tr ((RW×Int×Int×Int×RW×RW)⊕((Bool)⊕(Int×RW×RW))):=(.ask ((decide (v.2.2.1<v.2.1))) (.ask (decide (0≤v.2.2.1∧v.2.2.1<v.1.length)) (.opt (v.1[(v.2.2.1).toNat]?) fun e78=>(.ask (decide (e78.length=3)) (.opt (zC .i64 e78 0) fun y79=>(.opt (zd e78 1) fun y80=>(.opt (zd e78 2) fun y81=>(.opt (qw n y79 (1:Int) (IntKind.i64.wrap (v.2.2.2.1-(1:Int)))) fun r82=>(.ask ((!r82)) (.done (.inr (.inl (false)))) (.ask ((decide (v.2.2.1>(0:Int)))) (.ask (decide (0≤(IntKind.i64.wrap (v.2.2.1-(1:Int)))∧(IntKind.i64.wrap (v.2.2.1-(1:Int)))<v.2.2.2.2.1.length)) (.opt (v.2.2.2.2.1[((IntKind.i64.wrap (v.2.2.1-(1:Int)))).toNat]?) fun e83=>(.ask (decide (e83.length=3)) (.opt (zC .i64 e83 0) fun y84=>(.ask ((decide (y84≥y79))) (.done (.inr (.inl (false)))) (.opt (qC7 n v.2.2.2.1 v.2.2.2.2.1 v.2.2.2.2.2 y80 y79) fun r85=>(.ask ((!r85)) (.done (.inr (.inl (false)))) (.opt (qDf n y81) fun r86=>(.ask ((!r86)) (.done (.inr (.inl (false)))) (.done (.inl (v.1,v.2.1,(IntKind.i64.wrap (v.2.2.1+(1:Int))),v.2.2.2.1,v.2.2.2.2.1,v.2.2.2.2.2))))))))) .fail)) .fail) (.opt (qC7 n v.2.2.2.1 v.2.2.2.2.1 v.2.2.2.2.2 y80 y79) fun r87=>(.ask ((!r87)) (.done (.inr (.inl (false)))) (.opt (qDf n y81) fun r88=>(.ask ((!r88)) (.done (.inr (.inl (false)))) (.done (.inl (v.1,v.2.1,(IntKind.i64.wrap (v.2.2.1+(1:Int))),v.2.2.2.1,v.2.2.2.2.1,v.2.2.2.2.2))))))))))))) .fail)) .fail) (.done (.inr (.inr ((v.2.2.2.1,v.2.2.2.2.1,v.2.2.2.2.2))))))
def qEK (n:Nat) (v:RW×Int×Int×Int×RW×RW):Tr ((RW×Int×Int×Int×RW×RW)⊕((Bool)⊕(Unit))):=(.ask ((decide (v.2.2.1<v.2.1))) (.ask (decide (0≤v.2.2.1∧v.2.2.1<v.1.length)) (.opt (v.1[(v.2.2.1).toNat]?) fun e92=>(.ask (decide (e92.length=2)) (.opt (zR e92 0) fun y93=>(.opt (zC .i64 e92 1) fun y94=>(.opt (qFZ n y93) fun r95=>(.ask ((!r95)) (.done (.inr (.inl (false)))) (.ask ((decide (v.2.2.1>(0:Int)))) (.ask (decide (0≤(IntKind.i64.wrap (v.2.2.1-(1:Int)))∧(IntKind.i64.wrap (v.2.2.1-(1:Int)))<v.2.2.2.2.2.length)) (.opt (v.2.2.2.2.2[((IntKind.i64.wrap (v.2.2.1-(1:Int)))).toNat]?) fun e96=>(.ask (decide (e96.length=2)) (.opt (zR e96 0) fun y97=>(.ask ((!(Op.bytesLess y97.toList y93.toList))) (.done (.inr (.inl (false)))) (.opt (qBL n v.2.2.2.1 v.2.2.2.2.1 v.2.2.2.2.2 y94) fun r98=>(.ask ((decide (r98<(0:Int)))) (.done (.inr (.inl (false)))) (.done (.inl (v.1,v.2.1,(IntKind.i64.wrap (v.2.2.1+(1:Int))),v.2.2.2.1,v.2.2.2.2.1,v.2.2.2.2.2))))))) .fail)) .fail) (.opt (qBL n v.2.2.2.1 v.2.2.2.2.1 v.2.2.2.2.2 y94) fun r99=>(.ask ((decide (r99<(0:Int)))) (.done (.inr (.inl (false)))) (.done (.inl (v.1,v.2.1,(IntKind.i64.wrap (v.2.2.1+(1:Int))),v.2.2.2.1,v.2.2.2.2.1,v.2.2.2.2.2)))))))))) .fail)) .fail) (.done (.inr (.inr (())))))
def qIx (n:Nat) (x0:Int) (x1 x2:RW):Tr (Bool):=(.opt (qw n x0 (2:Int) (1000000000:Int)) fun r75=>(.ask ((!r75)) (.done false) (.opt (qw n (x1.length:Int) (1:Int) (40:Int)) fun r76=>(.ask ((!r76)) (.done false) (.opt (qw n (x2.length:Int) (1:Int) (8:Int)) fun r77=>(.ask ((!r77)) (.done false) (.opt (zD (qEJ n) n (x1,(x1.length:Int),(0:Int),x0,x1,x2)) fun r89=>(.alt r89 (fun r90=>(.done r90)) (fun r91=>(.opt (zD (qEK n) n (r91.2.2,(r91.2.2.length:Int),(0:Int),r91.1,r91.2.1,r91.2.2)) fun r100=>(.alt r100 (fun r101=>(.done r101)) (fun r102=>(.done true)))))))))))))
def qIy:Nat→Int→RW→RW→Option (Bool)
 |0,_,_,_=>none
 |n+1,x0,x1,x2=>(qIx n x0 x1 x2).run
abbrev qIz (n:Nat):List (Ent (Rn n)):= [en (qC6 n),en (qMi n),en (qPC n),en (qP8 n),en (qF9 n)]
def qPD (n:Nat):LEnt (KB 27) (Rn n) n:=lok (zK 27) 29 ⟨⟨[(1,(.c (.ptr 0 64 0 0 0))),(26,aL),(27,aI),(28,aI)],[(64,⟨0,3,50,(.box [qI,qL,qL])⟩)],[]⟩,[(.ret,⟨[(2,aB)],[],[]⟩),(.exit 0,⟨[(1,(.c (.ptr 0 64 0 0 0)))],[(64,⟨0,3,50,(.box [qI,qL,qL])⟩)],[]⟩)]⟩ (qEJ n) (qIz n) [] fun _=>(by kernel_rfl)
def qPE (n:Nat):LEnt (KB 27) (Rn n) n:=lok (zK 27) 61 ⟨⟨[(1,(.c (.ptr 0 64 0 0 0))),(73,aL),(74,aI),(75,aI)],[(64,⟨0,3,50,(.box [qI,qL,qL])⟩)],[]⟩,[(.ret,⟨[(2,aB)],[],[]⟩),(.exit 2,⟨[],[],[]⟩)]⟩ (qEK n) (qIz n) [] fun _=>(by kernel_rfl)
theorem qQ2:∀n,Ok (Rn n) qRy (qIy n)
 |0=>ok0 fun _=>rfl
 |n+1=>stO (T:=qIx n) (by kernel_rfl) (qIz n) [qPD n,qPE n] (fun _=>(by kernel_rfl)) fun _=>(by kernel_rfl)
def qPF:Sg:=⟨154,[aL,aL],[],⟨aB,[],[]⟩⟩
def qCQ (n:Nat) (v:RW×RW×Int):Tr ((RW×RW×Int)⊕((Bool)⊕(Unit))):=(.ask ((decide (v.2.2<(v.1.length:Int)))) (.ask (decide (0≤v.2.2∧v.2.2<v.1.length)) (.opt (v.1[(v.2.2).toNat]?) fun e113=>(.ask (decide (e113.length=1)) (.opt (zC .i64 e113 0) fun y114=>(.ask (decide (0≤v.2.2∧v.2.2<v.2.1.length)) (.opt (v.2.1[(v.2.2).toNat]?) fun e115=>(.ask (decide (e115.length=1)) (.opt (zC .i64 e115 0) fun y116=>(.ask ((y114 !=y116)) (.done (.inr (.inl (false)))) (.done (.inl (v.1,v.2.1,(IntKind.i64.wrap (v.2.2+(1:Int)))))))) .fail)) .fail)) .fail)) .fail) (.done (.inr (.inr (())))))
def qF2 (n:Nat) (x0 x1:RW):Tr (Bool):=(.ask (((x0.length:Int) !=(x1.length:Int))) (.done false) (.opt (zD (qCQ n) n (x0,x1,(0:Int))) fun r117=>(.alt r117 (fun r118=>(.done r118)) (fun r119=>(.done true)))))
def qEL:Nat→RW→RW→Option (Bool)
 |0,_,_=>none
 |n+1,x0,x1=>(qF2 n x0 x1).run
def qMB (n:Nat):LEnt (KB 154) (Rn n) n:=lok (zK 154) 29 ⟨⟨[(0,aL),(1,aL),(5,aI)],[],[]⟩,[(.ret,⟨[(4,aB)],[],[]⟩),(.exit 0,⟨[],[],[]⟩)]⟩ (qCQ n) [] [] fun _=>(by kernel_rfl)
theorem qN0:∀n,Ok (Rn n) qPF (qEL n)
 |0=>ok0 fun _=>rfl
 |n+1=>stO (T:=qF2 n) (by kernel_rfl) [] [qMB n] (fun _=>(by kernel_rfl)) fun _=>(by kernel_rfl)
def qRz:Sg:=⟨79,[(.agg [qI,qI]),(.agg [qI,qI])],[],⟨aB,[],[]⟩⟩
def qI0 (n:Nat) (x0 x1 x2 x3:Int):Tr (Bool):=(.ask ((x0 !=x2)) (.done false) (.ask ((x1 !=x3)) (.done false) (.done true)))
def qI1:Nat→Int→Int→Int→Int→Option (Bool)
 |0,_,_,_,_=>none
 |n+1,x0,x1,x2,x3=>(qI0 n x0 x1 x2 x3).run
theorem qQ3:∀n,Ok (Rn n) qRz (qI1 n)
 |0=>ok0 fun _=>rfl
 |n+1=>stO (T:=qI0 n) (by kernel_rfl) [] [] (fun _=>(by kernel_rfl)) fun _=>(by kernel_rfl)
def qQ4:Sg:=⟨49,[(.agg [qI,qI,qS]),(.agg [qI,qI,qS])],[],⟨aB,[],[]⟩⟩
def qH0 (n:Nat) (x0 x1:Int) (x2:BA) (x3 x4:Int) (x5:BA):Tr (Bool):=(.opt (qI1 n x0 x1 x3 x4) fun r129=>(.ask ((!r129)) (.done false) (.ask ((!(x2.toList==x5.toList))) (.done false) (.done true))))
def qFa:Nat→Int→Int→BA→Int→Int→BA→Option (Bool)
 |0,_,_,_,_,_,_=>none
 |n+1,x0,x1,x2,x3,x4,x5=>(qH0 n x0 x1 x2 x3 x4 x5).run
abbrev qQ5 (n:Nat):List (Ent (Rn n)):= [en (qQ3 n)]
theorem qP9:∀n,Ok (Rn n) qQ4 (qFa n)
 |0=>ok0 fun _=>rfl
 |n+1=>stO (T:=qH0 n) (by kernel_rfl) (qQ5 n) [] (fun _=>(by kernel_rfl)) fun _=>(by kernel_rfl)
def qQA:Sg:=⟨16,[aL,aL],[],⟨aB,[],[]⟩⟩
def qCk (n:Nat) (v:RW×RW×Int):Tr ((RW×RW×Int)⊕((Bool)⊕(Unit))):=(.ask ((decide (v.2.2<(v.1.length:Int)))) (.ask (decide (0≤v.2.2∧v.2.2<v.1.length)) (.opt (v.1[(v.2.2).toNat]?) fun e121=>(.ask (decide (e121.length=3)) (.opt (zC .i64 e121 0) fun y122=>(.opt (zC .i64 e121 1) fun y123=>(.opt (zR e121 2) fun y124=>(.ask (decide (0≤v.2.2∧v.2.2<v.2.1.length)) (.opt (v.2.1[(v.2.2).toNat]?) fun e125=>(.ask (decide (e125.length=3)) (.opt (zC .i64 e125 0) fun y126=>(.opt (zC .i64 e125 1) fun y127=>(.opt (zR e125 2) fun y128=>(.opt (qFa n y122 y123 y124 y126 y127 y128) fun r129=>(.ask ((!r129)) (.done (.inr (.inl (false)))) (.done (.inl (v.1,v.2.1,(IntKind.i64.wrap (v.2.2+(1:Int))))))))))) .fail)) .fail)))) .fail)) .fail) (.done (.inr (.inr (())))))
def qG2 (n:Nat) (x0 x1:RW):Tr (Bool):=(.ask (((x0.length:Int) !=(x1.length:Int))) (.done false) (.opt (zD (qCk n) n (x0,x1,(0:Int))) fun r130=>(.alt r130 (fun r131=>(.done r131)) (fun r132=>(.done true)))))
def qE2:Nat→RW→RW→Option (Bool)
 |0,_,_=>none
 |n+1,x0,x1=>(qG2 n x0 x1).run
abbrev qKP (n:Nat):List (Ent (Rn n)):= [en (qP9 n)]
def qMo (n:Nat):LEnt (KB 16) (Rn n) n:=lok (zK 16) 29 ⟨⟨[(0,aL),(1,aL),(5,aI)],[],[]⟩,[(.ret,⟨[(4,aB)],[],[]⟩),(.exit 0,⟨[],[],[]⟩)]⟩ (qCk n) (qKP n) [] fun _=>(by kernel_rfl)
theorem qPG:∀n,Ok (Rn n) qQA (qE2 n)
 |0=>ok0 fun _=>rfl
 |n+1=>stO (T:=qG2 n) (by kernel_rfl) (qKP n) [qMo n] (fun _=>(by kernel_rfl)) fun _=>(by kernel_rfl)
def qN1:Sg:=⟨112,[(.agg [qI,qL,qL]),(.agg [qI,qL,qL])],[],⟨aB,[],[]⟩⟩
def qFM (n:Nat) (x0:Int) (x1 x2:RW) (x3:Int) (x4 x5:RW):Tr (Bool):=(.ask ((x0 !=x3)) (.done false) (.opt (qEL n x1 x4) fun r120=>(.ask ((!r120)) (.done false) (.opt (qE2 n x2 x5) fun r133=>(.ask ((!r133)) (.done false) (.done true))))))
def qDr:Nat→Int→RW→RW→Int→RW→RW→Option (Bool)
 |0,_,_,_,_,_,_=>none
 |n+1,x0,x1,x2,x3,x4,x5=>(qFM n x0 x1 x2 x3 x4 x5).run
abbrev qN2 (n:Nat):List (Ent (Rn n)):= [en (qN0 n),en (qPG n)]
theorem qMp:∀n,Ok (Rn n) qN1 (qDr n)
 |0=>ok0 fun _=>rfl
 |n+1=>stO (T:=qFM n) (by kernel_rfl) (qN2 n) [] (fun _=>(by kernel_rfl)) fun _=>(by kernel_rfl)
def qMq:Sg:=⟨71,[aL,aL],[],⟨aB,[],[]⟩⟩
def qB0 (n:Nat) (v:RW×RW×Int):Tr ((RW×RW×Int)⊕((Bool)⊕(Unit))):=(.ask ((decide (v.2.2<(v.1.length:Int)))) (.ask (decide (0≤v.2.2∧v.2.2<v.1.length)) (.opt (v.1[(v.2.2).toNat]?) fun e105=>(.ask (decide (e105.length=3)) (.opt (zC .i64 e105 0) fun y106=>(.opt (zd e105 1) fun y107=>(.opt (zd e105 2) fun y108=>(.ask (decide (0≤v.2.2∧v.2.2<v.2.1.length)) (.opt (v.2.1[(v.2.2).toNat]?) fun e109=>(.ask (decide (e109.length=3)) (.opt (zC .i64 e109 0) fun y110=>(.opt (zd e109 1) fun y111=>(.opt (zd e109 2) fun y112=>(.opt (qDr n y106 y107 y108 y110 y111 y112) fun r113=>(.ask ((!r113)) (.done (.inr (.inl (false)))) (.done (.inl (v.1,v.2.1,(IntKind.i64.wrap (v.2.2+(1:Int))))))))))) .fail)) .fail)))) .fail)) .fail) (.done (.inr (.inr (())))))
def qE3 (n:Nat) (x0 x1:RW):Tr (Bool):=(.ask (((x0.length:Int) !=(x1.length:Int))) (.done false) (.opt (zD (qB0 n) n (x0,x1,(0:Int))) fun r114=>(.alt r114 (fun r115=>(.done r115)) (fun r116=>(.done true)))))
def qDS:Nat→RW→RW→Option (Bool)
 |0,_,_=>none
 |n+1,x0,x1=>(qE3 n x0 x1).run
abbrev qHV (n:Nat):List (Ent (Rn n)):= [en (qMp n)]
def qKQ (n:Nat):LEnt (KB 71) (Rn n) n:=lok (zK 71) 29 ⟨⟨[(0,aL),(1,aL),(5,aI)],[],[]⟩,[(.ret,⟨[(4,aB)],[],[]⟩),(.exit 0,⟨[],[],[]⟩)]⟩ (qB0 n) (qHV n) [] fun _=>(by kernel_rfl)
theorem qMC:∀n,Ok (Rn n) qMq (qDS n)
 |0=>ok0 fun _=>rfl
 |n+1=>stO (T:=qE3 n) (by kernel_rfl) (qHV n) [qKQ n] (fun _=>(by kernel_rfl)) fun _=>(by kernel_rfl)
def qPH:Sg:=⟨113,[(.agg [qS,qI]),(.agg [qS,qI])],[],⟨aB,[],[]⟩⟩
def qF3 (n:Nat) (x0:BA) (x1:Int) (x2:BA) (x3:Int):Tr (Bool):=(.ask ((!(x0.toList==x2.toList))) (.done false) (.ask ((x1 !=x3)) (.done false) (.done true)))
def qEM:Nat→BA→Int→BA→Int→Option (Bool)
 |0,_,_,_,_=>none
 |n+1,x0,x1,x2,x3=>(qF3 n x0 x1 x2 x3).run
theorem qN3:∀n,Ok (Rn n) qPH (qEM n)
 |0=>ok0 fun _=>rfl
 |n+1=>stO (T:=qF3 n) (by kernel_rfl) [] [] (fun _=>(by kernel_rfl)) fun _=>(by kernel_rfl)
def qN4:Sg:=⟨72,[aL,aL],[],⟨aB,[],[]⟩⟩
def qCA (n:Nat) (v:RW×RW×Int):Tr ((RW×RW×Int)⊕((Bool)⊕(Unit))):=(.ask ((decide (v.2.2<(v.1.length:Int)))) (.ask (decide (0≤v.2.2∧v.2.2<v.1.length)) (.opt (v.1[(v.2.2).toNat]?) fun e118=>(.ask (decide (e118.length=2)) (.opt (zR e118 0) fun y119=>(.opt (zC .i64 e118 1) fun y120=>(.ask (decide (0≤v.2.2∧v.2.2<v.2.1.length)) (.opt (v.2.1[(v.2.2).toNat]?) fun e121=>(.ask (decide (e121.length=2)) (.opt (zR e121 0) fun y122=>(.opt (zC .i64 e121 1) fun y123=>(.opt (qEM n y119 y120 y122 y123) fun r124=>(.ask ((!r124)) (.done (.inr (.inl (false)))) (.done (.inl (v.1,v.2.1,(IntKind.i64.wrap (v.2.2+(1:Int)))))))))) .fail)) .fail))) .fail)) .fail) (.done (.inr (.inr (())))))
def qFN (n:Nat) (x0 x1:RW):Tr (Bool):=(.ask (((x0.length:Int) !=(x1.length:Int))) (.done false) (.opt (zD (qCA n) n (x0,x1,(0:Int))) fun r125=>(.alt r125 (fun r126=>(.done r126)) (fun r127=>(.done true)))))
def qDs:Nat→RW→RW→Option (Bool)
 |0,_,_=>none
 |n+1,x0,x1=>(qFN n x0 x1).run
abbrev qIN (n:Nat):List (Ent (Rn n)):= [en (qN3 n)]
def qLH (n:Nat):LEnt (KB 72) (Rn n) n:=lok (zK 72) 29 ⟨⟨[(0,aL),(1,aL),(5,aI)],[],[]⟩,[(.ret,⟨[(4,aB)],[],[]⟩),(.exit 0,⟨[],[],[]⟩)]⟩ (qCA n) (qIN n) [] fun _=>(by kernel_rfl)
theorem qMr:∀n,Ok (Rn n) qN4 (qDs n)
 |0=>ok0 fun _=>rfl
 |n+1=>stO (T:=qFN n) (by kernel_rfl) (qIN n) [qLH n] (fun _=>(by kernel_rfl)) fun _=>(by kernel_rfl)
def qR0:Sg:=⟨28,[(.agg [qI,qL,qL]),(.agg [qI,qL,qL])],[],⟨aB,[],[]⟩⟩
def qI2 (n:Nat) (x0:Int) (x1 x2:RW) (x3:Int) (x4 x5:RW):Tr (Bool):=(.ask ((x0 !=x3)) (.done false) (.opt (qDS n x1 x4) fun r117=>(.ask ((!r117)) (.done false) (.opt (qDs n x2 x5) fun r128=>(.ask ((!r128)) (.done false) (.done true))))))
def qI3:Nat→Int→RW→RW→Int→RW→RW→Option (Bool)
 |0,_,_,_,_,_,_=>none
 |n+1,x0,x1,x2,x3,x4,x5=>(qI2 n x0 x1 x2 x3 x4 x5).run
abbrev qR1 (n:Nat):List (Ent (Rn n)):= [en (qMC n),en (qMr n)]
theorem qQ6:∀n,Ok (Rn n) qR0 (qI3 n)
 |0=>ok0 fun _=>rfl
 |n+1=>stO (T:=qI2 n) (by kernel_rfl) (qR1 n) [] (fun _=>(by kernel_rfl)) fun _=>(by kernel_rfl)
def qLI:Sg:=⟨6,[(.agg [qI,qL,qL])],[],⟨aB,[],[]⟩⟩
def qGG (n:Nat) (x0:Int) (x1 x2:RW):Tr (Bool):=(.opt (qGL n x0 x1 x2 (1048576:Int)) fun r18=>(.ask ((decide (r18<(0:Int)))) (.done true) (.opt (qEi n x0 x1 x2) fun r34=>(.opt (qIi n r34.1 r34.2.1 r34.2.2) fun r73=>(.opt (qEi n x0 x1 x2) fun r74=>(.opt (qIy n r74.1 r74.2.1 r74.2.2) fun r103=>(.ask ((!(r103==r73))) (.done false) (.opt (qEi n x0 x1 x2) fun r104=>(.opt (qI3 n r74.1 r74.2.1 r74.2.2 r104.1 r104.2.1 r104.2.2) fun r129=>(.ask ((!r129)) (.done false) (.done true)))))))))))
def qGH:Nat→Int→RW→RW→Option (Bool)
 |0,_,_,_=>none
 |n+1,x0,x1,x2=>(qGG n x0 x1 x2).run
abbrev qLJ (n:Nat):List (Ent (Rn n)):= [en (qQf n),en (qQj n),en (qQq n),en (qQ2 n),en (qQ6 n)]
theorem qKR:∀n,Ok (Rn n) qLI (qGH n)
 |0=>ok0 fun _=>rfl
 |n+1=>stO (T:=qGG n) (by kernel_rfl) (qLJ n) [] (fun _=>(by kernel_rfl)) fun _=>(by kernel_rfl)
end
end Go.Proofs.YtkkkfjgagjdcoaaGreatDoor.KFnExactDagOk

