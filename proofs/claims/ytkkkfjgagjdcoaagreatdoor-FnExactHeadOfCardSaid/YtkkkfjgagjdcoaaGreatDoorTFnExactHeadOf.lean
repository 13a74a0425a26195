import Derived.Test.YtkkkfjgagjdcoaaGreatDoorKFnExactHeadOf
namespace Go.Proofs.YtkkkfjgagjdcoaaGreatDoor.KFnExactHeadOf
open Go.Eng
set_option linter.unusedVariables false
set_option maxRecDepth 100000
noncomputable section
abbrev RW:=List (List PV)
abbrev BA:=ByteArray
def qOz:Sg:=⟨145,[aL,aI],[],⟨aI,[],[]⟩⟩
def qF5 (n:Nat) (x0:RW) (x1:Int):Tr (Int):=(.ask ((decide ((IntKind.i64.wrap (x1-(x0.length:Int)))<(0:Int)))) (.done (-1:Int)) (.done (IntKind.i64.wrap (x1-(x0.length:Int)))))
def qEL:Nat→RW→Int→Option (Int)
 |0,_,_=>none
 |n+1,x0,x1=>(qF5 n x0 x1).run
theorem qNm:∀n,Ok (Rn n) qOz (qEL n)
 |0=>ok0 fun _=>rfl
 |n+1=>stO (T:=qF5 n) (by kernel_rfl) [] [] (fun _=>(by kernel_rfl)) fun _=>(by kernel_rfl)
def qQ9:Sg:=⟨43,[(.agg [qI,qI,qS]),aI],[],⟨aI,[],[]⟩⟩
def qHw (n:Nat) (x0 x1:Int) (x2:BA) (x3:Int):Tr (Int):=(.ask ((decide ((IntKind.i64.wrap (x3-(x2.size:Int)))<(0:Int)))) (.done (-1:Int)) (.done (IntKind.i64.wrap (x3-(x2.size:Int)))))
def qFe:Nat→Int→Int→BA→Int→Option (Int)
 |0,_,_,_,_=>none
 |n+1,x0,x1,x2,x3=>(qHw n x0 x1 x2 x3).run
theorem qPw:∀n,Ok (Rn n) qQ9 (qFe n)
 |0=>ok0 fun _=>rfl
 |n+1=>stO (T:=qHw n) (by kernel_rfl) [] [] (fun _=>(by kernel_rfl)) fun _=>(by kernel_rfl)
def qPx:Sg:=⟨11,[aL,aI],[],⟨aI,[],[]⟩⟩
def qB9 (n:Nat) (v:RW×Int×Int):Tr ((RW×Int×Int)⊕((Int)⊕(Int))):=(.ask ((decide (v.2.2<(v.1.length:Int)))) (.ask (decide (0≤v.2.2∧v.2.2<v.1.length)) (.opt (v.1[(v.2.2).toNat]?) fun e6=>(.ask (decide (e6.length=3)) (.opt (zC .i64 e6 0) fun y7=>(.opt (zC .i64 e6 1) fun y8=>(.opt (zR e6 2) fun y9=>(.opt (qFe n y7 y8 y9 v.2.1) fun r10=>(.ask ((decide (r10<(0:Int)))) (.done (.inr (.inl ((-1:Int))))) (.done (.inl (v.1,r10,(IntKind.i64.wrap (v.2.2+(1:Int))))))))))) .fail)) .fail) (.done (.inr (.inr (v.2.1)))))
def qGk (n:Nat) (x0:RW) (x1:Int):Tr (Int):=(.ask ((decide ((IntKind.i64.wrap (x1-(x0.length:Int)))<(0:Int)))) (.done (-1:Int)) (.opt (zD (qB9 n) n (x0,(IntKind.i64.wrap (x1-(x0.length:Int))),(0:Int))) fun r11=>(.alt r11 (fun r12=>(.done r12)) (fun r13=>(.done r13)))))
def qEo:Nat→RW→Int→Option (Int)
 |0,_,_=>none
 |n+1,x0,x1=>(qGk n x0 x1).run
abbrev qKB (n:Nat):List (Ent (Rn n)):= [en (qPw n)]
def qMm (n:Nat):LEnt (KB 11) (Rn n) n:=lok (zK 11) 61 ⟨⟨[(0,aL),(1,aI),(5,aI)],[],[]⟩,[(.ret,⟨[(4,aI)],[],[]⟩),(.exit 0,⟨[(1,aI)],[],[]⟩)]⟩ (qB9 n) (qKB n) [] fun _=>(by kernel_rfl)
theorem qO0:∀n,Ok (Rn n) qPx (qEo n)
 |0=>ok0 fun _=>rfl
 |n+1=>stO (T:=qGk n) (by kernel_rfl) (qKB n) [qMm n] (fun _=>(by kernel_rfl)) fun _=>(by kernel_rfl)
def qNn:Sg:=⟨105,[(.agg [qI,qL,qL]),aI],[],⟨aI,[],[]⟩⟩
def qFQ (n:Nat) (x0:Int) (x1 x2:RW) (x3:Int):Tr (Int):=(.opt (qEL n x1 x3) fun r5=>(.ask ((decide (r5<(0:Int)))) (.done (-1:Int)) (.opt (qEo n x2 r5) fun r14=>(.ask ((decide (r14<(0:Int)))) (.done (-1:Int)) (.done r14)))))
def qDs:Nat→Int→RW→RW→Int→Option (Int)
 |0,_,_,_,_=>none
 |n+1,x0,x1,x2,x3=>(qFQ n x0 x1 x2 x3).run
abbrev qNo (n:Nat):List (Ent (Rn n)):= [en (qNm n),en (qO0 n)]
theorem qMn:∀n,Ok (Rn n) qNn (qDs n)
 |0=>ok0 fun _=>rfl
 |n+1=>stO (T:=qFQ n) (by kernel_rfl) (qNo n) [] (fun _=>(by kernel_rfl)) fun _=>(by kernel_rfl)
def qMo:Sg:=⟨61,[aL,aI],[],⟨aI,[],[]⟩⟩
def qBT (n:Nat) (v:RW×Int×Int):Tr ((RW×Int×Int)⊕((Int)⊕(Int))):=(.ask ((decide (v.2.2<(v.1.length:Int)))) (.ask (decide (0≤v.2.2∧v.2.2<v.1.length)) (.opt (v.1[(v.2.2).toNat]?) fun e1=>(.ask (decide (e1.length=3)) (.opt (zC .i64 e1 0) fun y2=>(.opt (zd e1 1) fun y3=>(.opt (zd e1 2) fun y4=>(.opt (qDs n y2 y3 y4 v.2.1) fun r5=>(.ask ((decide (r5<(0:Int)))) (.done (.inr (.inl ((-1:Int))))) (.done (.inl (v.1,r5,(IntKind.i64.wrap (v.2.2+(1:Int))))))))))) .fail)) .fail) (.done (.inr (.inr (v.2.1)))))
def qEp (n:Nat) (x0:RW) (x1:Int):Tr (Int):=(.ask ((decide ((IntKind.i64.wrap (x1-(x0.length:Int)))<(0:Int)))) (.done (-1:Int)) (.opt (zD (qBT n) n (x0,(IntKind.i64.wrap (x1-(x0.length:Int))),(0:Int))) fun r6=>(.alt r6 (fun r7=>(.done r7)) (fun r8=>(.done r8)))))
def qDY:Nat→RW→Int→Option (Int)
 |0,_,_=>none
 |n+1,x0,x1=>(qEp n x0 x1).run
abbrev qHZ (n:Nat):List (Ent (Rn n)):= [en (qMn n)]
def qKC (n:Nat):LEnt (KB 61) (Rn n) n:=lok (zK 61) 61 ⟨⟨[(0,aL),(1,aI),(5,aI)],[],[]⟩,[(.ret,⟨[(4,aI)],[],[]⟩),(.exit 0,⟨[(1,aI)],[],[]⟩)]⟩ (qBT n) (qHZ n) [] fun _=>(by kernel_rfl)
theorem qL2:∀n,Ok (Rn n) qMo (qDY n)
 |0=>ok0 fun _=>rfl
 |n+1=>stO (T:=qEp n) (by kernel_rfl) (qHZ n) [qKC n] (fun _=>(by kernel_rfl)) fun _=>(by kernel_rfl)
def qO1:Sg:=⟨106,[(.agg [qS,qI]),aI],[],⟨aI,[],[]⟩⟩
def qF6 (n:Nat) (x0:BA) (x1 x2:Int):Tr (Int):=(.ask ((decide ((IntKind.i64.wrap (x2-(x0.size:Int)))<(0:Int)))) (.done (-1:Int)) (.done (IntKind.i64.wrap (x2-(x0.size:Int)))))
def qEM:Nat→BA→Int→Int→Option (Int)
 |0,_,_,_=>none
 |n+1,x0,x1,x2=>(qF6 n x0 x1 x2).run
theorem qNp:∀n,Ok (Rn n) qO1 (qEM n)
 |0=>ok0 fun _=>rfl
 |n+1=>stO (T:=qF6 n) (by kernel_rfl) [] [] (fun _=>(by kernel_rfl)) fun _=>(by kernel_rfl)
def qNq:Sg:=⟨62,[aL,aI],[],⟨aI,[],[]⟩⟩
def qBk (n:Nat) (v:RW×Int×Int):Tr ((RW×Int×Int)⊕((Int)⊕(Int))):=(.ask ((decide (v.2.2<(v.1.length:Int)))) (.ask (decide (0≤v.2.2∧v.2.2<v.1.length)) (.opt (v.1[(v.2.2).toNat]?) fun e10=>(.ask (decide (e10.length=2)) (.opt (zR e10 0) fun y11=>(.opt (zC .i64 e10 1) fun y12=>(.opt (qEM n y11 y12 v.2.1) fun r13=>(.ask ((decide (r13<(0:Int)))) (.done (.inr (.inl ((-1:Int))))) (.done (.inl (v.1,r13,(IntKind.i64.wrap (v.2.2+(1:Int)))))))))) .fail)) .fail) (.done (.inr (.inr (v.2.1)))))
def qFR (n:Nat) (x0:RW) (x1:Int):Tr (Int):=(.ask ((decide ((IntKind.i64.wrap (x1-(x0.length:Int)))<(0:Int)))) (.done (-1:Int)) (.opt (zD (qBk n) n (x0,(IntKind.i64.wrap (x1-(x0.length:Int))),(0:Int))) fun r14=>(.alt r14 (fun r15=>(.done r15)) (fun r16=>(.done r16)))))
def qDt:Nat→RW→Int→Option (Int)
 |0,_,_=>none
 |n+1,x0,x1=>(qFR n x0 x1).run
abbrev qIT (n:Nat):List (Ent (Rn n)):= [en (qNp n)]
def qLI (n:Nat):LEnt (KB 62) (Rn n) n:=lok (zK 62) 61 ⟨⟨[(0,aL),(1,aI),(5,aI)],[],[]⟩,[(.ret,⟨[(4,aI)],[],[]⟩),(.exit 0,⟨[(1,aI)],[],[]⟩)]⟩ (qBk n) (qIT n) [] fun _=>(by kernel_rfl)
theorem qMp:∀n,Ok (Rn n) qNq (qDt n)
 |0=>ok0 fun _=>rfl
 |n+1=>stO (T:=qFR n) (by kernel_rfl) (qIT n) [qLI n] (fun _=>(by kernel_rfl)) fun _=>(by kernel_rfl)
def qSK:Sg:=⟨24,[(.agg [qI,qL,qL]),aI],[],⟨aI,[],[]⟩⟩
def qIw (n:Nat) (x0:Int) (x1 x2:RW) (x3:Int):Tr (Int):=(.opt (qDY n x1 x3) fun r9=>(.ask ((decide (r9<(0:Int)))) (.done (-1:Int)) (.opt (qDt n x2 r9) fun r17=>(.ask ((decide (r17<(0:Int)))) (.done (-1:Int)) (.done r17)))))
def qGb:Nat→Int→RW→RW→Int→Option (Int)
 |0,_,_,_,_=>none
 |n+1,x0,x1,x2,x3=>(qIw n x0 x1 x2 x3).run
abbrev qSL (n:Nat):List (Ent (Rn n)):= [en (qL2 n),en (qMp n)]
theorem qRA:∀n,Ok (Rn n) qSK (qGb n)
 |0=>ok0 fun _=>rfl
 |n+1=>stO (T:=qIw n) (by kernel_rfl) (qSL n) [] (fun _=>(by kernel_rfl)) fun _=>(by kernel_rfl)
def qO2:Sg:=⟨146,[aL],[],⟨(.c (.own 0 0 0 0)),[],[⟨0,1,2,(.row [])⟩]⟩⟩
def qCQ (n:Nat) (v:RW×Nat×Int×RW):Tr ((RW×Nat×Int×RW)⊕((Nat×RW))):=(.ask ((decide (v.2.2.1<(v.1.length:Int)))) (.ask (decide (0≤v.2.2.1∧v.2.2.1<v.1.length)) (.opt (v.1[(v.2.2.1).toNat]?) fun e23=>(.ask (decide (e23.length=1)) (.opt (zC .i64 e23 0) fun y24=>(.ask (decide (v.2.1=v.2.2.2.length∧0≤v.2.2.1∧v.2.2.1<((v.2.1:Nat):Int))) (.opt (v.2.2.2[(v.2.2.1).toNat]?) fun e25=>(.ask (decide (0+1≤e25.length)) (.done (.inl (v.1,v.2.1,(IntKind.i64.wrap (v.2.2.1+(1:Int))),(v.2.2.2.set (v.2.2.1).toNat (zi e25 0 [(.i .i64 y24)]))))) .fail)) .fail)) .fail)) .fail) (.done (.inr ((v.2.1,v.2.2.2)))))
def qF7 (n:Nat) (x0:RW):Tr (Nat×RW):=(.ask (decide (0≤(x0.length:Int)∧(x0.length:Int)=(x0.length:Int)∧8*(x0.length:Int)≤140737488355328∧(x0.length:Int)≤9223372036854775807)) (.opt (zD (qCQ n) n (x0,((x0.length:Int)).toNat,(0:Int),(zAK [(.i .i64 (0:Int))] ((x0.length:Int)).toNat))) fun r26=>(.done (r26.1,r26.2))) .fail)
def qEN:Nat→RW→Option (Nat×RW)
 |0,_=>none
 |n+1,x0=>(qF7 n x0).run
def qL3 (n:Nat):LEnt (KB 146) (Rn n) n:=lok (zK 146) 29 ⟨⟨[(0,aL),(3,(.c (.own 0 448 0 0))),(4,aI)],[(448,⟨0,1,2,(.row [])⟩)],[]⟩,[(.exit 0,⟨[(3,(.c (.own 0 448 0 0)))],[(448,⟨0,1,2,(.row [])⟩)],[]⟩)]⟩ (qCQ n) [] [] fun _=>(by kernel_rfl)
theorem qNr:∀n,Ok (Rn n) qO2 (qEN n)
 |0=>ok0 fun _=>rfl
 |n+1=>stO (T:=qF7 n) (by kernel_rfl) [] [qL3 n] (fun _=>(by kernel_rfl)) fun _=>(by kernel_rfl)
def qSM:Sg:=⟨14,[(.agg [qI,qI])],[],⟨(.agg [qI,qI]),[],[]⟩⟩
def qIx (n:Nat) (x0 x1:Int):Tr (Int×Int):=(.done (x0,x1))
def qIy:Nat→Int→Int→Option (Int×Int)
 |0,_,_=>none
 |n+1,x0,x1=>(qIx n x0 x1).run
theorem qRB:∀n,Ok (Rn n) qSM (qIy n)
 |0=>ok0 fun _=>rfl
 |n+1=>stO (T:=qIx n) (by kernel_rfl) [] [] (fun _=>(by kernel_rfl)) fun _=>(by kernel_rfl)
def qRC:Sg:=⟨46,[(.agg [qI,qI,qS])],[],⟨(.agg [qI,qI,qS]),[],[]⟩⟩
def qHx (n:Nat) (x0 x1:Int) (x2:BA):Tr (Int×Int×BA):=(.opt (qIy n x0 x1) fun r32=>(.done (r32.1,r32.2,x2)))
def qFf:Nat→Int→Int→BA→Option (Int×Int×BA)
 |0,_,_,_=>none
 |n+1,x0,x1,x2=>(qHx n x0 x1 x2).run
abbrev qRD (n:Nat):List (Ent (Rn n)):= [en (qRB n)]
theorem qPy:∀n,Ok (Rn n) qRC (qFf n)
 |0=>ok0 fun _=>rfl
 |n+1=>stO (T:=qHx n) (by kernel_rfl) (qRD n) [] (fun _=>(by kernel_rfl)) fun _=>(by kernel_rfl)
def qPz:Sg:=⟨13,[aL],[],⟨(.c (.own 0 0 0 0)),[],[⟨0,3,72,(.row [])⟩]⟩⟩
def qCh (n:Nat) (v:RW×Nat×Int×RW):Tr ((RW×Nat×Int×RW)⊕((Nat×RW))):=(.ask ((decide (v.2.2.1<(v.1.length:Int)))) (.ask (decide (0≤v.2.2.1∧v.2.2.1<v.1.length)) (.opt (v.1[(v.2.2.1).toNat]?) fun e28=>(.ask (decide (e28.length=3)) (.opt (zC .i64 e28 0) fun y29=>(.opt (zC .i64 e28 1) fun y30=>(.opt (zR e28 2) fun y31=>(.opt (qFf n y29 y30 y31) fun r32=>(.ask (decide (v.2.1=v.2.2.2.length∧0≤v.2.2.1∧v.2.2.1<((v.2.1:Nat):Int))) (.opt (v.2.2.2[(v.2.2.1).toNat]?) fun e33=>(.ask (decide (0+3≤e33.length)) (.done (.inl (v.1,v.2.1,(IntKind.i64.wrap (v.2.2.1+(1:Int))),(v.2.2.2.set (v.2.2.1).toNat (zi e33 0 [(.i .i64 r32.1),(.i .i64 r32.2.1),(.s r32.2.2)]))))) .fail)) .fail))))) .fail)) .fail) (.done (.inr ((v.2.1,v.2.2.2)))))
def qGl (n:Nat) (x0:RW):Tr (Nat×RW):=(.ask (decide (0≤(x0.length:Int)∧(x0.length:Int)=(x0.length:Int)∧32*(x0.length:Int)≤140737488355328∧(x0.length:Int)≤9223372036854775807)) (.opt (zD (qCh n) n (x0,((x0.length:Int)).toNat,(0:Int),(zAK [(.i .i64 (0:Int)),(.i .i64 (0:Int)),(.s (⟨#[]⟩:BA))] ((x0.length:Int)).toNat))) fun r34=>(.done (r34.1,r34.2))) .fail)
def qEq:Nat→RW→Option (Nat×RW)
 |0,_=>none
 |n+1,x0=>(qGl n x0).run
abbrev qKD (n:Nat):List (Ent (Rn n)):= [en (qPy n)]
def qMq (n:Nat):LEnt (KB 13) (Rn n) n:=lok (zK 13) 29 ⟨⟨[(0,aL),(3,(.c (.own 0 448 0 0))),(4,aI)],[(448,⟨0,3,72,(.row [])⟩)],[]⟩,[(.exit 0,⟨[(3,(.c (.own 0 448 0 0)))],[(448,⟨0,3,72,(.row [])⟩)],[]⟩)]⟩ (qCh n) (qKD n) [] fun _=>(by kernel_rfl)
theorem qO3:∀n,Ok (Rn n) qPz (qEq n)
 |0=>ok0 fun _=>rfl
 |n+1=>stO (T:=qGl n) (by kernel_rfl) (qKD n) [qMq n] (fun _=>(by kernel_rfl)) fun _=>(by kernel_rfl)
def qNs:Sg:=⟨107,[(.agg [qI,qL,qL])],[],⟨(.agg [qI,qL,qL]),[],[]⟩⟩
def qFS (n:Nat) (x0:Int) (x1 x2:RW):Tr (Int×RW×RW):=(.opt (qEN n x1) fun r27=>(.opt (qEq n x2) fun r35=>(.ask (decide (r27.1=r27.2.length)) (.ask (decide (r35.1=r35.2.length)) (.done (x0,r27.2,r35.2)) .fail) .fail)))
def qDu:Nat→Int→RW→RW→Option (Int×RW×RW)
 |0,_,_,_=>none
 |n+1,x0,x1,x2=>(qFS n x0 x1 x2).run
abbrev qNt (n:Nat):List (Ent (Rn n)):= [en (qNr n),en (qO3 n)]
theorem qMr:∀n,Ok (Rn n) qNs (qDu n)
 |0=>ok0 fun _=>rfl
 |n+1=>stO (T:=qFS n) (by kernel_rfl) (qNt n) [] (fun _=>(by kernel_rfl)) fun _=>(by kernel_rfl)
def qMs:Sg:=⟨65,[aL],[],⟨(.c (.own 0 0 0 0)),[],[⟨0,3,96,(.row [])⟩]⟩⟩
def qB5 (n:Nat) (v:RW×Nat×Int×RW):Tr ((RW×Nat×Int×RW)⊕((Nat×RW))):=(.ask ((decide (v.2.2.1<(v.1.length:Int)))) (.ask (decide (0≤v.2.2.1∧v.2.2.1<v.1.length)) (.opt (v.1[(v.2.2.1).toNat]?) fun e19=>(.ask (decide (e19.length=3)) (.opt (zC .i64 e19 0) fun y20=>(.opt (zd e19 1) fun y21=>(.opt (zd e19 2) fun y22=>(.opt (qDu n y20 y21 y22) fun r23=>(.ask (decide (v.2.1=v.2.2.2.length∧0≤v.2.2.1∧v.2.2.1<((v.2.1:Nat):Int))) (.opt (v.2.2.2[(v.2.2.1).toNat]?) fun e24=>(.ask (decide (0+3≤e24.length)) (.done (.inl (v.1,v.2.1,(IntKind.i64.wrap (v.2.2.1+(1:Int))),(v.2.2.2.set (v.2.2.1).toNat (zi e24 0 [(.i .i64 r23.1),(.ls r23.2.1),(.ls r23.2.2)]))))) .fail)) .fail))))) .fail)) .fail) (.done (.inr ((v.2.1,v.2.2.2)))))
def qEr (n:Nat) (x0:RW):Tr (Nat×RW):=(.ask (decide (0≤(x0.length:Int)∧(x0.length:Int)=(x0.length:Int)∧56*(x0.length:Int)≤140737488355328∧(x0.length:Int)≤9223372036854775807)) (.opt (zD (qB5 n) n (x0,((x0.length:Int)).toNat,(0:Int),(zAK [(.i .i64 (0:Int)),.nl,.nl] ((x0.length:Int)).toNat))) fun r25=>(.done (r25.1,r25.2))) .fail)
def qDZ:Nat→RW→Option (Nat×RW)
 |0,_=>none
 |n+1,x0=>(qEr n x0).run
abbrev qHa (n:Nat):List (Ent (Rn n)):= [en (qMr n)]
def qKE (n:Nat):LEnt (KB 65) (Rn n) n:=lok (zK 65) 29 ⟨⟨[(0,aL),(3,(.c (.own 0 448 0 0))),(4,aI)],[(448,⟨0,3,96,(.row [])⟩)],[]⟩,[(.exit 0,⟨[(3,(.c (.own 0 448 0 0)))],[(448,⟨0,3,96,(.row [])⟩)],[]⟩)]⟩ (qB5 n) (qHa n) [] fun _=>(by kernel_rfl)
theorem qL4:∀n,Ok (Rn n) qMs (qDZ n)
 |0=>ok0 fun _=>rfl
 |n+1=>stO (T:=qEr n) (by kernel_rfl) (qHa n) [qKE n] (fun _=>(by kernel_rfl)) fun _=>(by kernel_rfl)
def qO4:Sg:=⟨108,[(.agg [qS,qI])],[],⟨(.agg [qS,qI]),[],[]⟩⟩
def qJY (n:Nat) (x0:BA) (x1:Int):Tr (BA×Int):=(.done (x0,x1))
def qF8:Nat→BA→Int→Option (BA×Int)
 |0,_,_=>none
 |n+1,x0,x1=>(qJY n x0 x1).run
theorem qNu:∀n,Ok (Rn n) qO4 (qF8 n)
 |0=>ok0 fun _=>rfl
 |n+1=>stO (T:=qJY n) (by kernel_rfl) [] [] (fun _=>(by kernel_rfl)) fun _=>(by kernel_rfl)
def qNv:Sg:=⟨66,[aL],[],⟨(.c (.own 0 0 0 0)),[],[⟨0,2,99,(.row [])⟩]⟩⟩
def qCC (n:Nat) (v:RW×Nat×Int×RW):Tr ((RW×Nat×Int×RW)⊕((Nat×RW))):=(.ask ((decide (v.2.2.1<(v.1.length:Int)))) (.ask (decide (0≤v.2.2.1∧v.2.2.1<v.1.length)) (.opt (v.1[(v.2.2.1).toNat]?) fun e27=>(.ask (decide (e27.length=2)) (.opt (zR e27 0) fun y28=>(.opt (zC .i64 e27 1) fun y29=>(.opt (qF8 n y28 y29) fun r30=>(.ask (decide (v.2.1=v.2.2.2.length∧0≤v.2.2.1∧v.2.2.1<((v.2.1:Nat):Int))) (.opt (v.2.2.2[(v.2.2.1).toNat]?) fun e31=>(.ask (decide (0+2≤e31.length)) (.done (.inl (v.1,v.2.1,(IntKind.i64.wrap (v.2.2.1+(1:Int))),(v.2.2.2.set (v.2.2.1).toNat (zi e31 0 [(.s r30.1),(.i .i64 r30.2)]))))) .fail)) .fail)))) .fail)) .fail) (.done (.inr ((v.2.1,v.2.2.2)))))
def qFT (n:Nat) (x0:RW):Tr (Nat×RW):=(.ask (decide (0≤(x0.length:Int)∧(x0.length:Int)=(x0.length:Int)∧24*(x0.length:Int)≤140737488355328∧(x0.length:Int)≤9223372036854775807)) (.opt (zD (qCC n) n (x0,((x0.length:Int)).toNat,(0:Int),(zAK [(.s (⟨#[]⟩:BA)),(.i .i64 (0:Int))] ((x0.length:Int)).toNat))) fun r32=>(.done (r32.1,r32.2))) .fail)
def qDv:Nat→RW→Option (Nat×RW)
 |0,_=>none
 |n+1,x0=>(qFT n x0).run
abbrev qIU (n:Nat):List (Ent (Rn n)):= [en (qNu n)]
def qLJ (n:Nat):LEnt (KB 66) (Rn n) n:=lok (zK 66) 29 ⟨⟨[(0,aL),(3,(.c (.own 0 448 0 0))),(4,aI)],[(448,⟨0,2,99,(.row [])⟩)],[]⟩,[(.exit 0,⟨[(3,(.c (.own 0 448 0 0)))],[(448,⟨0,2,99,(.row [])⟩)],[]⟩)]⟩ (qCC n) (qIU n) [] fun _=>(by kernel_rfl)
theorem qMt:∀n,Ok (Rn n) qNv (qDv n)
 |0=>ok0 fun _=>rfl
 |n+1=>stO (T:=qFT n) (by kernel_rfl) (qIU n) [qLJ n] (fun _=>(by kernel_rfl)) fun _=>(by kernel_rfl)
def qSN:Sg:=⟨26,[(.agg [qI,qL,qL])],[],⟨(.agg [qI,qL,qL]),[],[]⟩⟩
def qIz (n:Nat) (x0:Int) (x1 x2:RW):Tr (Int×RW×RW):=(.opt (qDZ n x1) fun r26=>(.opt (qDv n x2) fun r33=>(.ask (decide (r26.1=r26.2.length)) (.ask (decide (r33.1=r33.2.length)) (.done (x0,r26.2,r33.2)) .fail) .fail)))
def qEs:Nat→Int→RW→RW→Option (Int×RW×RW)
 |0,_,_,_=>none
 |n+1,x0,x1,x2=>(qIz n x0 x1 x2).run
abbrev qSO (n:Nat):List (Ent (Rn n)):= [en (qL4 n),en (qMt n)]
theorem qRE:∀n,Ok (Rn n) qSN (qEs n)
 |0=>ok0 fun _=>rfl
 |n+1=>stO (T:=qIz n) (by kernel_rfl) (qSO n) [] (fun _=>(by kernel_rfl)) fun _=>(by kernel_rfl)
def qS5:Sg:=⟨54,[aI,aI,aI],[],⟨aB,[],[]⟩⟩
def qHb (n:Nat) (x0 x1 x2:Int):Tr (Bool):=(.ask ((decide (x0≥x1))) (.done (decide (x0≤x2))) (.done false))
def qAx:Nat→Int→Int→Int→Option (Bool)
 |0,_,_,_=>none
 |n+1,x0,x1,x2=>(qHb n x0 x1 x2).run
theorem qDw:∀n,Ok (Rn n) qS5 (qAx n)
 |0=>ok0 fun _=>rfl
 |n+1=>stO (T:=qHb n) (by kernel_rfl) [] [] (fun _=>(by kernel_rfl)) fun _=>(by kernel_rfl)
def qP0:Sg:=⟨92,[aS],[],⟨aB,[],[]⟩⟩
def qBb (n:Nat) (v:BA×Int):Tr ((BA×Int)⊕((Bool)⊕(BA))):=(.ask ((decide (v.2<(v.1.size:Int)))) (.ask (decide (0≤v.2)) (.opt (v.1.toList[(v.2).toNat]?) fun c45=>(.ask ((decide ((c45.toNat:Int)<(32:Int)))) (.done (.inr (.inl (false)))) (.ask (decide (0≤v.2)) (.opt (v.1.toList[(v.2).toNat]?) fun c46=>(.ask ((decide ((c46.toNat:Int)>(126:Int)))) (.done (.inr (.inl (false)))) (.done (.inl (v.1,(IntKind.i64.wrap (v.2+(1:Int)))))))) .fail))) .fail) (.done (.inr (.inr (v.1)))))
def qGm (n:Nat) (x0:BA):Tr (Bool):=(.opt (zD (qBb n) n (x0,(0:Int))) fun r47=>(.alt r47 (fun r48=>(.done r48)) (fun r49=>(.done (decide ((r49.size:Int)≤(200:Int)))))))
def qCR:Nat→BA→Option (Bool)
 |0,_=>none
 |n+1,x0=>(qGm n x0).run
def qMu (n:Nat):LEnt (KB 92) (Rn n) n:=lok (zK 92) 13 ⟨⟨[(0,aS),(3,aI)],[],[]⟩,[(.ret,⟨[(2,aB)],[],[]⟩),(.exit 0,⟨[(0,aS)],[],[]⟩)]⟩ (qBb n) [] [] fun _=>(by kernel_rfl)
theorem qF9:∀n,Ok (Rn n) qP0 (qCR n)
 |0=>ok0 fun _=>rfl
 |n+1=>stO (T:=qGm n) (by kernel_rfl) [] [qMu n] (fun _=>(by kernel_rfl)) fun _=>(by kernel_rfl)
def qL5:Sg:=⟨135,[(.c (.ptr 0 0 0 0 0))],[[(0,⟨0,4,175,(.box [qS,qI,qB,(.own 0 1 1 0)])⟩),(1,⟨1,14,162,(.row [])⟩)]],⟨(.tup []),[[(0,⟨0,4,175,(.box [qS,qI,qB,(.own 0 1 1 0)])⟩),(1,⟨1,14,162,(.row [])⟩)]],[]⟩⟩
def qDe (n:Nat) (v:BA×Int×Bool×Nat×RW):Tr ((BA×Int×Bool×Nat×RW)⊕((BA×Int×Bool×Nat×RW))):=(.ask ((decide (v.2.1<(v.1.size:Int)))) (.ask (decide (0≤v.2.1)) (.opt (v.1.toList[(v.2.1).toNat]?) fun c53=>(.ask (((c53.toNat:Int)==(32:Int))) (.done (.inl (v.1,(IntKind.i64.wrap (v.2.1+(1:Int))),v.2.2.1,v.2.2.2.1,v.2.2.2.2))) (.done (.inr ((v.1,v.2.1,v.2.2.1,v.2.2.2.1,v.2.2.2.2)))))) .fail) (.done (.inr ((v.1,v.2.1,v.2.2.1,v.2.2.2.1,v.2.2.2.2)))))
def qGn (n:Nat) (x0:BA) (x1:Int) (x2:Bool) (x3:Nat) (x4:RW):Tr (BA×Int×Bool×Nat×RW):=(.opt (zD (qDe n) n (x0,x1,x2,x3,x4)) fun r54=>(.done (r54.1,r54.2.1,r54.2.2.1,r54.2.2.2.1,r54.2.2.2.2)))
def qBo:Nat→BA→Int→Bool→Nat→RW→Option (BA×Int×Bool×Nat×RW)
 |0,_,_,_,_,_=>none
 |n+1,x0,x1,x2,x3,x4=>(qGn n x0 x1 x2 x3 x4).run
def qKF (n:Nat):LEnt (KB 135) (Rn n) n:=lok (zK 135) 1 ⟨⟨[(0,(.c (.ptr 0 0 0 0 0)))],[],[[(0,⟨0,4,175,(.box [qS,qI,qB,(.own 0 1 1 0)])⟩),(1,⟨1,14,162,(.row [])⟩)]]⟩,[(.exit 0,⟨[],[],[[(0,⟨0,4,175,(.box [qS,qI,qB,(.own 0 1 1 0)])⟩),(1,⟨1,14,162,(.row [])⟩)]]⟩)]⟩ (qDe n) [] [] fun _=>(by kernel_rfl)
theorem qD5:∀n,Ok (Rn n) qL5 (qBo n)
 |0=>ok0 fun _=>rfl
 |n+1=>stO (T:=qGn n) (by kernel_rfl) [] [qKF n] (fun _=>(by kernel_rfl)) fun _=>(by kernel_rfl)
def qP1:Sg:=⟨208,[(.c (.ptr 0 0 0 0 0)),aS],[[(0,⟨0,4,175,(.box [qS,qI,qB,(.own 0 1 1 0)])⟩),(1,⟨1,14,162,(.row [])⟩)]],⟨aB,[[(0,⟨0,4,175,(.box [qS,qI,qB,(.own 0 1 1 0)])⟩),(1,⟨1,14,162,(.row [])⟩)]],[]⟩⟩
def qKG (n:Nat) (x0 x1:BA) (x2:Int) (x3:Bool) (x4:Nat) (x5:RW):Tr (Bool×BA×Int×Bool×Nat×RW):=(.opt (qBo n x1 x2 x3 x4 x5) fun r55=>(.ask (r55.2.2.1) (.done (false,r55.1,r55.2.1,r55.2.2.1,r55.2.2.2.1,r55.2.2.2.2)) (.ask ((decide ((IntKind.i64.wrap (r55.2.1+(x0.size:Int)))>(r55.1.size:Int)))) (.done (false,r55.1,r55.2.1,r55.2.2.1,r55.2.2.2.1,r55.2.2.2.2)) (.ask (decide (0≤r55.2.1∧r55.2.1≤(IntKind.i64.wrap (r55.2.1+(x0.size:Int)))∧(IntKind.i64.wrap (r55.2.1+(x0.size:Int)))≤r55.1.size)) (.ask ((!((r55.1.extract (r55.2.1).toNat ((IntKind.i64.wrap (r55.2.1+(x0.size:Int)))).toNat).toList==x0.toList))) (.done (false,r55.1,r55.2.1,r55.2.2.1,r55.2.2.2.1,r55.2.2.2.2)) (.done (true,r55.1,(IntKind.i64.wrap (r55.2.1+(x0.size:Int))),r55.2.2.1,r55.2.2.2.1,r55.2.2.2.2))) .fail))))
def qAJ:Nat→BA→BA→Int→Bool→Nat→RW→Option (Bool×BA×Int×Bool×Nat×RW)
 |0,_,_,_,_,_,_=>none
 |n+1,x0,x1,x2,x3,x4,x5=>(qKG n x0 x1 x2 x3 x4 x5).run
abbrev qP2 (n:Nat):List (Ent (Rn n)):= [en (qD5 n)]
theorem qEO:∀n,Ok (Rn n) qP1 (qAJ n)
 |0=>ok0 fun _=>rfl
 |n+1=>stO (T:=qKG n) (by kernel_rfl) (qP2 n) [] (fun _=>(by kernel_rfl)) fun _=>(by kernel_rfl)
def qP3:Sg:=⟨139,[(.agg [qI,qI,qS])],[],⟨aB,[],[]⟩⟩
def qGo (n:Nat) (x0 x1:Int) (x2:BA):Tr (Bool):=(.ask ((x0==(0:Int))) (.ask ((x1==(0:Int))) (.done (x2.toList==(⟨#[]⟩:BA).toList)) (.done false)) (.ask ((x0==(1:Int))) (.opt (qAx n x1 (-1000000000000000:Int) (1000000000000000:Int)) fun r58=>(.ask (r58) (.done (x2.toList==(⟨#[]⟩:BA).toList)) (.done false))) (.ask ((x0==(2:Int))) (.ask ((x1==(0:Int))) (.opt (qCR n x2) fun r59=>(.done r59)) (.done false)) (.ask ((x0==(3:Int))) (.opt (qAx n x1 (0:Int) (1:Int)) fun r60=>(.ask (r60) (.done (x2.toList==(⟨#[]⟩:BA).toList)) (.done false))) (.ask ((x0==(4:Int))) (.opt (qAx n x1 (1:Int) (5:Int)) fun r61=>(.ask (r61) (.done (x2.toList==(⟨#[]⟩:BA).toList)) (.done false))) (.done false))))))
def qY:Nat→Int→Int→BA→Option (Bool)
 |0,_,_,_=>none
 |n+1,x0,x1,x2=>(qGo n x0 x1 x2).run
abbrev qP4 (n:Nat):List (Ent (Rn n)):= [en (qDw n),en (qF9 n)]
theorem qEP:∀n,Ok (Rn n) qP3 (qY n)
 |0=>ok0 fun _=>rfl
 |n+1=>stO (T:=qGo n) (by kernel_rfl) (qP4 n) [] (fun _=>(by kernel_rfl)) fun _=>(by kernel_rfl)
def qSP:Sg:=⟨51,[(.agg [qI,qI])],[],⟨aB,[],[]⟩⟩
def qI0 (n:Nat) (x0 x1:Int):Tr (Bool):=(.opt (qAx n x0 (1:Int) (52:Int)) fun r63=>(.ask (r63) (.opt (qAx n x1 (1:Int) (99:Int)) fun r64=>(.done r64)) (.done false)))
def qAO:Nat→Int→Int→Option (Bool)
 |0,_,_=>none
 |n+1,x0,x1=>(qI0 n x0 x1).run
abbrev qSQ (n:Nat):List (Ent (Rn n)):= [en (qDw n)]
theorem qEG:∀n,Ok (Rn n) qSP (qAO n)
 |0=>ok0 fun _=>rfl
 |n+1=>stO (T:=qI0 n) (by kernel_rfl) (qSQ n) [] (fun _=>(by kernel_rfl)) fun _=>(by kernel_rfl)
def qRF:Sg:=⟨214,[(.agg [qI,qI,qI,qI])],[],⟨aB,[],[]⟩⟩
def qHy (n:Nat) (x0 x1 x2 x3:Int):Tr (Bool):=(.opt (qAO n x0 x1) fun r66=>(.ask (r66) (.opt (qAO n x2 x3) fun r67=>(.ask (r67) (.ask ((decide (x0≤x2))) (.done (decide (x1≤x3))) (.done false)) (.done false))) (.done false)))
def qFg:Nat→Int→Int→Int→Int→Option (Bool)
 |0,_,_,_,_=>none
 |n+1,x0,x1,x2,x3=>(qHy n x0 x1 x2 x3).run
abbrev qRG (n:Nat):List (Ent (Rn n)):= [en (qEG n)]
theorem qP5:∀n,Ok (Rn n) qRF (qFg n)
 |0=>ok0 fun _=>rfl
 |n+1=>stO (T:=qHy n) (by kernel_rfl) (qRG n) [] (fun _=>(by kernel_rfl)) fun _=>(by kernel_rfl)
def qRH:Sg:=⟨215,[aI,aI],[],⟨aB,[],[]⟩⟩
def qHz (n:Nat) (x0 x1:Int):Tr (Bool):=(.ask ((x0==(1:Int))) (.ask ((decide (x1≥(1:Int)))) (.done (decide (x1≤(10:Int)))) (.done false)) (.ask ((x0==(2:Int))) (.ask ((decide (x1≥(1:Int)))) (.done (decide (x1≤(10:Int)))) (.done false)) (.ask ((x0==(3:Int))) (.ask ((decide (x1≥(1:Int)))) (.done (decide (x1≤(10:Int)))) (.done false)) (.ask ((x0==(4:Int))) (.ask ((decide (x1≥(1:Int)))) (.done (decide (x1≤(10:Int)))) (.done false)) (.ask ((x0==(6:Int))) (.ask ((decide (x1≥(1:Int)))) (.done (decide (x1≤(10:Int)))) (.done false)) (.ask ((x0==(7:Int))) (.ask ((decide (x1≥(1:Int)))) (.done (decide (x1≤(10:Int)))) (.done false)) (.ask ((x0==(5:Int))) (.ask ((x1==(2:Int))) (.done true) (.done (x1==(3:Int)))) (.ask ((x0==(8:Int))) (.done (x1==(1:Int))) (.ask ((x0==(9:Int))) (.done (x1==(1:Int))) (.ask ((x0==(10:Int))) (.done (x1==(1:Int))) (.done false)))))))))))
def qFh:Nat→Int→Int→Option (Bool)
 |0,_,_=>none
 |n+1,x0,x1=>(qHz n x0 x1).run
theorem qP6:∀n,Ok (Rn n) qRH (qFh n)
 |0=>ok0 fun _=>rfl
 |n+1=>stO (T:=qHz n) (by kernel_rfl) [] [] (fun _=>(by kernel_rfl)) fun _=>(by kernel_rfl)
def qO5:Sg:=⟨176,[(.agg [qI,qI,qI,qI,qS,qI,qI,qB,qB,qI,qI,qB,qB,qL])],[],⟨aB,[],[]⟩⟩
def qGA (n:Nat) (x0 x1 x2 x3:Int) (x4:BA) (x5 x6:Int) (x7 x8:Bool) (x9 x10:Int) (x11 x12:Bool) (x13:RW):Tr (Bool):=(.ask ((x0==(1:Int))) (.ask ((x1==(0:Int))) (.ask (((x5==(0:Int))&&((x6==(0:Int))&&((x7==false)&&((x8==false)&&true))))) (.ask (((x9==(0:Int))&&((x10==(0:Int))&&((x11==false)&&((x12==false)&&true))))) (.ask (((x13.length:Int)==(0:Int))) (.opt (qY n x2 x3 x4) fun r62=>(.ask (r62) (.ask ((x2 !=(0:Int))) (.ask ((x2 !=(1:Int))) (.done true) (.done (decide (x3≥(0:Int))))) (.done false)) (.done false))) (.done false)) (.done false)) (.done false)) (.done false)) (.ask ((x0==(2:Int))) (.ask ((x1==(0:Int))) (.ask (((x2==(0:Int))&&((x3==(0:Int))&&((x4.toList==(⟨#[]⟩:BA).toList)&&true)))) (.ask (((x9==(0:Int))&&((x10==(0:Int))&&((x11==false)&&((x12==false)&&true))))) (.ask (((x13.length:Int)==(0:Int))) (.opt (qAO n x5 x6) fun r65=>(.done r65)) (.done false)) (.done false)) (.done false)) (.done false)) (.ask ((x0==(3:Int))) (.ask ((x1==(0:Int))) (.ask (((x2==(0:Int))&&((x3==(0:Int))&&((x4.toList==(⟨#[]⟩:BA).toList)&&true)))) (.ask (((x13.length:Int)==(0:Int))) (.opt (qFg n x5 x6 x9 x10) fun r68=>(.done r68)) (.done false)) (.done false)) (.done false)) (.ask ((x0==(4:Int))) (.ask ((x1==(0:Int))) (.ask (((x2==(0:Int))&&((x3==(0:Int))&&((x4.toList==(⟨#[]⟩:BA).toList)&&true)))) (.ask (((x5==(0:Int))&&((x6==(0:Int))&&((x7==false)&&((x8==false)&&true))))) (.ask (((x9==(0:Int))&&((x10==(0:Int))&&((x11==false)&&((x12==false)&&true))))) (.done ((x13.length:Int)==(1:Int))) (.done false)) (.done false)) (.done false)) (.done false)) (.ask ((x0==(5:Int))) (.opt (qAx n x1 (1:Int) (11:Int)) fun r69=>(.ask (r69) (.ask (((x2==(0:Int))&&((x3==(0:Int))&&((x4.toList==(⟨#[]⟩:BA).toList)&&true)))) (.ask (((x5==(0:Int))&&((x6==(0:Int))&&((x7==false)&&((x8==false)&&true))))) (.ask (((x9==(0:Int))&&((x10==(0:Int))&&((x11==false)&&((x12==false)&&true))))) (.done ((x13.length:Int)==(2:Int))) (.done false)) (.done false)) (.done false)) (.done false))) (.ask ((x0==(6:Int))) (.opt (qFh n x1 (x13.length:Int)) fun r70=>(.ask (r70) (.ask (((x2==(0:Int))&&((x3==(0:Int))&&((x4.toList==(⟨#[]⟩:BA).toList)&&true)))) (.ask (((x5==(0:Int))&&((x6==(0:Int))&&((x7==false)&&((x8==false)&&true))))) (.done ((x9==(0:Int))&&((x10==(0:Int))&&((x11==false)&&((x12==false)&&true))))) (.done false)) (.done false)) (.done false))) (.done false)))))))
def qCB:Nat→Int→Int→Int→Int→BA→Int→Int→Bool→Bool→Int→Int→Bool→Bool→RW→Option (Bool)
 |0,_,_,_,_,_,_,_,_,_,_,_,_,_,_=>none
 |n+1,x0,x1,x2,x3,x4,x5,x6,x7,x8,x9,x10,x11,x12,x13=>(qGA n x0 x1 x2 x3 x4 x5 x6 x7 x8 x9 x10 x11 x12 x13).run
abbrev qO6 (n:Nat):List (Ent (Rn n)):= [en (qEP n),en (qEG n),en (qP5 n),en (qDw n),en (qP6 n)]
theorem qIV:∀n,Ok (Rn n) qO5 (qCB n)
 |0=>ok0 fun _=>rfl
 |n+1=>stO (T:=qGA n) (by kernel_rfl) (qO6 n) [] (fun _=>(by kernel_rfl)) fun _=>(by kernel_rfl)
def qO7:Sg:=⟨175,[(.c (.ptr 0 0 0 0 0)),(.agg [qI,qI,qI,qI,qS,qI,qI,qB,qB,qI,qI,qB,qB,qL])],[[(0,⟨0,4,175,(.box [qS,qI,qB,(.own 0 1 1 0)])⟩),(1,⟨1,14,162,(.row [])⟩)]],⟨aI,[[(0,⟨0,4,175,(.box [qS,qI,qB,(.own 0 1 1 0)])⟩),(1,⟨1,14,162,(.row [])⟩)]],[]⟩⟩
def qJZ (n:Nat) (x0 x1 x2 x3:Int) (x4:BA) (x5 x6:Int) (x7 x8:Bool) (x9 x10:Int) (x11 x12:Bool) (x13:RW) (x14:BA) (x15:Int) (x16:Bool) (x17:Nat) (x18:RW):Tr (Int×BA×Int×Bool×Nat×RW):=(.ask (decide (1=([[(.i .i64 x0),(.i .i64 x1),(.i .i64 x2),(.i .i64 x3),(.s x4),(.i .i64 x5),(.i .i64 x6),(.b x7),(.b x8),(.i .i64 x9),(.i .i64 x10),(.b x11),(.b x12),(.ls x13)]]:RW).length)) (.ask (decide (x17=x18.length∧0<14∧0<120∧(x17+([[(.i .i64 x0),(.i .i64 x1),(.i .i64 x2),(.i .i64 x3),(.s x4),(.i .i64 x5),(.i .i64 x6),(.b x7),(.b x8),(.i .i64 x9),(.i .i64 x10),(.b x11),(.b x12),(.ls x13)]]:RW).length)*120≤140737488355328∧([[(.i .i64 x0),(.i .i64 x1),(.i .i64 x2),(.i .i64 x3),(.s x4),(.i .i64 x5),(.i .i64 x6),(.b x7),(.b x8),(.i .i64 x9),(.i .i64 x10),(.b x11),(.b x12),(.ls x13)]]:RW).all (fun e=>e.length==14)=true)) (.ask ((decide ((((x17+1):Nat):Int)>(60:Int)))) (.done ((IntKind.i64.wrap ((((x17+1):Nat):Int)-(1:Int))),x14,x15,true,(x17+1),(x18++([[(.i .i64 x0),(.i .i64 x1),(.i .i64 x2),(.i .i64 x3),(.s x4),(.i .i64 x5),(.i .i64 x6),(.b x7),(.b x8),(.i .i64 x9),(.i .i64 x10),(.b x11),(.b x12),(.ls x13)]]:RW)))) (.opt (qCB n x0 x1 x2 x3 x4 x5 x6 x7 x8 x9 x10 x11 x12 x13) fun r71=>(.ask ((!r71)) (.done ((IntKind.i64.wrap ((((x17+1):Nat):Int)-(1:Int))),x14,x15,true,(x17+1),(x18++([[(.i .i64 x0),(.i .i64 x1),(.i .i64 x2),(.i .i64 x3),(.s x4),(.i .i64 x5),(.i .i64 x6),(.b x7),(.b x8),(.i .i64 x9),(.i .i64 x10),(.b x11),(.b x12),(.ls x13)]]:RW)))) (.done ((IntKind.i64.wrap ((((x17+1):Nat):Int)-(1:Int))),x14,x15,x16,(x17+1),(x18++([[(.i .i64 x0),(.i .i64 x1),(.i .i64 x2),(.i .i64 x3),(.s x4),(.i .i64 x5),(.i .i64 x6),(.b x7),(.b x8),(.i .i64 x9),(.i .i64 x10),(.b x11),(.b x12),(.ls x13)]]:RW))))))) .fail) .fail)
def qv:Nat→Int→Int→Int→Int→BA→Int→Int→Bool→Bool→Int→Int→Bool→Bool→RW→BA→Int→Bool→Nat→RW→Option (Int×BA×Int×Bool×Nat×RW)
 |0,_,_,_,_,_,_,_,_,_,_,_,_,_,_,_,_,_,_,_=>none
 |n+1,x0,x1,x2,x3,x4,x5,x6,x7,x8,x9,x10,x11,x12,x13,x14,x15,x16,x17,x18=>(qJZ n x0 x1 x2 x3 x4 x5 x6 x7 x8 x9 x10 x11 x12 x13 x14 x15 x16 x17 x18).run
abbrev qO8 (n:Nat):List (Ent (Rn n)):= [en (qIV n)]
theorem qC6:∀n,Ok (Rn n) qO7 (qv n)
 |0=>ok0 fun _=>rfl
 |n+1=>stO (T:=qJZ n) (by kernel_rfl) (qO8 n) [] (fun _=>(by kernel_rfl)) fun _=>(by kernel_rfl)
def qNw:Sg:=⟨209,[(.c (.ptr 0 0 0 0 0))],[[(0,⟨0,4,175,(.box [qS,qI,qB,(.own 0 1 1 0)])⟩),(1,⟨1,14,162,(.row [])⟩)]],⟨aI,[[(0,⟨0,4,175,(.box [qS,qI,qB,(.own 0 1 1 0)])⟩),(1,⟨1,14,162,(.row [])⟩)]],[]⟩⟩
def qD6 (n:Nat) (v:BA×BA×Int×Bool×Nat×RW):Tr ((BA×BA×Int×Bool×Nat×RW)⊕((Int×BA×Int×Bool×Nat×RW)⊕(BA×Int×Bool×Nat×RW))):=(.ask ((decide (v.2.2.1<(v.2.1.size:Int)))) (.ask (decide (0≤v.2.2.1)) (.opt (v.2.1.toList[(v.2.2.1).toNat]?) fun c77=>(.ask (((c77.toNat:Int) !=(34:Int))) (.ask (decide (0≤v.2.2.1∧v.2.2.1≤(IntKind.i64.wrap (v.2.2.1+(1:Int)))∧(IntKind.i64.wrap (v.2.2.1+(1:Int)))≤v.2.1.size)) (.ask (decide (v.1.size+(v.2.1.extract (v.2.2.1).toNat ((IntKind.i64.wrap (v.2.2.1+(1:Int)))).toNat).size≤9223372036854775807)) (.done (.inl ((v.1++(v.2.1.extract (v.2.2.1).toNat ((IntKind.i64.wrap (v.2.2.1+(1:Int)))).toNat)),v.2.1,(IntKind.i64.wrap (v.2.2.1+(1:Int))),v.2.2.2.1,v.2.2.2.2.1,v.2.2.2.2.2))) .fail) .fail) (.ask ((decide ((IntKind.i64.wrap (v.2.2.1+(1:Int)))≥(v.2.1.size:Int)))) (.opt (qv n (1:Int) (0:Int) (2:Int) (0:Int) v.1 (0:Int) (0:Int) false false (0:Int) (0:Int) false false ([]:RW) v.2.1 (IntKind.i64.wrap (v.2.2.1+(1:Int))) v.2.2.2.1 v.2.2.2.2.1 v.2.2.2.2.2) fun r78=>(.done (.inr (.inl ((r78.1,r78.2.1,r78.2.2.1,r78.2.2.2.1,r78.2.2.2.2.1,r78.2.2.2.2.2)))))) (.ask (decide (0≤(IntKind.i64.wrap (v.2.2.1+(1:Int))))) (.opt (v.2.1.toList[((IntKind.i64.wrap (v.2.2.1+(1:Int)))).toNat]?) fun c79=>(.ask (((c79.toNat:Int) !=(34:Int))) (.opt (qv n (1:Int) (0:Int) (2:Int) (0:Int) v.1 (0:Int) (0:Int) false false (0:Int) (0:Int) false false ([]:RW) v.2.1 (IntKind.i64.wrap (v.2.2.1+(1:Int))) v.2.2.2.1 v.2.2.2.2.1 v.2.2.2.2.2) fun r80=>(.done (.inr (.inl ((r80.1,r80.2.1,r80.2.2.1,r80.2.2.2.1,r80.2.2.2.2.1,r80.2.2.2.2.2)))))) (.ask (decide (v.1.size+(⟨#[34]⟩:BA).size≤9223372036854775807)) (.done (.inl ((v.1++(⟨#[34]⟩:BA)),v.2.1,(IntKind.i64.wrap ((IntKind.i64.wrap (v.2.2.1+(1:Int)))+(1:Int))),v.2.2.2.1,v.2.2.2.2.1,v.2.2.2.2.2))) .fail))) .fail)))) .fail) (.done (.inr (.inr ((v.2.1,v.2.2.1,v.2.2.2.1,v.2.2.2.2.1,v.2.2.2.2.2))))))
def qIW (n:Nat) (x0:BA) (x1:Int) (x2:Bool) (x3:Nat) (x4:RW):Tr (Int×BA×Int×Bool×Nat×RW):=(.opt (zD (qD6 n) n ((⟨#[]⟩:BA),x0,x1,x2,x3,x4)) fun r81=>(.alt r81 (fun r82=>(.done (r82.1,r82.2.1,r82.2.2.1,r82.2.2.2.1,r82.2.2.2.2.1,r82.2.2.2.2.2))) (fun r83=>(.done ((0:Int),r83.1,r83.2.1,true,r83.2.2.2.1,r83.2.2.2.2)))))
def qFU:Nat→BA→Int→Bool→Nat→RW→Option (Int×BA×Int×Bool×Nat×RW)
 |0,_,_,_,_,_=>none
 |n+1,x0,x1,x2,x3,x4=>(qIW n x0 x1 x2 x3 x4).run
abbrev qIX (n:Nat):List (Ent (Rn n)):= [en (qC6 n)]
def qLK (n:Nat):LEnt (KB 209) (Rn n) n:=lok (zK 209) 14 ⟨⟨[(0,(.c (.ptr 0 0 0 0 0))),(3,aS)],[],[[(0,⟨0,4,175,(.box [qS,qI,qB,(.own 0 1 1 0)])⟩),(1,⟨1,14,162,(.row [])⟩)]]⟩,[(.ret,⟨[(2,aI)],[],[[(0,⟨0,4,175,(.box [qS,qI,qB,(.own 0 1 1 0)])⟩),(1,⟨1,14,162,(.row [])⟩)]]⟩),(.exit 0,⟨[(0,(.c (.ptr 0 0 0 0 0)))],[],[[(0,⟨0,4,175,(.box [qS,qI,qB,(.own 0 1 1 0)])⟩),(1,⟨1,14,162,(.row [])⟩)]]⟩)]⟩ (qD6 n) (qIX n) [] fun _=>(by kernel_rfl)
theorem qMv:∀n,Ok (Rn n) qNw (qFU n)
 |0=>ok0 fun _=>rfl
 |n+1=>stO (T:=qIW n) (by kernel_rfl) (qIX n) [qLK n] (fun _=>(by kernel_rfl)) fun _=>(by kernel_rfl)
def qRI:Sg:=⟨141,[aI],[],⟨aS,[],[]⟩⟩
def qH0 (n:Nat) (x0:Int):Tr (BA):=(.ask (decide (6=([[(.s (⟨#[]⟩:BA))],[(.s (⟨#[35,68,73,86,33]⟩:BA))],[(.s (⟨#[35,84,89,80,69,33]⟩:BA))],[(.s (⟨#[35,82,69,70,33]⟩:BA))],[(.s (⟨#[35,79,86,69,82,33]⟩:BA))],[(.s (⟨#[35,67,89,67,76,69,33]⟩:BA))]]:RW).length∧0≤x0∧x0<((6:Nat):Int))) (.opt (([[(.s (⟨#[]⟩:BA))],[(.s (⟨#[35,68,73,86,33]⟩:BA))],[(.s (⟨#[35,84,89,80,69,33]⟩:BA))],[(.s (⟨#[35,82,69,70,33]⟩:BA))],[(.s (⟨#[35,79,86,69,82,33]⟩:BA))],[(.s (⟨#[35,67,89,67,76,69,33]⟩:BA))]]:RW)[(x0).toNat]?) fun e86=>(.opt (zR e86 0) fun y87=>(.done y87))) .fail)
def qBZ:Nat→Int→Option (BA)
 |0,_=>none
 |n+1,x0=>(qH0 n x0).run
theorem qGp:∀n,Ok (Rn n) qRI (qBZ n)
 |0=>ok0 fun _=>rfl
 |n+1=>stO (T:=qH0 n) (by kernel_rfl) [] [] (fun _=>(by kernel_rfl)) fun _=>(by kernel_rfl)
def qP7:Sg:=⟨210,[aI],[],⟨(.agg [qI,qI,qS]),[],[]⟩⟩
def qGq (n:Nat) (x0:Int):Tr (Int×Int×BA):=(.done ((4:Int),x0,(⟨#[]⟩:BA)))
def qC7:Nat→Int→Option (Int×Int×BA)
 |0,_=>none
 |n+1,x0=>(qGq n x0).run
theorem qO9:∀n,Ok (Rn n) qP7 (qC7 n)
 |0=>ok0 fun _=>rfl
 |n+1=>stO (T:=qGq n) (by kernel_rfl) [] [] (fun _=>(by kernel_rfl)) fun _=>(by kernel_rfl)
def qNx:Sg:=⟨211,[(.c (.ptr 0 0 0 0 0))],[[(0,⟨0,4,175,(.box [qS,qI,qB,(.own 0 1 1 0)])⟩),(1,⟨1,14,162,(.row [])⟩)]],⟨aS,[[(0,⟨0,4,175,(.box [qS,qI,qB,(.own 0 1 1 0)])⟩),(1,⟨1,14,162,(.row [])⟩)]],[]⟩⟩
def qCD (n:Nat) (v:Int×BA×Int×Bool×Nat×RW):Tr ((Int×BA×Int×Bool×Nat×RW)⊕((Int×BA×Int×Bool×Nat×RW))):=(.ask ((decide (v.2.2.1<(v.2.1.size:Int)))) (.ask (decide (0≤v.2.2.1)) (.opt (v.2.1.toList[(v.2.2.1).toNat]?) fun c92=>(.ask ((decide ((c92.toNat:Int)≥(65:Int)))) (.ask (decide (0≤v.2.2.1)) (.opt (v.2.1.toList[(v.2.2.1).toNat]?) fun c93=>(.ask ((decide ((c93.toNat:Int)≤(90:Int)))) (.done (.inl (v.1,v.2.1,(IntKind.i64.wrap (v.2.2.1+(1:Int))),v.2.2.2.1,v.2.2.2.2.1,v.2.2.2.2.2))) (.ask (decide (0≤v.2.2.1)) (.opt (v.2.1.toList[(v.2.2.1).toNat]?) fun c94=>(.ask ((decide ((c94.toNat:Int)≥(48:Int)))) (.ask (decide (0≤v.2.2.1)) (.opt (v.2.1.toList[(v.2.2.1).toNat]?) fun c95=>(.ask ((decide ((c95.toNat:Int)≤(57:Int)))) (.done (.inl (v.1,v.2.1,(IntKind.i64.wrap (v.2.2.1+(1:Int))),v.2.2.2.1,v.2.2.2.2.1,v.2.2.2.2.2))) (.ask (decide (0≤v.2.2.1)) (.opt (v.2.1.toList[(v.2.2.1).toNat]?) fun c96=>(.ask (((c96.toNat:Int)==(36:Int))) (.done (.inl (v.1,v.2.1,(IntKind.i64.wrap (v.2.2.1+(1:Int))),v.2.2.2.1,v.2.2.2.2.1,v.2.2.2.2.2))) (.done (.inr ((v.1,v.2.1,v.2.2.1,v.2.2.2.1,v.2.2.2.2.1,v.2.2.2.2.2)))))) .fail))) .fail) (.ask (decide (0≤v.2.2.1)) (.opt (v.2.1.toList[(v.2.2.1).toNat]?) fun c97=>(.ask (((c97.toNat:Int)==(36:Int))) (.done (.inl (v.1,v.2.1,(IntKind.i64.wrap (v.2.2.1+(1:Int))),v.2.2.2.1,v.2.2.2.2.1,v.2.2.2.2.2))) (.done (.inr ((v.1,v.2.1,v.2.2.1,v.2.2.2.1,v.2.2.2.2.1,v.2.2.2.2.2)))))) .fail))) .fail))) .fail) (.ask (decide (0≤v.2.2.1)) (.opt (v.2.1.toList[(v.2.2.1).toNat]?) fun c98=>(.ask ((decide ((c98.toNat:Int)≥(48:Int)))) (.ask (decide (0≤v.2.2.1)) (.opt (v.2.1.toList[(v.2.2.1).toNat]?) fun c99=>(.ask ((decide ((c99.toNat:Int)≤(57:Int)))) (.done (.inl (v.1,v.2.1,(IntKind.i64.wrap (v.2.2.1+(1:Int))),v.2.2.2.1,v.2.2.2.2.1,v.2.2.2.2.2))) (.ask (decide (0≤v.2.2.1)) (.opt (v.2.1.toList[(v.2.2.1).toNat]?) fun c100=>(.ask (((c100.toNat:Int)==(36:Int))) (.done (.inl (v.1,v.2.1,(IntKind.i64.wrap (v.2.2.1+(1:Int))),v.2.2.2.1,v.2.2.2.2.1,v.2.2.2.2.2))) (.done (.inr ((v.1,v.2.1,v.2.2.1,v.2.2.2.1,v.2.2.2.2.1,v.2.2.2.2.2)))))) .fail))) .fail) (.ask (decide (0≤v.2.2.1)) (.opt (v.2.1.toList[(v.2.2.1).toNat]?) fun c101=>(.ask (((c101.toNat:Int)==(36:Int))) (.done (.inl (v.1,v.2.1,(IntKind.i64.wrap (v.2.2.1+(1:Int))),v.2.2.2.1,v.2.2.2.2.1,v.2.2.2.2.2))) (.done (.inr ((v.1,v.2.1,v.2.2.1,v.2.2.2.1,v.2.2.2.2.1,v.2.2.2.2.2)))))) .fail))) .fail))) .fail) (.done (.inr ((v.1,v.2.1,v.2.2.1,v.2.2.2.1,v.2.2.2.2.1,v.2.2.2.2.2)))))
def qIY (n:Nat) (x0:BA) (x1:Int) (x2:Bool) (x3:Nat) (x4:RW):Tr (BA×BA×Int×Bool×Nat×RW):=(.opt (zD (qCD n) n (x1,x0,x1,x2,x3,x4)) fun r102=>(.ask (decide (0≤r102.1∧r102.1≤r102.2.2.1∧r102.2.2.1≤r102.2.1.size)) (.done ((r102.2.1.extract (r102.1).toNat (r102.2.2.1).toNat),r102.2.1,r102.2.2.1,r102.2.2.2.1,r102.2.2.2.2.1,r102.2.2.2.2.2)) .fail))
def qC8:Nat→BA→Int→Bool→Nat→RW→Option (BA×BA×Int×Bool×Nat×RW)
 |0,_,_,_,_,_=>none
 |n+1,x0,x1,x2,x3,x4=>(qIY n x0 x1 x2 x3 x4).run
def qLL (n:Nat):LEnt (KB 211) (Rn n) n:=lok (zK 211) 14 ⟨⟨[(0,(.c (.ptr 0 0 0 0 0))),(3,aI)],[],[[(0,⟨0,4,175,(.box [qS,qI,qB,(.own 0 1 1 0)])⟩),(1,⟨1,14,162,(.row [])⟩)]]⟩,[(.exit 0,⟨[(0,(.c (.ptr 0 0 0 0 0))),(3,aI)],[],[[(0,⟨0,4,175,(.box [qS,qI,qB,(.own 0 1 1 0)])⟩),(1,⟨1,14,162,(.row [])⟩)]]⟩)]⟩ (qCD n) [] [] fun _=>(by kernel_rfl)
theorem qHc:∀n,Ok (Rn n) qNx (qC8 n)
 |0=>ok0 fun _=>rfl
 |n+1=>stO (T:=qIY n) (by kernel_rfl) [] [qLL n] (fun _=>(by kernel_rfl)) fun _=>(by kernel_rfl)
def qS6:Sg:=⟨182,[aI],[],⟨aS,[],[]⟩⟩
def qKH (n:Nat) (x0:Int):Tr (BA):=(.ask (decide (11=([[(.s (⟨#[]⟩:BA))],[(.s (⟨#[83,85,77]⟩:BA))],[(.s (⟨#[77,73,78]⟩:BA))],[(.s (⟨#[77,65,88]⟩:BA))],[(.s (⟨#[67,79,85,78,84]⟩:BA))],[(.s (⟨#[73,70]⟩:BA))],[(.s (⟨#[65,78,68]⟩:BA))],[(.s (⟨#[79,82]⟩:BA))],[(.s (⟨#[78,79,84]⟩:BA))],[(.s (⟨#[65,66,83]⟩:BA))],[(.s (⟨#[76,69,78]⟩:BA))]]:RW).length∧0≤x0∧x0<((11:Nat):Int))) (.opt (([[(.s (⟨#[]⟩:BA))],[(.s (⟨#[83,85,77]⟩:BA))],[(.s (⟨#[77,73,78]⟩:BA))],[(.s (⟨#[77,65,88]⟩:BA))],[(.s (⟨#[67,79,85,78,84]⟩:BA))],[(.s (⟨#[73,70]⟩:BA))],[(.s (⟨#[65,78,68]⟩:BA))],[(.s (⟨#[79,82]⟩:BA))],[(.s (⟨#[78,79,84]⟩:BA))],[(.s (⟨#[65,66,83]⟩:BA))],[(.s (⟨#[76,69,78]⟩:BA))]]:RW)[(x0).toNat]?) fun e104=>(.opt (zR e104 0) fun y105=>(.done y105))) .fail)
def qCi:Nat→Int→Option (BA)
 |0,_=>none
 |n+1,x0=>(qKH n x0).run
theorem qMw:∀n,Ok (Rn n) qS6 (qCi n)
 |0=>ok0 fun _=>rfl
 |n+1=>stO (T:=qKH n) (by kernel_rfl) [] [] (fun _=>(by kernel_rfl)) fun _=>(by kernel_rfl)
def qP8:Sg:=⟨99,[aI],[],⟨aS,[],[]⟩⟩
def qBc (n:Nat) (v:Int×BA):Tr ((Int×BA)⊕((BA))):=(.ask ((decide (v.1>(0:Int)))) (.ask (decide (1=([[(.i .u8 (IntKind.u8.wrap (IntKind.i64.wrap ((65:Int)+(Int.tmod (IntKind.i64.wrap (v.1-(1:Int))) (26:Int))))))]]:RW).length)) (.opt (bytesOf ([[(.i .u8 (IntKind.u8.wrap (IntKind.i64.wrap ((65:Int)+(Int.tmod (IntKind.i64.wrap (v.1-(1:Int))) (26:Int))))))]]:RW)) fun l115=>(.ask (decide ((⟨l115.toArray⟩:BA).size+v.2.size≤9223372036854775807)) (.done (.inl ((IntKind.i64.wrap (Int.tdiv (IntKind.i64.wrap (v.1-(1:Int))) (26:Int))),((⟨l115.toArray⟩:BA)++v.2)))) .fail)) .fail) (.done (.inr (v.2))))
def qEt (n:Nat) (x0:Int):Tr (BA):=(.opt (qAx n x0 (1:Int) (52:Int)) fun r114=>(.ask ((!r114)) (.done (⟨#[]⟩:BA)) (.opt (zD (qBc n) n (x0,(⟨#[]⟩:BA))) fun r116=>(.done r116))))
def qC9:Nat→Int→Option (BA)
 |0,_=>none
 |n+1,x0=>(qEt n x0).run
abbrev qKI (n:Nat):List (Ent (Rn n)):= [en (qDw n)]
def qMx (n:Nat):LEnt (KB 99) (Rn n) n:=lok (zK 99) 30 ⟨⟨[(0,aI),(3,aS)],[],[]⟩,[(.exit 0,⟨[(3,aS)],[],[]⟩)]⟩ (qBc n) (qKI n) [] fun _=>(by kernel_rfl)
theorem qJa:∀n,Ok (Rn n) qP8 (qC9 n)
 |0=>ok0 fun _=>rfl
 |n+1=>stO (T:=qEt n) (by kernel_rfl) (qKI n) [qMx n] (fun _=>(by kernel_rfl)) fun _=>(by kernel_rfl)
def qP9:Sg:=⟨233,[aS],[],⟨aI,[],[]⟩⟩
def qCj (n:Nat) (v:BA×Int):Tr ((BA×Int)⊕((Int)⊕(Unit))):=(.ask ((decide (v.2≤(52:Int)))) (.opt (qC9 n v.2) fun r114=>(.ask ((r114.toList==v.1.toList)) (.done (.inr (.inl (v.2)))) (.done (.inl (v.1,(IntKind.i64.wrap (v.2+(1:Int)))))))) (.done (.inr (.inr (())))))
def qGr (n:Nat) (x0:BA):Tr (Int):=(.opt (zD (qCj n) n (x0,(1:Int))) fun r115=>(.alt r115 (fun r116=>(.done r116)) (fun r117=>(.done (0:Int)))))
def qCS:Nat→BA→Option (Int)
 |0,_=>none
 |n+1,x0=>(qGr n x0).run
abbrev qKJ (n:Nat):List (Ent (Rn n)):= [en (qJa n)]
def qMy (n:Nat):LEnt (KB 233) (Rn n) n:=lok (zK 233) 13 ⟨⟨[(0,aS),(3,aI)],[],[]⟩,[(.ret,⟨[(2,aI)],[],[]⟩),(.exit 0,⟨[],[],[]⟩)]⟩ (qCj n) (qKJ n) [] fun _=>(by kernel_rfl)
theorem qPA:∀n,Ok (Rn n) qP9 (qCS n)
 |0=>ok0 fun _=>rfl
 |n+1=>stO (T:=qGr n) (by kernel_rfl) (qKJ n) [qMy n] (fun _=>(by kernel_rfl)) fun _=>(by kernel_rfl)
def qSR:Sg:=⟨138,[aS,aI],[],⟨(.tup [(false,[qI]),(false,[qB])]),[],[]⟩⟩
def qBl (n:Nat) (v:BA×Int×Int):Tr ((BA×Int×Int)⊕((Int×Bool)⊕(Int))):=(.ask ((decide (v.2.2<(v.1.size:Int)))) (.ask (decide (0≤v.2.2)) (.opt (v.1.toList[(v.2.2).toNat]?) fun c121=>(.ask ((decide ((c121.toNat:Int)<(48:Int)))) (.done (.inr (.inl (((0:Int),false))))) (.ask (decide (0≤v.2.2)) (.opt (v.1.toList[(v.2.2).toNat]?) fun c122=>(.ask ((decide ((c122.toNat:Int)>(57:Int)))) (.done (.inr (.inl (((0:Int),false))))) (.ask (decide (0≤v.2.2)) (.opt (v.1.toList[(v.2.2).toNat]?) fun c123=>(.done (.inl (v.1,(IntKind.i64.wrap ((IntKind.i64.wrap (v.2.1*(10:Int)))+(IntKind.i64.wrap (IntKind.u8.wrap ((c123.toNat:Int)-(48:Int)))))),(IntKind.i64.wrap (v.2.2+(1:Int))))))) .fail))) .fail))) .fail) (.done (.inr (.inr (v.2.1)))))
def qEu (n:Nat) (x0:BA) (x1:Int):Tr (Int×Bool):=(.ask ((decide ((x0.size:Int)<(1:Int)))) (.done ((0:Int),false)) (.ask ((decide ((x0.size:Int)>x1))) (.done ((0:Int),false)) (.ask (decide (0≤(0:Int))) (.opt (x0.toList[((0:Int)).toNat]?) fun c120=>(.ask (((c120.toNat:Int)==(48:Int))) (.ask ((decide ((x0.size:Int)>(1:Int)))) (.done ((0:Int),false)) (.opt (zD (qBl n) n (x0,(0:Int),(0:Int))) fun r124=>(.alt r124 (fun r125=>(.done (r125.1,r125.2))) (fun r126=>(.done (r126,true)))))) (.opt (zD (qBl n) n (x0,(0:Int),(0:Int))) fun r127=>(.alt r127 (fun r128=>(.done (r128.1,r128.2))) (fun r129=>(.done (r129,true))))))) .fail)))
def qx:Nat→BA→Int→Option (Int×Bool)
 |0,_,_=>none
 |n+1,x0,x1=>(qEu n x0 x1).run
def qPB (n:Nat):LEnt (KB 138) (Rn n) n:=lok (zK 138) 61 ⟨⟨[(0,aS),(6,aI),(7,aI)],[],[]⟩,[(.ret,⟨[(4,aI),(5,aB)],[],[]⟩),(.exit 0,⟨[(6,aI)],[],[]⟩)]⟩ (qBl n) [] [] fun _=>(by kernel_rfl)
theorem qH1:∀n,Ok (Rn n) qSR (qx n)
 |0=>ok0 fun _=>rfl
 |n+1=>stO (T:=qEu n) (by kernel_rfl) [] [qPB n] (fun _=>(by kernel_rfl)) fun _=>(by kernel_rfl)
def qNy:Sg:=⟨213,[aS],[],⟨(.tup [(true,[qI,qI,qB,qB]),(false,[qB])]),[],[]⟩⟩
def qAR (n:Nat) (v:BA×Int×Int×Int×Bool×Bool×Int×Int×Bool×Bool):Tr ((BA×Int×Int×Int×Bool×Bool×Int×Int×Bool×Bool)⊕((BA×Int×Int×Int×Bool×Bool×Int×Int×Bool×Bool))):=(.ask ((decide (v.2.1<(v.1.size:Int)))) (.ask (decide (0≤v.2.1)) (.opt (v.1.toList[(v.2.1).toNat]?) fun c111=>(.ask ((decide ((c111.toNat:Int)≥(65:Int)))) (.ask (decide (0≤v.2.1)) (.opt (v.1.toList[(v.2.1).toNat]?) fun c112=>(.ask ((decide ((c112.toNat:Int)≤(90:Int)))) (.done (.inl (v.1,(IntKind.i64.wrap (v.2.1+(1:Int))),v.2.2.1,v.2.2.2.1,v.2.2.2.2.1,v.2.2.2.2.2.1,v.2.2.2.2.2.2.1,v.2.2.2.2.2.2.2.1,v.2.2.2.2.2.2.2.2.1,v.2.2.2.2.2.2.2.2.2))) (.done (.inr ((v.1,v.2.1,v.2.2.1,v.2.2.2.1,v.2.2.2.2.1,v.2.2.2.2.2.1,v.2.2.2.2.2.2.1,v.2.2.2.2.2.2.2.1,v.2.2.2.2.2.2.2.2.1,v.2.2.2.2.2.2.2.2.2)))))) .fail) (.done (.inr ((v.1,v.2.1,v.2.2.1,v.2.2.2.1,v.2.2.2.2.1,v.2.2.2.2.2.1,v.2.2.2.2.2.2.1,v.2.2.2.2.2.2.2.1,v.2.2.2.2.2.2.2.2.1,v.2.2.2.2.2.2.2.2.2)))))) .fail) (.done (.inr ((v.1,v.2.1,v.2.2.1,v.2.2.2.1,v.2.2.2.2.1,v.2.2.2.2.2.1,v.2.2.2.2.2.2.1,v.2.2.2.2.2.2.2.1,v.2.2.2.2.2.2.2.2.1,v.2.2.2.2.2.2.2.2.2)))))
def qCP (n:Nat) (x0:BA):Tr (Int×Int×Bool×Bool×Bool):=(.ask ((decide ((x0.size:Int)>(0:Int)))) (.ask (decide (0≤(0:Int))) (.opt (x0.toList[((0:Int)).toNat]?) fun c110=>(.ask (((c110.toNat:Int)==(36:Int))) (.ask (decide (0≤(1:Int)∧(1:Int)≤(x0.size:Int)∧(x0.size:Int)≤x0.size)) (.opt (zD (qAR n) n ((x0.extract ((1:Int)).toNat ((x0.size:Int)).toNat),(0:Int),(0:Int),(0:Int),false,false,(0:Int),(0:Int),true,false)) fun r113=>(.ask (decide (0≤(0:Int)∧(0:Int)≤r113.2.1∧r113.2.1≤r113.1.size)) (.opt (qCS n (r113.1.extract ((0:Int)).toNat (r113.2.1).toNat)) fun r118=>(.ask (decide (0≤r113.2.1∧r113.2.1≤(r113.1.size:Int)∧(r113.1.size:Int)≤r113.1.size)) (.ask ((decide (((r113.1.extract (r113.2.1).toNat ((r113.1.size:Int)).toNat).size:Int)>(0:Int)))) (.ask (decide (0≤(0:Int))) (.opt ((r113.1.extract (r113.2.1).toNat ((r113.1.size:Int)).toNat).toList[((0:Int)).toNat]?) fun c119=>(.ask (((c119.toNat:Int)==(36:Int))) (.ask (decide (0≤(1:Int)∧(1:Int)≤((r113.1.extract (r113.2.1).toNat ((r113.1.size:Int)).toNat).size:Int)∧((r113.1.extract (r113.2.1).toNat ((r113.1.size:Int)).toNat).size:Int)≤(r113.1.extract (r113.2.1).toNat ((r113.1.size:Int)).toNat).size)) (.opt (qx n ((r113.1.extract (r113.2.1).toNat ((r113.1.size:Int)).toNat).extract ((1:Int)).toNat (((r113.1.extract (r113.2.1).toNat ((r113.1.size:Int)).toNat).size:Int)).toNat) (2:Int)) fun r130=>(.ask ((!r130.2)) (.done ((0:Int),(0:Int),false,false,false)) (.opt (qAO n r118 r130.1) fun r131=>(.ask ((!r131)) (.done ((0:Int),(0:Int),false,false,false)) (.done (r118,r130.1,r113.2.2.2.2.2.2.2.2.1,true,true)))))) .fail) (.opt (qx n (r113.1.extract (r113.2.1).toNat ((r113.1.size:Int)).toNat) (2:Int)) fun r132=>(.ask ((!r132.2)) (.done ((0:Int),(0:Int),false,false,false)) (.opt (qAO n r118 r132.1) fun r133=>(.ask ((!r133)) (.done ((0:Int),(0:Int),false,false,false)) (.done (r118,r132.1,r113.2.2.2.2.2.2.2.2.1,r113.2.2.2.2.2.2.2.2.2,true)))))))) .fail) (.opt (qx n (r113.1.extract (r113.2.1).toNat ((r113.1.size:Int)).toNat) (2:Int)) fun r134=>(.ask ((!r134.2)) (.done ((0:Int),(0:Int),false,false,false)) (.opt (qAO n r118 r134.1) fun r135=>(.ask ((!r135)) (.done ((0:Int),(0:Int),false,false,false)) (.done (r118,r134.1,r113.2.2.2.2.2.2.2.2.1,r113.2.2.2.2.2.2.2.2.2,true))))))) .fail)) .fail)) .fail) (.opt (zD (qAR n) n (x0,(0:Int),(0:Int),(0:Int),false,false,(0:Int),(0:Int),false,false)) fun r136=>(.ask (decide (0≤(0:Int)∧(0:Int)≤r136.2.1∧r136.2.1≤r136.1.size)) (.opt (qCS n (r136.1.extract ((0:Int)).toNat (r136.2.1).toNat)) fun r137=>(.ask (decide (0≤r136.2.1∧r136.2.1≤(r136.1.size:Int)∧(r136.1.size:Int)≤r136.1.size)) (.ask ((decide (((r136.1.extract (r136.2.1).toNat ((r136.1.size:Int)).toNat).size:Int)>(0:Int)))) (.ask (decide (0≤(0:Int))) (.opt ((r136.1.extract (r136.2.1).toNat ((r136.1.size:Int)).toNat).toList[((0:Int)).toNat]?) fun c138=>(.ask (((c138.toNat:Int)==(36:Int))) (.ask (decide (0≤(1:Int)∧(1:Int)≤((r136.1.extract (r136.2.1).toNat ((r136.1.size:Int)).toNat).size:Int)∧((r136.1.extract (r136.2.1).toNat ((r136.1.size:Int)).toNat).size:Int)≤(r136.1.extract (r136.2.1).toNat ((r136.1.size:Int)).toNat).size)) (.opt (qx n ((r136.1.extract (r136.2.1).toNat ((r136.1.size:Int)).toNat).extract ((1:Int)).toNat (((r136.1.extract (r136.2.1).toNat ((r136.1.size:Int)).toNat).size:Int)).toNat) (2:Int)) fun r139=>(.ask ((!r139.2)) (.done ((0:Int),(0:Int),false,false,false)) (.opt (qAO n r137 r139.1) fun r140=>(.ask ((!r140)) (.done ((0:Int),(0:Int),false,false,false)) (.done (r137,r139.1,r136.2.2.2.2.2.2.2.2.1,true,true)))))) .fail) (.opt (qx n (r136.1.extract (r136.2.1).toNat ((r136.1.size:Int)).toNat) (2:Int)) fun r141=>(.ask ((!r141.2)) (.done ((0:Int),(0:Int),false,false,false)) (.opt (qAO n r137 r141.1) fun r142=>(.ask ((!r142)) (.done ((0:Int),(0:Int),false,false,false)) (.done (r137,r141.1,r136.2.2.2.2.2.2.2.2.1,r136.2.2.2.2.2.2.2.2.2,true)))))))) .fail) (.opt (qx n (r136.1.extract (r136.2.1).toNat ((r136.1.size:Int)).toNat) (2:Int)) fun r143=>(.ask ((!r143.2)) (.done ((0:Int),(0:Int),false,false,false)) (.opt (qAO n r137 r143.1) fun r144=>(.ask ((!r144)) (.done ((0:Int),(0:Int),false,false,false)) (.done (r137,r143.1,r136.2.2.2.2.2.2.2.2.1,r136.2.2.2.2.2.2.2.2.2,true))))))) .fail)) .fail)))) .fail) (.opt (zD (qAR n) n (x0,(0:Int),(0:Int),(0:Int),false,false,(0:Int),(0:Int),false,false)) fun r145=>(.ask (decide (0≤(0:Int)∧(0:Int)≤r145.2.1∧r145.2.1≤r145.1.size)) (.opt (qCS n (r145.1.extract ((0:Int)).toNat (r145.2.1).toNat)) fun r146=>(.ask (decide (0≤r145.2.1∧r145.2.1≤(r145.1.size:Int)∧(r145.1.size:Int)≤r145.1.size)) (.ask ((decide (((r145.1.extract (r145.2.1).toNat ((r145.1.size:Int)).toNat).size:Int)>(0:Int)))) (.ask (decide (0≤(0:Int))) (.opt ((r145.1.extract (r145.2.1).toNat ((r145.1.size:Int)).toNat).toList[((0:Int)).toNat]?) fun c147=>(.ask (((c147.toNat:Int)==(36:Int))) (.ask (decide (0≤(1:Int)∧(1:Int)≤((r145.1.extract (r145.2.1).toNat ((r145.1.size:Int)).toNat).size:Int)∧((r145.1.extract (r145.2.1).toNat ((r145.1.size:Int)).toNat).size:Int)≤(r145.1.extract (r145.2.1).toNat ((r145.1.size:Int)).toNat).size)) (.opt (qx n ((r145.1.extract (r145.2.1).toNat ((r145.1.size:Int)).toNat).extract ((1:Int)).toNat (((r145.1.extract (r145.2.1).toNat ((r145.1.size:Int)).toNat).size:Int)).toNat) (2:Int)) fun r148=>(.ask ((!r148.2)) (.done ((0:Int),(0:Int),false,false,false)) (.opt (qAO n r146 r148.1) fun r149=>(.ask ((!r149)) (.done ((0:Int),(0:Int),false,false,false)) (.done (r146,r148.1,r145.2.2.2.2.2.2.2.2.1,true,true)))))) .fail) (.opt (qx n (r145.1.extract (r145.2.1).toNat ((r145.1.size:Int)).toNat) (2:Int)) fun r150=>(.ask ((!r150.2)) (.done ((0:Int),(0:Int),false,false,false)) (.opt (qAO n r146 r150.1) fun r151=>(.ask ((!r151)) (.done ((0:Int),(0:Int),false,false,false)) (.done (r146,r150.1,r145.2.2.2.2.2.2.2.2.1,r145.2.2.2.2.2.2.2.2.2,true)))))))) .fail) (.opt (qx n (r145.1.extract (r145.2.1).toNat ((r145.1.size:Int)).toNat) (2:Int)) fun r152=>(.ask ((!r152.2)) (.done ((0:Int),(0:Int),false,false,false)) (.opt (qAO n r146 r152.1) fun r153=>(.ask ((!r153)) (.done ((0:Int),(0:Int),false,false,false)) (.done (r146,r152.1,r145.2.2.2.2.2.2.2.2.1,r145.2.2.2.2.2.2.2.2.2,true))))))) .fail)) .fail)))
def qAu:Nat→BA→Option (Int×Int×Bool×Bool×Bool)
 |0,_=>none
 |n+1,x0=>(qCP n x0).run
abbrev qIZ (n:Nat):List (Ent (Rn n)):= [en (qPA n),en (qH1 n),en (qEG n)]
def qLM (n:Nat):LEnt (KB 213) (Rn n) n:=lok (zK 213) 62 ⟨⟨[(0,aS),(2,(.c (.ptr 0 128 0 0 0))),(4,(.c (.ptr 0 256 0 0 0))),(5,aI)],[(128,⟨0,4,90,(.box [qI,qI,qB,qB])⟩),(256,⟨0,4,90,(.box [qI,qI,qB,qB])⟩)],[]⟩,[(.exit 0,⟨[(0,aS),(2,(.c (.ptr 0 128 0 0 0))),(4,(.c (.ptr 0 256 0 0 0))),(5,aI)],[(128,⟨0,4,90,(.box [qI,qI,qB,qB])⟩),(256,⟨0,4,90,(.box [qI,qI,qB,qB])⟩)],[]⟩)]⟩ (qAR n) (qIZ n) [] fun _=>(by kernel_rfl)
theorem qHd:∀n,Ok (Rn n) qNy (qAu n)
 |0=>ok0 fun _=>rfl
 |n+1=>stO (T:=qCP n) (by kernel_rfl) (qIZ n) [qLM n] (fun _=>(by kernel_rfl)) fun _=>(by kernel_rfl)
def qNz:Sg:=⟨97,[aS],[],⟨(.tup [(true,[qI,qI,qS]),(false,[qB])]),[],[]⟩⟩
def qBd (n:Nat) (v:BA×Int×Int×Int×BA×Int×Int×BA):Tr ((BA×Int×Int×Int×BA×Int×Int×BA)⊕((Int×Int×BA×Int×Int×BA))):=(.ask ((decide (v.2.1≤(5:Int)))) (.opt (qBZ n v.2.1) fun r117=>(.ask ((r117.toList==v.1.toList)) (.done (.inl (v.1,(IntKind.i64.wrap (v.2.1+(1:Int))),v.2.2.1,v.2.2.2.1,v.2.2.2.2.1,v.2.2.2.2.2.1,v.2.1,v.2.2.2.2.2.2.2))) (.done (.inl (v.1,(IntKind.i64.wrap (v.2.1+(1:Int))),v.2.2.1,v.2.2.2.1,v.2.2.2.2.1,v.2.2.2.2.2.1,v.2.2.2.2.2.2.1,v.2.2.2.2.2.2.2))))) (.done (.inr ((v.2.2.1,v.2.2.2.1,v.2.2.2.2.1,v.2.2.2.2.2.1,v.2.2.2.2.2.2.1,v.2.2.2.2.2.2.2)))))
def qA7 (n:Nat) (x0:BA):Tr (Int×Int×BA×Bool):=(.ask ((x0.toList==(⟨#[]⟩:BA).toList)) (.done ((0:Int),(0:Int),(⟨#[]⟩:BA),true)) (.ask (decide (0≤(0:Int))) (.opt (x0.toList[((0:Int)).toNat]?) fun c110=>(.ask (((c110.toNat:Int)==(39:Int))) (.ask (decide (0≤(1:Int)∧(1:Int)≤(x0.size:Int)∧(x0.size:Int)≤x0.size)) (.opt (qY n (2:Int) (0:Int) (x0.extract ((1:Int)).toNat ((x0.size:Int)).toNat)) fun r111=>(.ask ((!r111)) (.done ((0:Int),(0:Int),(⟨#[]⟩:BA),false)) (.done ((2:Int),(0:Int),(x0.extract ((1:Int)).toNat ((x0.size:Int)).toNat),true)))) .fail) (.ask ((x0.toList==(⟨#[84,82,85,69]⟩:BA).toList)) (.ask ((x0.toList==(⟨#[84,82,85,69]⟩:BA).toList)) (.opt (qY n (3:Int) (1:Int) (⟨#[]⟩:BA)) fun r112=>(.ask ((!r112)) (.done ((0:Int),(0:Int),(⟨#[]⟩:BA),false)) (.done ((3:Int),(1:Int),(⟨#[]⟩:BA),true)))) (.opt (qY n (3:Int) (0:Int) (⟨#[]⟩:BA)) fun r113=>(.ask ((!r113)) (.done ((0:Int),(0:Int),(⟨#[]⟩:BA),false)) (.done ((3:Int),(0:Int),(⟨#[]⟩:BA),true))))) (.ask ((x0.toList==(⟨#[70,65,76,83,69]⟩:BA).toList)) (.ask ((x0.toList==(⟨#[84,82,85,69]⟩:BA).toList)) (.opt (qY n (3:Int) (1:Int) (⟨#[]⟩:BA)) fun r114=>(.ask ((!r114)) (.done ((0:Int),(0:Int),(⟨#[]⟩:BA),false)) (.done ((3:Int),(1:Int),(⟨#[]⟩:BA),true)))) (.opt (qY n (3:Int) (0:Int) (⟨#[]⟩:BA)) fun r115=>(.ask ((!r115)) (.done ((0:Int),(0:Int),(⟨#[]⟩:BA),false)) (.done ((3:Int),(0:Int),(⟨#[]⟩:BA),true))))) (.ask (decide (0≤(0:Int))) (.opt (x0.toList[((0:Int)).toNat]?) fun c116=>(.ask (((c116.toNat:Int)==(35:Int))) (.opt (zD (qBd n) n (x0,(1:Int),(0:Int),(0:Int),(⟨#[]⟩:BA),(4:Int),(0:Int),(⟨#[]⟩:BA))) fun r118=>(.opt (qY n r118.2.2.2.1 r118.2.2.2.2.1 r118.2.2.2.2.2) fun r119=>(.ask ((!r119)) (.done ((0:Int),(0:Int),(⟨#[]⟩:BA),false)) (.done (r118.2.2.2.1,r118.2.2.2.2.1,r118.2.2.2.2.2,true))))) (.ask (decide (0≤(0:Int))) (.opt (x0.toList[((0:Int)).toNat]?) fun c120=>(.ask (((c120.toNat:Int)==(45:Int))) (.ask (decide (0≤(1:Int)∧(1:Int)≤(x0.size:Int)∧(x0.size:Int)≤x0.size)) (.opt (qx n (x0.extract ((1:Int)).toNat ((x0.size:Int)).toNat) (16:Int)) fun r121=>(.ask ((!r121.2)) (.done ((0:Int),(0:Int),(⟨#[]⟩:BA),false)) (.ask (((c120.toNat:Int)==(45:Int))) (.ask ((r121.1==(0:Int))) (.done ((0:Int),(0:Int),(⟨#[]⟩:BA),false)) (.ask (((c120.toNat:Int)==(45:Int))) (.opt (qY n (1:Int) (IntKind.i64.wrap (0-r121.1)) (⟨#[]⟩:BA)) fun r122=>(.ask ((!r122)) (.done ((0:Int),(0:Int),(⟨#[]⟩:BA),false)) (.done ((1:Int),(IntKind.i64.wrap (0-r121.1)),(⟨#[]⟩:BA),true)))) (.opt (qY n (1:Int) r121.1 (⟨#[]⟩:BA)) fun r123=>(.ask ((!r123)) (.done ((0:Int),(0:Int),(⟨#[]⟩:BA),false)) (.done ((1:Int),r121.1,(⟨#[]⟩:BA),true)))))) (.ask (((c120.toNat:Int)==(45:Int))) (.opt (qY n (1:Int) (IntKind.i64.wrap (0-r121.1)) (⟨#[]⟩:BA)) fun r124=>(.ask ((!r124)) (.done ((0:Int),(0:Int),(⟨#[]⟩:BA),false)) (.done ((1:Int),(IntKind.i64.wrap (0-r121.1)),(⟨#[]⟩:BA),true)))) (.opt (qY n (1:Int) r121.1 (⟨#[]⟩:BA)) fun r125=>(.ask ((!r125)) (.done ((0:Int),(0:Int),(⟨#[]⟩:BA),false)) (.done ((1:Int),r121.1,(⟨#[]⟩:BA),true)))))))) .fail) (.opt (qx n x0 (16:Int)) fun r126=>(.ask ((!r126.2)) (.done ((0:Int),(0:Int),(⟨#[]⟩:BA),false)) (.ask (((c120.toNat:Int)==(45:Int))) (.ask ((r126.1==(0:Int))) (.done ((0:Int),(0:Int),(⟨#[]⟩:BA),false)) (.ask (((c120.toNat:Int)==(45:Int))) (.opt (qY n (1:Int) (IntKind.i64.wrap (0-r126.1)) (⟨#[]⟩:BA)) fun r127=>(.ask ((!r127)) (.done ((0:Int),(0:Int),(⟨#[]⟩:BA),false)) (.done ((1:Int),(IntKind.i64.wrap (0-r126.1)),(⟨#[]⟩:BA),true)))) (.opt (qY n (1:Int) r126.1 (⟨#[]⟩:BA)) fun r128=>(.ask ((!r128)) (.done ((0:Int),(0:Int),(⟨#[]⟩:BA),false)) (.done ((1:Int),r126.1,(⟨#[]⟩:BA),true)))))) (.ask (((c120.toNat:Int)==(45:Int))) (.opt (qY n (1:Int) (IntKind.i64.wrap (0-r126.1)) (⟨#[]⟩:BA)) fun r129=>(.ask ((!r129)) (.done ((0:Int),(0:Int),(⟨#[]⟩:BA),false)) (.done ((1:Int),(IntKind.i64.wrap (0-r126.1)),(⟨#[]⟩:BA),true)))) (.opt (qY n (1:Int) r126.1 (⟨#[]⟩:BA)) fun r130=>(.ask ((!r130)) (.done ((0:Int),(0:Int),(⟨#[]⟩:BA),false)) (.done ((1:Int),r126.1,(⟨#[]⟩:BA),true)))))))))) .fail))) .fail))))) .fail))
def qAL:Nat→BA→Option (Int×Int×BA×Bool)
 |0,_=>none
 |n+1,x0=>(qA7 n x0).run
abbrev qIa (n:Nat):List (Ent (Rn n)):= [en (qEP n),en (qGp n),en (qH1 n)]
def qI1 (n:Nat):LEnt (KB 97) (Rn n) n:=lok (zK 97) 15355 ⟨⟨[(0,aS),(2,(.c (.ptr 0 128 0 0 0))),(4,(.c (.ptr 0 256 0 0 0))),(5,aI)],[(128,⟨0,3,128,(.box [qI,qI,qS])⟩),(256,⟨0,3,128,(.box [qI,qI,qS])⟩)],[]⟩,[(.exit 1,⟨[(2,(.c (.ptr 0 128 0 0 0))),(4,(.c (.ptr 0 256 0 0 0)))],[(128,⟨0,3,128,(.box [qI,qI,qS])⟩),(256,⟨0,3,128,(.box [qI,qI,qS])⟩)],[]⟩)]⟩ (qBd n) (qIa n) [] fun _=>(by kernel_rfl)
theorem qHe:∀n,Ok (Rn n) qNz (qAL n)
 |0=>ok0 fun _=>rfl
 |n+1=>stO (T:=qA7 n) (by kernel_rfl) (qIa n) [qI1 n] (fun _=>(by kernel_rfl)) fun _=>(by kernel_rfl)
def qQA:Sg:=⟨180,[aI],[],⟨aI,[],[]⟩⟩
def qGs (n:Nat) (x0:Int):Tr (Int):=(.ask ((decide (x0≥(6:Int)))) (.done (1:Int)) (.ask ((x0==(5:Int))) (.done (2:Int)) (.ask ((decide (x0≥(3:Int)))) (.done (4:Int)) (.done (3:Int)))))
def qCT:Nat→Int→Option (Int)
 |0,_=>none
 |n+1,x0=>(qGs n x0).run
theorem qJb:∀n,Ok (Rn n) qQA (qCT n)
 |0=>ok0 fun _=>rfl
 |n+1=>stO (T:=qGs n) (by kernel_rfl) [] [] (fun _=>(by kernel_rfl)) fun _=>(by kernel_rfl)
def qRJ:Sg:=⟨181,[aI],[],⟨aS,[],[]⟩⟩
def qH2 (n:Nat) (x0:Int):Tr (BA):=(.ask (decide (12=([[(.s (⟨#[]⟩:BA))],[(.s (⟨#[43]⟩:BA))],[(.s (⟨#[45]⟩:BA))],[(.s (⟨#[42]⟩:BA))],[(.s (⟨#[47]⟩:BA))],[(.s (⟨#[38]⟩:BA))],[(.s (⟨#[61]⟩:BA))],[(.s (⟨#[60,62]⟩:BA))],[(.s (⟨#[60]⟩:BA))],[(.s (⟨#[60,61]⟩:BA))],[(.s (⟨#[62]⟩:BA))],[(.s (⟨#[62,61]⟩:BA))]]:RW).length∧0≤x0∧x0<((12:Nat):Int))) (.opt (([[(.s (⟨#[]⟩:BA))],[(.s (⟨#[43]⟩:BA))],[(.s (⟨#[45]⟩:BA))],[(.s (⟨#[42]⟩:BA))],[(.s (⟨#[47]⟩:BA))],[(.s (⟨#[38]⟩:BA))],[(.s (⟨#[61]⟩:BA))],[(.s (⟨#[60,62]⟩:BA))],[(.s (⟨#[60]⟩:BA))],[(.s (⟨#[60,61]⟩:BA))],[(.s (⟨#[62]⟩:BA))],[(.s (⟨#[62,61]⟩:BA))]]:RW)[(x0).toNat]?) fun e144=>(.opt (zR e144 0) fun y145=>(.done y145))) .fail)
def qCw:Nat→Int→Option (BA)
 |0,_=>none
 |n+1,x0=>(qH2 n x0).run
theorem qKK:∀n,Ok (Rn n) qRJ (qCw n)
 |0=>ok0 fun _=>rfl
 |n+1=>stO (T:=qH2 n) (by kernel_rfl) [] [] (fun _=>(by kernel_rfl)) fun _=>(by kernel_rfl)
def qQB:Sg:=⟨174,[(.c (.ptr 0 0 0 0 0)),aI],[[(0,⟨0,4,175,(.box [qS,qI,qB,(.own 0 1 1 0)])⟩),(1,⟨1,14,162,(.row [])⟩)]],⟨aI,[[(0,⟨0,4,175,(.box [qS,qI,qB,(.own 0 1 1 0)])⟩),(1,⟨1,14,162,(.row [])⟩)]],[]⟩⟩
def qEv (n:Nat) (v:Int×Nat×Int×RW×BA×Int×Bool×Nat×RW):Tr ((Int×Nat×Int×RW×BA×Int×Bool×Nat×RW)⊕((Int×BA×Int×Bool×Nat×RW)⊕(BA×Int×Bool×Nat×RW))):=(.ask ((decide (v.2.2.1<((v.2.1:Nat):Int)))) (.ask (decide (v.2.1=v.2.2.2.1.length∧0≤v.2.2.1∧v.2.2.1<((v.2.1:Nat):Int))) (.opt (v.2.2.2.1[(v.2.2.1).toNat]?) fun e139=>(.opt (zC .i64 e139 0) fun y140=>(.opt (qCT n y140) fun r141=>(.ask ((r141==v.1)) (.ask (decide (v.2.1=v.2.2.2.1.length∧0≤v.2.2.1∧v.2.2.1<((v.2.1:Nat):Int))) (.opt (v.2.2.2.1[(v.2.2.1).toNat]?) fun e142=>(.opt (zC .i64 e142 0) fun y143=>(.opt (qCw n y143) fun r144=>(.opt (qAJ n r144 v.2.2.2.2.1 v.2.2.2.2.2.1 v.2.2.2.2.2.2.1 v.2.2.2.2.2.2.2.1 v.2.2.2.2.2.2.2.2) fun r145=>(.ask (r145.1) (.ask (decide (v.2.1=v.2.2.2.1.length∧0≤v.2.2.1∧v.2.2.1<((v.2.1:Nat):Int))) (.opt (v.2.2.2.1[(v.2.2.1).toNat]?) fun e146=>(.opt (zC .i64 e146 0) fun y147=>(.done (.inr (.inl ((y147,r145.2.1,r145.2.2.1,r145.2.2.2.1,r145.2.2.2.2.1,r145.2.2.2.2.2))))))) .fail) (.done (.inl (v.1,v.2.1,(IntKind.i64.wrap (v.2.2.1+(1:Int))),v.2.2.2.1,r145.2.1,r145.2.2.1,r145.2.2.2.1,r145.2.2.2.2.1,r145.2.2.2.2.2)))))))) .fail) (.done (.inl (v.1,v.2.1,(IntKind.i64.wrap (v.2.2.1+(1:Int))),v.2.2.2.1,v.2.2.2.2.1,v.2.2.2.2.2.1,v.2.2.2.2.2.2.1,v.2.2.2.2.2.2.2.1,v.2.2.2.2.2.2.2.2))))))) .fail) (.done (.inr (.inr ((v.2.2.2.2.1,v.2.2.2.2.2.1,v.2.2.2.2.2.2.1,v.2.2.2.2.2.2.2.1,v.2.2.2.2.2.2.2.2))))))
def qKL (n:Nat) (x0:Int) (x1:BA) (x2:Int) (x3:Bool) (x4:Nat) (x5:RW):Tr (Int×BA×Int×Bool×Nat×RW):=(.opt (zD (qEv n) n (x0,(11:Nat),(0:Int),([[(.i .i64 (7:Int))],[(.i .i64 (9:Int))],[(.i .i64 (11:Int))],[(.i .i64 (6:Int))],[(.i .i64 (8:Int))],[(.i .i64 (10:Int))],[(.i .i64 (1:Int))],[(.i .i64 (2:Int))],[(.i .i64 (3:Int))],[(.i .i64 (4:Int))],[(.i .i64 (5:Int))]]:RW),x1,x2,x3,x4,x5)) fun r148=>(.alt r148 (fun r149=>(.done (r149.1,r149.2.1,r149.2.2.1,r149.2.2.2.1,r149.2.2.2.2.1,r149.2.2.2.2.2))) (fun r150=>(.done ((0:Int),r150.1,r150.2.1,r150.2.2.1,r150.2.2.2.1,r150.2.2.2.2)))))
def qEw:Nat→Int→BA→Int→Bool→Nat→RW→Option (Int×BA×Int×Bool×Nat×RW)
 |0,_,_,_,_,_,_=>none
 |n+1,x0,x1,x2,x3,x4,x5=>(qKL n x0 x1 x2 x3 x4 x5).run
abbrev qKM (n:Nat):List (Ent (Rn n)):= [en (qJb n),en (qKK n),en (qEO n)]
def qMz (n:Nat):LEnt (KB 174) (Rn n) n:=lok (zK 174) 29 ⟨⟨[(0,(.c (.ptr 0 0 0 0 0))),(1,aI),(5,(.c (.own 1 448 0 0))),(6,aI)],[(448,⟨0,1,2,(.row [])⟩)],[[(0,⟨0,4,175,(.box [qS,qI,qB,(.own 0 1 1 0)])⟩),(1,⟨1,14,162,(.row [])⟩)]]⟩,[(.ret,⟨[(4,aI)],[],[[(0,⟨0,4,175,(.box [qS,qI,qB,(.own 0 1 1 0)])⟩),(1,⟨1,14,162,(.row [])⟩)]]⟩),(.exit 0,⟨[],[],[[(0,⟨0,4,175,(.box [qS,qI,qB,(.own 0 1 1 0)])⟩),(1,⟨1,14,162,(.row [])⟩)]]⟩)]⟩ (qEv n) (qKM n) [] fun _=>(by kernel_rfl)
theorem qPC:∀n,Ok (Rn n) qQB (qEw n)
 |0=>ok0 fun _=>rfl
 |n+1=>stO (T:=qKL n) (by kernel_rfl) (qKM n) [qMz n] (fun _=>(by kernel_rfl)) fun _=>(by kernel_rfl)
def qJc:Sg:=⟨134,[(.c (.ptr 0 0 0 0 0)),aI],[[(0,⟨0,4,175,(.box [qS,qI,qB,(.own 0 1 1 0)])⟩),(1,⟨1,14,162,(.row [])⟩)]],⟨aI,[[(0,⟨0,4,175,(.box [qS,qI,qB,(.own 0 1 1 0)])⟩),(1,⟨1,14,162,(.row [])⟩)]],[]⟩⟩
def qPD:Sg:=⟨173,[(.c (.ptr 0 0 0 0 0))],[[(0,⟨0,4,175,(.box [qS,qI,qB,(.own 0 1 1 0)])⟩),(1,⟨1,14,162,(.row [])⟩)]],⟨aI,[[(0,⟨0,4,175,(.box [qS,qI,qB,(.own 0 1 1 0)])⟩),(1,⟨1,14,162,(.row [])⟩)]],[]⟩⟩
def qN0:Sg:=⟨212,[(.c (.ptr 0 0 0 0 0)),aI],[[(0,⟨0,4,175,(.box [qS,qI,qB,(.own 0 1 1 0)])⟩),(1,⟨1,14,162,(.row [])⟩)]],⟨aI,[[(0,⟨0,4,175,(.box [qS,qI,qB,(.own 0 1 1 0)])⟩),(1,⟨1,14,162,(.row [])⟩)]],[]⟩⟩
def qPE:Sg:=⟨232,[(.c (.ptr 0 0 0 0 0))],[[(0,⟨0,4,175,(.box [qS,qI,qB,(.own 0 1 1 0)])⟩),(1,⟨1,14,162,(.row [])⟩)]],⟨aI,[[(0,⟨0,4,175,(.box [qS,qI,qB,(.own 0 1 1 0)])⟩),(1,⟨1,14,162,(.row [])⟩)]],[]⟩⟩
structure G_spec_l3Rd_row where
 spec_l3Rd_row:Int→BA→Int→Bool→Nat→RW→Option (Int×BA×Int×Bool×Nat×RW)
 spec_l3Rd_one:BA→Int→Bool→Nat→RW→Option (Int×BA×Int×Bool×Nat×RW)
 spec_l3Rd_call:Int→BA→Int→Bool→Nat→RW→Option (Int×BA×Int×Bool×Nat×RW)
 spec_l3Rd_arg:BA→Int→Bool→Nat→RW→Option (Int×BA×Int×Bool×Nat×RW)
def qEY (rec:G_spec_l3Rd_row) (n:Nat) (v:Int×Int×BA×Int×Bool×Nat×RW):Tr ((Int×Int×BA×Int×Bool×Nat×RW)⊕((Int×BA×Int×Bool×Nat×RW)⊕(Int×BA×Int×Bool×Nat×RW))):=(.ask ((!v.2.2.2.2.1)) (.opt (qEw n v.1 v.2.2.1 v.2.2.2.1 v.2.2.2.2.1 v.2.2.2.2.2.1 v.2.2.2.2.2.2) fun r139=>(.ask ((r139.1==(0:Int))) (.done (.inr (.inl ((v.2.1,r139.2.1,r139.2.2.1,r139.2.2.2.1,r139.2.2.2.2.1,r139.2.2.2.2.2))))) (.opt (rec.spec_l3Rd_row (IntKind.i64.wrap (v.1+(1:Int))) r139.2.1 r139.2.2.1 r139.2.2.2.1 r139.2.2.2.2.1 r139.2.2.2.2.2) fun r140=>(.ask (decide (2=([[(.i .i64 v.2.1)],[(.i .i64 r140.1)]]:RW).length)) (.opt (qv n (5:Int) r139.1 (0:Int) (0:Int) (⟨#[]⟩:BA) (0:Int) (0:Int) false false (0:Int) (0:Int) false false ([[(.i .i64 v.2.1)],[(.i .i64 r140.1)]]:RW) r140.2.1 r140.2.2.1 r140.2.2.2.1 r140.2.2.2.2.1 r140.2.2.2.2.2) fun r141=>(.done (.inl (v.1,r141.1,r141.2.1,r141.2.2.1,r141.2.2.2.1,r141.2.2.2.2.1,r141.2.2.2.2.2)))) .fail)))) (.done (.inr (.inr ((v.2.1,v.2.2.1,v.2.2.2.1,v.2.2.2.2.1,v.2.2.2.2.2.1,v.2.2.2.2.2.2))))))
def qJd (rec:G_spec_l3Rd_row) (n:Nat) (x0:Int) (x1:BA) (x2:Int) (x3:Bool) (x4:Nat) (x5:RW):Tr (Int×BA×Int×Bool×Nat×RW):=(.ask (x3) (.done ((0:Int),x1,x2,x3,x4,x5)) (.ask ((x0==(5:Int))) (.opt (rec.spec_l3Rd_one x1 x2 x3 x4 x5) fun r137=>(.done (r137.1,r137.2.1,r137.2.2.1,r137.2.2.2.1,r137.2.2.2.2.1,r137.2.2.2.2.2))) (.opt (rec.spec_l3Rd_row (IntKind.i64.wrap (x0+(1:Int))) x1 x2 x3 x4 x5) fun r138=>(.opt (zD (qEY rec n) n (x0,r138.1,r138.2.1,r138.2.2.1,r138.2.2.2.1,r138.2.2.2.2.1,r138.2.2.2.2.2)) fun r142=>(.alt r142 (fun r143=>(.done (r143.1,r143.2.1,r143.2.2.1,r143.2.2.2.1,r143.2.2.2.2.1,r143.2.2.2.2.2))) (fun r144=>(.done (r144.1,r144.2.1,r144.2.2.1,r144.2.2.2.1,r144.2.2.2.2.1,r144.2.2.2.2.2))))))))
def qCk (n:Nat) (v:Int×BA×Int×Bool×Nat×RW):Tr ((Int×BA×Int×Bool×Nat×RW)⊕((Int×BA×Int×Bool×Nat×RW)⊕(BA×Int×Bool×Nat×RW))):=(.ask ((decide (v.1≤(5:Int)))) (.opt (qBZ n v.1) fun r86=>(.ask (decide (0≤(1:Int)∧(1:Int)≤(r86.size:Int)∧(r86.size:Int)≤r86.size)) (.ask ((decide ((IntKind.i64.wrap (v.2.2.1+((r86.extract ((1:Int)).toNat ((r86.size:Int)).toNat).size:Int)))≤(v.2.1.size:Int)))) (.ask (decide (0≤v.2.2.1∧v.2.2.1≤(IntKind.i64.wrap (v.2.2.1+((r86.extract ((1:Int)).toNat ((r86.size:Int)).toNat).size:Int)))∧(IntKind.i64.wrap (v.2.2.1+((r86.extract ((1:Int)).toNat ((r86.size:Int)).toNat).size:Int)))≤v.2.1.size)) (.ask (((v.2.1.extract (v.2.2.1).toNat ((IntKind.i64.wrap (v.2.2.1+((r86.extract ((1:Int)).toNat ((r86.size:Int)).toNat).size:Int)))).toNat).toList==(r86.extract ((1:Int)).toNat ((r86.size:Int)).toNat).toList)) (.opt (qC7 n v.1) fun r87=>(.opt (qv n (1:Int) (0:Int) r87.1 r87.2.1 r87.2.2 (0:Int) (0:Int) false false (0:Int) (0:Int) false false ([]:RW) v.2.1 (IntKind.i64.wrap (v.2.2.1+((r86.extract ((1:Int)).toNat ((r86.size:Int)).toNat).size:Int))) v.2.2.2.1 v.2.2.2.2.1 v.2.2.2.2.2) fun r88=>(.done (.inr (.inl ((r88.1,r88.2.1,r88.2.2.1,r88.2.2.2.1,r88.2.2.2.2.1,r88.2.2.2.2.2))))))) (.done (.inl ((IntKind.i64.wrap (v.1+(1:Int))),v.2.1,v.2.2.1,v.2.2.2.1,v.2.2.2.2.1,v.2.2.2.2.2)))) .fail) (.done (.inl ((IntKind.i64.wrap (v.1+(1:Int))),v.2.1,v.2.2.1,v.2.2.2.1,v.2.2.2.2.1,v.2.2.2.2.2)))) .fail)) (.done (.inr (.inr ((v.2.1,v.2.2.1,v.2.2.2.1,v.2.2.2.2.1,v.2.2.2.2.2))))))
def qDK (rec:G_spec_l3Rd_row) (n:Nat) (v:BA×Int×BA×Int×Bool×Nat×RW):Tr ((BA×Int×BA×Int×Bool×Nat×RW)⊕((Int×BA×Int×Bool×Nat×RW)⊕(BA×BA×Int×Bool×Nat×RW))):=(.ask ((decide (v.2.1≤(10:Int)))) (.opt (qCi n v.2.1) fun r104=>(.ask ((r104.toList==v.1.toList)) (.opt (qAJ n (⟨#[40]⟩:BA) v.2.2.1 v.2.2.2.1 v.2.2.2.2.1 v.2.2.2.2.2.1 v.2.2.2.2.2.2) fun r105=>(.ask (r105.1) (.opt (rec.spec_l3Rd_call v.2.1 r105.2.1 r105.2.2.1 r105.2.2.2.1 r105.2.2.2.2.1 r105.2.2.2.2.2) fun r106=>(.done (.inr (.inl ((r106.1,r106.2.1,r106.2.2.1,r106.2.2.2.1,r106.2.2.2.2.1,r106.2.2.2.2.2)))))) (.done (.inl (v.1,(IntKind.i64.wrap (v.2.1+(1:Int))),r105.2.1,r105.2.2.1,r105.2.2.2.1,r105.2.2.2.2.1,r105.2.2.2.2.2))))) (.done (.inl (v.1,(IntKind.i64.wrap (v.2.1+(1:Int))),v.2.2.1,v.2.2.2.1,v.2.2.2.2.1,v.2.2.2.2.2.1,v.2.2.2.2.2.2))))) (.done (.inr (.inr ((v.1,v.2.2.1,v.2.2.2.1,v.2.2.2.2.1,v.2.2.2.2.2.1,v.2.2.2.2.2.2))))))
def qJe (rec:G_spec_l3Rd_row) (n:Nat) (x0:BA) (x1:Int) (x2:Bool) (x3:Nat) (x4:RW):Tr (Int×BA×Int×Bool×Nat×RW):=(.opt (qAJ n (⟨#[45]⟩:BA) x0 x1 x2 x3 x4) fun r56=>(.ask (r56.1) (.opt (rec.spec_l3Rd_row (5:Int) r56.2.1 r56.2.2.1 r56.2.2.2.1 r56.2.2.2.2.1 r56.2.2.2.2.2) fun r57=>(.ask (decide (1=([[(.i .i64 r57.1)]]:RW).length)) (.opt (qv n (4:Int) (0:Int) (0:Int) (0:Int) (⟨#[]⟩:BA) (0:Int) (0:Int) false false (0:Int) (0:Int) false false ([[(.i .i64 r57.1)]]:RW) r57.2.1 r57.2.2.1 r57.2.2.2.1 r57.2.2.2.2.1 r57.2.2.2.2.2) fun r72=>(.done (r72.1,r72.2.1,r72.2.2.1,r72.2.2.2.1,r72.2.2.2.2.1,r72.2.2.2.2.2))) .fail)) (.opt (qAJ n (⟨#[40]⟩:BA) r56.2.1 r56.2.2.1 r56.2.2.2.1 r56.2.2.2.2.1 r56.2.2.2.2.2) fun r73=>(.ask (r73.1) (.opt (rec.spec_l3Rd_row (1:Int) r73.2.1 r73.2.2.1 r73.2.2.2.1 r73.2.2.2.2.1 r73.2.2.2.2.2) fun r74=>(.opt (qAJ n (⟨#[41]⟩:BA) r74.2.1 r74.2.2.1 r74.2.2.2.1 r74.2.2.2.2.1 r74.2.2.2.2.2) fun r75=>(.ask ((!r75.1)) (.done (r74.1,r75.2.1,r75.2.2.1,true,r75.2.2.2.2.1,r75.2.2.2.2.2)) (.done (r74.1,r75.2.1,r75.2.2.1,r75.2.2.2.1,r75.2.2.2.2.1,r75.2.2.2.2.2))))) (.opt (qAJ n (⟨#[34]⟩:BA) r73.2.1 r73.2.2.1 r73.2.2.2.1 r73.2.2.2.2.1 r73.2.2.2.2.2) fun r76=>(.ask (r76.1) (.opt (qFU n r76.2.1 r76.2.2.1 r76.2.2.2.1 r76.2.2.2.2.1 r76.2.2.2.2.2) fun r84=>(.done (r84.1,r84.2.1,r84.2.2.1,r84.2.2.2.1,r84.2.2.2.2.1,r84.2.2.2.2.2))) (.opt (qAJ n (⟨#[35]⟩:BA) r76.2.1 r76.2.2.1 r76.2.2.2.1 r76.2.2.2.2.1 r76.2.2.2.2.2) fun r85=>(.ask (r85.1) (.opt (zD (qCk n) n ((1:Int),r85.2.1,r85.2.2.1,r85.2.2.2.1,r85.2.2.2.2.1,r85.2.2.2.2.2)) fun r89=>(.alt r89 (fun r90=>(.done (r90.1,r90.2.1,r90.2.2.1,r90.2.2.2.1,r90.2.2.2.2.1,r90.2.2.2.2.2))) (fun r91=>(.done ((0:Int),r91.1,r91.2.1,true,r91.2.2.2.1,r91.2.2.2.2))))) (.opt (qC8 n r85.2.1 r85.2.2.1 r85.2.2.2.1 r85.2.2.2.2.1 r85.2.2.2.2.2) fun r103=>(.opt (zD (qDK rec n) n (r103.1,(1:Int),r103.2.1,r103.2.2.1,r103.2.2.2.1,r103.2.2.2.2.1,r103.2.2.2.2.2)) fun r107=>(.alt r107 (fun r108=>(.done (r108.1,r108.2.1,r108.2.2.1,r108.2.2.2.1,r108.2.2.2.2.1,r108.2.2.2.2.2))) (fun r109=>(.opt (qAL n r109.1) fun r131=>(.ask (r131.2.2.2) (.ask ((!(r109.1.toList==(⟨#[]⟩:BA).toList))) (.opt (qv n (1:Int) (0:Int) r131.1 r131.2.1 r131.2.2.1 (0:Int) (0:Int) false false (0:Int) (0:Int) false false ([]:RW) r109.2.1 r109.2.2.1 r109.2.2.2.1 r109.2.2.2.2.1 r109.2.2.2.2.2) fun r132=>(.done (r132.1,r132.2.1,r132.2.2.1,r132.2.2.2.1,r132.2.2.2.2.1,r132.2.2.2.2.2))) (.opt (qAu n r109.1) fun r133=>(.ask ((!r133.2.2.2.2)) (.done ((0:Int),r109.2.1,r109.2.2.1,true,r109.2.2.2.2.1,r109.2.2.2.2.2)) (.opt (qv n (2:Int) (0:Int) (0:Int) (0:Int) (⟨#[]⟩:BA) r133.1 r133.2.1 r133.2.2.1 r133.2.2.2.1 (0:Int) (0:Int) false false ([]:RW) r109.2.1 r109.2.2.1 r109.2.2.2.1 r109.2.2.2.2.1 r109.2.2.2.2.2) fun r134=>(.done (r134.1,r134.2.1,r134.2.2.1,r134.2.2.2.1,r134.2.2.2.2.1,r134.2.2.2.2.2)))))) (.opt (qAu n r109.1) fun r135=>(.ask ((!r135.2.2.2.2)) (.done ((0:Int),r109.2.1,r109.2.2.1,true,r109.2.2.2.2.1,r109.2.2.2.2.2)) (.opt (qv n (2:Int) (0:Int) (0:Int) (0:Int) (⟨#[]⟩:BA) r135.1 r135.2.1 r135.2.2.1 r135.2.2.2.1 (0:Int) (0:Int) false false ([]:RW) r109.2.1 r109.2.2.1 r109.2.2.2.1 r109.2.2.2.2.1 r109.2.2.2.2.2) fun r136=>(.done (r136.1,r136.2.1,r136.2.2.1,r136.2.2.2.1,r136.2.2.2.2.1,r136.2.2.2.2.2)))))))))))))))))))
def qD7 (rec:G_spec_l3Rd_row) (n:Nat) (v:Int×Nat×RW×BA×Int×Bool×Nat×RW):Tr ((Int×Nat×RW×BA×Int×Bool×Nat×RW)⊕((Int×BA×Int×Bool×Nat×RW)⊕(BA×Int×Bool×Nat×RW))):=(.ask ((!v.2.2.2.2.2.1)) (.opt (rec.spec_l3Rd_arg v.2.2.2.1 v.2.2.2.2.1 v.2.2.2.2.2.1 v.2.2.2.2.2.2.1 v.2.2.2.2.2.2.2) fun r108=>(.ask (decide (1=([[(.i .i64 r108.1)]]:RW).length)) (.ask (decide (v.2.1=v.2.2.1.length∧0<1∧0<8∧(v.2.1+([[(.i .i64 r108.1)]]:RW).length)*8≤140737488355328∧([[(.i .i64 r108.1)]]:RW).all (fun e=>e.length==1)=true)) (.opt (qAJ n (⟨#[41]⟩:BA) r108.2.1 r108.2.2.1 r108.2.2.2.1 r108.2.2.2.2.1 r108.2.2.2.2.2) fun r109=>(.ask (r109.1) (.ask (decide ((v.2.1+1)=(v.2.2.1++([[(.i .i64 r108.1)]]:RW)).length)) (.opt (qv n (6:Int) v.1 (0:Int) (0:Int) (⟨#[]⟩:BA) (0:Int) (0:Int) false false (0:Int) (0:Int) false false (v.2.2.1++([[(.i .i64 r108.1)]]:RW)) r109.2.1 r109.2.2.1 r109.2.2.2.1 r109.2.2.2.2.1 r109.2.2.2.2.2) fun r110=>(.done (.inr (.inl ((r110.1,r110.2.1,r110.2.2.1,r110.2.2.2.1,r110.2.2.2.2.1,r110.2.2.2.2.2)))))) .fail) (.opt (qAJ n (⟨#[44]⟩:BA) r109.2.1 r109.2.2.1 r109.2.2.2.1 r109.2.2.2.2.1 r109.2.2.2.2.2) fun r111=>(.ask ((!r111.1)) (.done (.inl (v.1,(v.2.1+1),(v.2.2.1++([[(.i .i64 r108.1)]]:RW)),r111.2.1,r111.2.2.1,true,r111.2.2.2.2.1,r111.2.2.2.2.2))) (.done (.inl (v.1,(v.2.1+1),(v.2.2.1++([[(.i .i64 r108.1)]]:RW)),r111.2.1,r111.2.2.1,r111.2.2.2.1,r111.2.2.2.2.1,r111.2.2.2.2.2))))))) .fail) .fail)) (.done (.inr (.inr ((v.2.2.2.1,v.2.2.2.2.1,v.2.2.2.2.2.1,v.2.2.2.2.2.2.1,v.2.2.2.2.2.2.2))))))
def qIb (rec:G_spec_l3Rd_row) (n:Nat) (x0:Int) (x1:BA) (x2:Int) (x3:Bool) (x4:Nat) (x5:RW):Tr (Int×BA×Int×Bool×Nat×RW):=(.opt (zD (qD7 rec n) n (x0,(0:Nat),([]:RW),x1,x2,x3,x4,x5)) fun r112=>(.alt r112 (fun r113=>(.done (r113.1,r113.2.1,r113.2.2.1,r113.2.2.2.1,r113.2.2.2.2.1,r113.2.2.2.2.2))) (fun r114=>(.done ((0:Int),r114.1,r114.2.1,r114.2.2.1,r114.2.2.2.1,r114.2.2.2.2)))))
def qJf (rec:G_spec_l3Rd_row) (n:Nat) (x0:BA) (x1:Int) (x2:Bool) (x3:Nat) (x4:RW):Tr (Int×BA×Int×Bool×Nat×RW):=(.opt (qBo n x0 x1 x2 x3 x4) fun r108=>(.opt (qC8 n r108.1 r108.2.1 r108.2.2.1 r108.2.2.2.1 r108.2.2.2.2) fun r109=>(.opt (qAu n r109.1) fun r154=>(.ask (r154.2.2.2.2) (.opt (qAJ n (⟨#[58]⟩:BA) r109.2.1 r109.2.2.1 r109.2.2.2.1 r109.2.2.2.2.1 r109.2.2.2.2.2) fun r155=>(.ask (r155.1) (.opt (qBo n r155.2.1 r155.2.2.1 r155.2.2.2.1 r155.2.2.2.2.1 r155.2.2.2.2.2) fun r156=>(.opt (qC8 n r156.1 r156.2.1 r156.2.2.1 r156.2.2.2.1 r156.2.2.2.2) fun r157=>(.opt (qAu n r157.1) fun r158=>(.ask ((!r158.2.2.2.2)) (.done ((0:Int),r157.2.1,r157.2.2.1,true,r157.2.2.2.2.1,r157.2.2.2.2.2)) (.opt (qv n (3:Int) (0:Int) (0:Int) (0:Int) (⟨#[]⟩:BA) r154.1 r154.2.1 r154.2.2.1 r154.2.2.2.1 r158.1 r158.2.1 r158.2.2.1 r158.2.2.2.1 ([]:RW) r157.2.1 r157.2.2.1 r157.2.2.2.1 r157.2.2.2.2.1 r157.2.2.2.2.2) fun r159=>(.done (r159.1,r159.2.1,r159.2.2.1,r159.2.2.2.1,r159.2.2.2.2.1,r159.2.2.2.2.2))))))) (.opt (rec.spec_l3Rd_row (1:Int) r155.2.1 r108.2.1 r155.2.2.2.1 r155.2.2.2.2.1 r155.2.2.2.2.2) fun r160=>(.done (r160.1,r160.2.1,r160.2.2.1,r160.2.2.2.1,r160.2.2.2.2.1,r160.2.2.2.2.2))))) (.opt (rec.spec_l3Rd_row (1:Int) r109.2.1 r108.2.1 r109.2.2.2.1 r109.2.2.2.2.1 r109.2.2.2.2.2) fun r161=>(.done (r161.1,r161.2.1,r161.2.2.1,r161.2.2.2.1,r161.2.2.2.2.1,r161.2.2.2.2.2)))))))
def qc:Nat→G_spec_l3Rd_row
 |0=>⟨fun _ _ _ _ _ _=>none,fun _ _ _ _ _=>none,fun _ _ _ _ _ _=>none,fun _ _ _ _ _=>none⟩
 |n+1=>⟨fun x0 x1 x2 x3 x4 x5=>(qJd (qc n) n x0 x1 x2 x3 x4 x5).run,fun x0 x1 x2 x3 x4=>(qJe (qc n) n x0 x1 x2 x3 x4).run,fun x0 x1 x2 x3 x4 x5=>(qIb (qc n) n x0 x1 x2 x3 x4 x5).run,fun x0 x1 x2 x3 x4=>(qJf (qc n) n x0 x1 x2 x3 x4).run⟩
def qEQ (n:Nat) (x0:Int) (x1:BA) (x2:Int) (x3:Bool) (x4:Nat) (x5:RW):Option (Int×BA×Int×Bool×Nat×RW):=(qc n).spec_l3Rd_row x0 x1 x2 x3 x4 x5
def qJg (n:Nat) (x0:BA) (x1:Int) (x2:Bool) (x3:Nat) (x4:RW):Option (Int×BA×Int×Bool×Nat×RW):=(qc n).spec_l3Rd_one x0 x1 x2 x3 x4
def qIc (n:Nat) (x0:Int) (x1:BA) (x2:Int) (x3:Bool) (x4:Nat) (x5:RW):Option (Int×BA×Int×Bool×Nat×RW):=(qc n).spec_l3Rd_call x0 x1 x2 x3 x4 x5
def qJh (n:Nat) (x0:BA) (x1:Int) (x2:Bool) (x3:Nat) (x4:RW):Option (Int×BA×Int×Bool×Nat×RW):=(qc n).spec_l3Rd_arg x0 x1 x2 x3 x4
def qA8 (n:Nat):Prop:=
 Ok (Rn n) qJc (qEQ n)∧
 Ok (Rn n) qPD (qJg n)∧
 Ok (Rn n) qN0 (qIc n)∧
 Ok (Rn n) qPE (qJh n)
abbrev qJi (n:Nat) (ih:qA8 n):List (Ent (Rn n)):= [en ih.2.1,en ih.1,en (qPC n),en (qC6 n)]
def qL6 (n:Nat) (ih:qA8 n):LEnt (KB 134) (Rn n) n:=lok (zK 134) 62 ⟨⟨[(0,(.c (.ptr 0 0 0 0 0))),(1,aI),(5,aI)],[],[[(0,⟨0,4,175,(.box [qS,qI,qB,(.own 0 1 1 0)])⟩),(1,⟨1,14,162,(.row [])⟩)]]⟩,[(.ret,⟨[(4,aI)],[],[[(0,⟨0,4,175,(.box [qS,qI,qB,(.own 0 1 1 0)])⟩),(1,⟨1,14,162,(.row [])⟩)]]⟩),(.exit 0,⟨[(5,aI)],[],[[(0,⟨0,4,175,(.box [qS,qI,qB,(.own 0 1 1 0)])⟩),(1,⟨1,14,162,(.row [])⟩)]]⟩)]⟩ (qEY (qc n) n) (qJi n ih) [] fun _=>(by kernel_rfl)
abbrev qGB (n:Nat) (ih:qA8 n):List (Ent (Rn n)):= [en (qEO n),en ih.1,en (qC6 n),en (qMv n),en (qGp n),en (qO9 n),en (qHc n),en (qMw n),en ih.2.2.1,en (qHe n),en (qHd n)]
def qKN (n:Nat) (ih:qA8 n):LEnt (KB 173) (Rn n) n:=lok (zK 173) 7161 ⟨⟨[(0,(.c (.ptr 0 0 0 0 0))),(5,aI)],[],[[(0,⟨0,4,175,(.box [qS,qI,qB,(.own 0 1 1 0)])⟩),(1,⟨1,14,162,(.row [])⟩)]]⟩,[(.ret,⟨[(2,aI)],[],[[(0,⟨0,4,175,(.box [qS,qI,qB,(.own 0 1 1 0)])⟩),(1,⟨1,14,162,(.row [])⟩)]]⟩),(.exit 1,⟨[(0,(.c (.ptr 0 0 0 0 0)))],[],[[(0,⟨0,4,175,(.box [qS,qI,qB,(.own 0 1 1 0)])⟩),(1,⟨1,14,162,(.row [])⟩)]]⟩)]⟩ (qCk n) (qGB n ih) [] fun _=>(by kernel_rfl)
def qL7 (n:Nat) (ih:qA8 n):LEnt (KB 173) (Rn n) n:=lok (zK 173) 61 ⟨⟨[(0,(.c (.ptr 0 0 0 0 0))),(7,aS),(8,aI)],[],[[(0,⟨0,4,175,(.box [qS,qI,qB,(.own 0 1 1 0)])⟩),(1,⟨1,14,162,(.row [])⟩)]]⟩,[(.ret,⟨[(2,aI)],[],[[(0,⟨0,4,175,(.box [qS,qI,qB,(.own 0 1 1 0)])⟩),(1,⟨1,14,162,(.row [])⟩)]]⟩),(.exit 3,⟨[(0,(.c (.ptr 0 0 0 0 0))),(7,aS)],[],[[(0,⟨0,4,175,(.box [qS,qI,qB,(.own 0 1 1 0)])⟩),(1,⟨1,14,162,(.row [])⟩)]]⟩)]⟩ (qDK (qc n) n) (qGB n ih) [] fun _=>(by kernel_rfl)
abbrev qId (n:Nat) (ih:qA8 n):List (Ent (Rn n)):= [en ih.2.2.2,en (qEO n),en (qC6 n)]
def qLN (n:Nat) (ih:qA8 n):LEnt (KB 212) (Rn n) n:=lok (zK 212) 14 ⟨⟨[(0,(.c (.ptr 0 0 0 0 0))),(1,aI),(5,(.c (.own 1 384 0 0)))],[(384,⟨0,1,2,(.row [])⟩)],[[(0,⟨0,4,175,(.box [qS,qI,qB,(.own 0 1 1 0)])⟩),(1,⟨1,14,162,(.row [])⟩)]]⟩,[(.ret,⟨[(4,aI)],[],[[(0,⟨0,4,175,(.box [qS,qI,qB,(.own 0 1 1 0)])⟩),(1,⟨1,14,162,(.row [])⟩)]]⟩),(.exit 0,⟨[],[],[[(0,⟨0,4,175,(.box [qS,qI,qB,(.own 0 1 1 0)])⟩),(1,⟨1,14,162,(.row [])⟩)]]⟩)]⟩ (qD7 (qc n) n) (qId n ih) [] fun _=>(by kernel_rfl)
abbrev qPF (n:Nat) (ih:qA8 n):List (Ent (Rn n)):= [en (qD5 n),en (qHc n),en (qHd n),en (qEO n),en (qC6 n),en ih.1]
theorem qA9:∀n,qA8 n
 |0=>⟨ok0 fun _=>rfl,ok0 fun _=>rfl,ok0 fun _=>rfl,ok0 fun _=>rfl⟩
 |n+1=>⟨stO (T:=qJd (qc n) n) (by kernel_rfl) (qJi n (qA9 n)) [qL6 n (qA9 n)] (fun _=>(by kernel_rfl)) fun _=>(by kernel_rfl),stO (T:=qJe (qc n) n) (by kernel_rfl) (qGB n (qA9 n)) [qKN n (qA9 n),qL7 n (qA9 n)] (fun _=>(by kernel_rfl)) fun _=>(by kernel_rfl),stO (T:=qIb (qc n) n) (by kernel_rfl) (qId n (qA9 n)) [qLN n (qA9 n)] (fun _=>(by kernel_rfl)) fun _=>(by kernel_rfl),stO (T:=qJf (qc n) n) (by kernel_rfl) (qPF n (qA9 n)) [] (fun _=>(by kernel_rfl)) fun _=>(by kernel_rfl)⟩
theorem qN1 (n:Nat):Ok (Rn n) qJc (qEQ n):=(qA9 n).1
def qH3:Sg:=⟨177,[aL,aI],[],⟨aI,[],[]⟩⟩
def qBA (rec:RW→Int→Option (Int)) (n:Nat) (v:RW×Int×Int×Int):Tr ((RW×Int×Int×Int)⊕((Int)⊕(Int))):=(.ask ((decide (v.2.2.2≥(0:Int)))) (.ask ((decide (v.2.2.1<(0:Int)))) (.done (.inr (.inl ((-1:Int))))) (.ask (decide (0≤v.2.1∧v.2.1<v.1.length)) (.opt (v.1[(v.2.1).toNat]?) fun e182=>(.ask (decide (e182.length=14)) (.opt (zd e182 13) fun y183=>(.ask (decide (0≤v.2.2.2∧v.2.2.2<y183.length)) (.opt (y183[(v.2.2.2).toNat]?) fun e184=>(.ask (decide (e184.length=1)) (.opt (zC .i64 e184 0) fun y185=>(.ask ((y185 !=v.2.2.1)) (.done (.inr (.inl ((-1:Int))))) (.opt (rec v.1 v.2.2.1) fun r186=>(.ask ((decide (r186<(0:Int)))) (.done (.inr (.inl ((-1:Int))))) (.done (.inl (v.1,v.2.1,(IntKind.i64.wrap (r186-(1:Int))),(IntKind.i64.wrap (v.2.2.2-(1:Int)))))))))) .fail)) .fail)) .fail)) .fail)) (.done (.inr (.inr (v.2.2.1)))))
def qH4 (rec:RW→Int→Option (Int)) (n:Nat) (x0:RW) (x1:Int):Tr (Int):=(.ask (decide (0≤x1∧x1<x0.length)) (.opt (x0[(x1).toNat]?) fun e180=>(.ask (decide (e180.length=14)) (.opt (zd e180 13) fun y181=>(.opt (zD (qBA rec n) n (x0,x1,(IntKind.i64.wrap (x1-(1:Int))),(IntKind.i64.wrap ((y181.length:Int)-(1:Int))))) fun r187=>(.alt r187 (fun r188=>(.done r188)) (fun r189=>(.done (IntKind.i64.wrap (r189+(1:Int)))))))) .fail)) .fail)
def qAv:Nat→RW→Int→Option (Int)
 |0,_,_=>none
 |n+1,x0,x1=>(qH4 (qAv n) n x0 x1).run
abbrev qLo (n:Nat) (ih:Ok (Rn n) qH3 (qAv n)):List (Ent (Rn n)):= [en ih]
def qN2 (n:Nat) (ih:Ok (Rn n) qH3 (qAv n)):LEnt (KB 177) (Rn n) n:=lok (zK 177) 29 ⟨⟨[(0,aL),(1,aI),(5,aI),(6,aI)],[],[]⟩,[(.ret,⟨[(4,aI)],[],[]⟩),(.exit 0,⟨[(5,aI)],[],[]⟩)]⟩ (qBA (qAv n) n) (qLo n ih) [] fun _=>(by kernel_rfl)
theorem qGt:∀n,Ok (Rn n) qH3 (qAv n)
 |0=>ok0 fun _=>rfl
 |n+1=>stO (T:=qH4 (qAv n) n) (by kernel_rfl) (qLo n (qGt n)) [qN2 n (qGt n)] (fun _=>(by kernel_rfl)) fun _=>(by kernel_rfl)
def qH5:Sg:=⟨178,[aL,aI],[],⟨aI,[],[]⟩⟩
def qDA (rec:RW→Int→Option (Int)) (n:Nat) (v:RW×Int×Int×Int):Tr ((RW×Int×Int×Int)⊕((Int))):=(.ask (decide (0≤v.2.1∧v.2.1<v.1.length)) (.opt (v.1[(v.2.1).toNat]?) fun e193=>(.ask (decide (e193.length=14)) (.opt (zd e193 13) fun y194=>(.ask ((decide (v.2.2.2<(y194.length:Int)))) (.ask (decide (0≤v.2.1∧v.2.1<v.1.length)) (.opt (v.1[(v.2.1).toNat]?) fun e195=>(.ask (decide (e195.length=14)) (.opt (zd e195 13) fun y196=>(.ask (decide (0≤v.2.2.2∧v.2.2.2<y196.length)) (.opt (y196[(v.2.2.2).toNat]?) fun e197=>(.ask (decide (e197.length=1)) (.opt (zC .i64 e197 0) fun y198=>(.opt (rec v.1 y198) fun r199=>(.done (.inl (v.1,v.2.1,(if r199>v.2.2.1 then r199 else v.2.2.1),(IntKind.i64.wrap (v.2.2.2+(1:Int)))))))) .fail)) .fail)) .fail)) .fail) (.done (.inr (v.2.2.1))))) .fail)) .fail)
def qH6 (rec:RW→Int→Option (Int)) (n:Nat) (x0:RW) (x1:Int):Tr (Int):=(.opt (zD (qDA rec n) n (x0,x1,(0:Int),(0:Int))) fun r200=>(.done (IntKind.i64.wrap (r200+(1:Int)))))
def qAw:Nat→RW→Int→Option (Int)
 |0,_,_=>none
 |n+1,x0,x1=>(qH6 (qAw n) n x0 x1).run
abbrev qLp (n:Nat) (ih:Ok (Rn n) qH5 (qAw n)):List (Ent (Rn n)):= [en ih]
def qN3 (n:Nat) (ih:Ok (Rn n) qH5 (qAw n)):LEnt (KB 178) (Rn n) n:=lok (zK 178) 29 ⟨⟨[(0,aL),(1,aI),(5,aI),(6,aI)],[],[]⟩,[(.exit 0,⟨[(5,aI)],[],[]⟩)]⟩ (qDA (qAw n) n) (qLp n ih) [] fun _=>(by kernel_rfl)
theorem qGu:∀n,Ok (Rn n) qH5 (qAw n)
 |0=>ok0 fun _=>rfl
 |n+1=>stO (T:=qH6 (qAw n) n) (by kernel_rfl) (qLp n (qGu n)) [qN3 n (qGu n)] (fun _=>(by kernel_rfl)) fun _=>(by kernel_rfl)
def qN4:Sg:=⟨136,[aL],[],⟨aB,[],[]⟩⟩
def qAn (n:Nat) (v:RW×Int×Int):Tr ((RW×Int×Int)⊕((Bool)⊕(RW×Int))):=(.ask (decide (0≤v.2.1∧v.2.1<v.1.length)) (.opt (v.1[(v.2.1).toNat]?) fun e163=>(.ask (decide (e163.length=14)) (.opt (zd e163 13) fun y164=>(.ask ((decide (v.2.2<(y164.length:Int)))) (.ask (decide (0≤v.2.1∧v.2.1<v.1.length)) (.opt (v.1[(v.2.1).toNat]?) fun e165=>(.ask (decide (e165.length=14)) (.opt (zd e165 13) fun y166=>(.ask (decide (0≤v.2.2∧v.2.2<y166.length)) (.opt (y166[(v.2.2).toNat]?) fun e167=>(.ask (decide (e167.length=1)) (.opt (zC .i64 e167 0) fun y168=>(.opt (qAx n y168 (0:Int) (IntKind.i64.wrap (v.2.1-(1:Int)))) fun r169=>(.ask ((!r169)) (.done (.inr (.inl (false)))) (.ask (decide (0≤y168∧y168<v.1.length)) (.opt (v.1[(y168).toNat]?) fun e170=>(.ask (decide (e170.length=14)) (.opt (zC .i64 e170 0) fun y171=>(.ask ((y171==(3:Int))) (.ask (decide (0≤v.2.1∧v.2.1<v.1.length)) (.opt (v.1[(v.2.1).toNat]?) fun e172=>(.ask (decide (e172.length=14)) (.opt (zC .i64 e172 0) fun y173=>(.ask ((y173 !=(6:Int))) (.done (.inr (.inl (false)))) (.done (.inl (v.1,v.2.1,(IntKind.i64.wrap (v.2.2+(1:Int)))))))) .fail)) .fail) (.done (.inl (v.1,v.2.1,(IntKind.i64.wrap (v.2.2+(1:Int)))))))) .fail)) .fail)))) .fail)) .fail)) .fail)) .fail) (.done (.inr (.inr ((v.1,v.2.1))))))) .fail)) .fail)
def qBE (n:Nat) (v:RW×Int):Tr ((RW×Int)⊕((Bool)⊕(RW))):=(.ask ((decide (v.2<(v.1.length:Int)))) (.ask (decide (0≤v.2∧v.2<v.1.length)) (.opt (v.1[(v.2).toNat]?) fun e147=>(.ask (decide (e147.length=14)) (.opt (zC .i64 e147 0) fun y148=>(.opt (zC .i64 e147 1) fun y149=>(.opt (zC .i64 e147 2) fun y150=>(.opt (zC .i64 e147 3) fun y151=>(.opt (zR e147 4) fun y152=>(.opt (zC .i64 e147 5) fun y153=>(.opt (zC .i64 e147 6) fun y154=>(.opt (zAG e147 7) fun y155=>(.opt (zAG e147 8) fun y156=>(.opt (zC .i64 e147 9) fun y157=>(.opt (zC .i64 e147 10) fun y158=>(.opt (zAG e147 11) fun y159=>(.opt (zAG e147 12) fun y160=>(.opt (zd e147 13) fun y161=>(.opt (qCB n y148 y149 y150 y151 y152 y153 y154 y155 y156 y157 y158 y159 y160 y161) fun r162=>(.ask ((!r162)) (.done (.inr (.inl (false)))) (.opt (zD (qAn n) n (v.1,v.2,(0:Int))) fun r174=>(.alt r174 (fun r175=>(.done (.inr (.inl (r175))))) (fun r176=>(.done (.inl (r176.1,(IntKind.i64.wrap (r176.2+(1:Int))))))))))))))))))))))))) .fail)) .fail) (.done (.inr (.inr (v.1)))))
def qDB (n:Nat) (x0:RW):Tr (Bool):=(.ask ((decide ((x0.length:Int)<(1:Int)))) (.done false) (.ask ((decide ((x0.length:Int)>(60:Int)))) (.done false) (.opt (zD (qBE n) n (x0,(0:Int))) fun r177=>(.alt r177 (fun r178=>(.done r178)) (fun r179=>(.opt (qAv n r179 (IntKind.i64.wrap ((r179.length:Int)-(1:Int)))) fun r190=>(.ask ((r190==(0:Int))) (.ask (decide (0≤(IntKind.i64.wrap ((r179.length:Int)-(1:Int)))∧(IntKind.i64.wrap ((r179.length:Int)-(1:Int)))<r179.length)) (.opt (r179[((IntKind.i64.wrap ((r179.length:Int)-(1:Int)))).toNat]?) fun e191=>(.ask (decide (e191.length=14)) (.opt (zC .i64 e191 0) fun y192=>(.ask ((y192 !=(3:Int))) (.opt (qAw n r179 (IntKind.i64.wrap ((r179.length:Int)-(1:Int)))) fun r201=>(.done (decide (r201≤(12:Int))))) (.done false))) .fail)) .fail) (.done false))))))))
def qBp:Nat→RW→Option (Bool)
 |0,_=>none
 |n+1,x0=>(qDB n x0).run
abbrev qFV (n:Nat):List (Ent (Rn n)):= [en (qIV n),en (qDw n),en (qGt n),en (qGu n)]
def qKO (n:Nat):LEnt (lb 29 (KB 136)) (Rn n) n:=lok (Uniq.pick (zK 136) 29) 475 ⟨⟨[(0,aL),(3,aI),(4,aI)],[],[]⟩,[(.ret,⟨[(2,aB)],[],[]⟩),(.exit 2,⟨[(0,aL),(3,aI)],[],[]⟩)]⟩ (qAn n) (qFV n) [] fun _=>(by kernel_rfl)
def qLO (n:Nat):LEnt (KB 136) (Rn n) n:=lok (zK 136) 29 ⟨⟨[(0,aL),(3,aI)],[],[]⟩,[(.ret,⟨[(2,aB)],[],[]⟩),(.exit 0,⟨[(0,aL)],[],[]⟩)]⟩ (qBE n) (qFV n) [qKO n] fun _=>(by kernel_rfl)
theorem qHf:∀n,Ok (Rn n) qN4 (qBp n)
 |0=>ok0 fun _=>rfl
 |n+1=>stO (T:=qDB n) (by kernel_rfl) (qFV n) [qLO n] (fun _=>(by kernel_rfl)) fun _=>(by kernel_rfl)
def qL8:Sg:=⟨93,[aS],[],⟨(.tup [(false,[qL]),(false,[qB])]),[],[]⟩⟩
def qGv (n:Nat) (x0:BA):Tr (RW×Bool):=(.opt (qCR n x0) fun r52=>(.ask ((!r52)) (.ask (decide (0=([]:RW).length)) (.done (([]:RW),false)) .fail) (.opt (qEQ n (1:Int) x0 (0:Int) false (0:Nat) ([]:RW)) fun r145=>(.opt (qBo n r145.2.1 r145.2.2.1 r145.2.2.2.1 r145.2.2.2.2.1 r145.2.2.2.2.2) fun r146=>(.ask (r146.2.2.1) (.ask (decide (0=([]:RW).length)) (.done (([]:RW),false)) .fail) (.ask ((decide (r146.2.1<(x0.size:Int)))) (.ask (decide (0=([]:RW).length)) (.done (([]:RW),false)) .fail) (.ask (decide (r146.2.2.2.1=r146.2.2.2.2.length)) (.opt (qBp n r146.2.2.2.2) fun r202=>(.ask (zAv (⟨(.c (.p (.b r202))),[],[]⟩:Res)) (.ask ((!r202)) (.ask (decide (0=([]:RW).length)) (.done (([]:RW),false)) .fail) (.ask (decide (r146.2.2.2.1=r146.2.2.2.2.length)) (.done (r146.2.2.2.2,true)) .fail)) .fail)) .fail)))))))
def qEZ:Nat→BA→Option (RW×Bool)
 |0,_=>none
 |n+1,x0=>(qGv n x0).run
abbrev qL9 (n:Nat):List (Ent (Rn n)):= [en (qF9 n),en (qN1 n),en (qD5 n),en (qHf n)]
theorem qLP:∀n,Ok (Rn n) qL8 (qEZ n)
 |0=>ok0 fun _=>rfl
 |n+1=>stO (T:=qGv n) (by kernel_rfl) (qL9 n) [] (fun _=>(by kernel_rfl)) fun _=>(by kernel_rfl)
def qQC:Sg:=⟨179,[aS],[],⟨aS,[],[]⟩⟩
def qBe (n:Nat) (v:BA×BA×Int):Tr ((BA×BA×Int)⊕((BA))):=(.ask ((decide (v.2.2<(v.1.size:Int)))) (.ask (decide (0≤v.2.2)) (.opt (v.1.toList[(v.2.2).toNat]?) fun c220=>(.ask (((c220.toNat:Int)==(34:Int))) (.ask (decide (v.2.1.size+(⟨#[34]⟩:BA).size≤9223372036854775807)) (.ask (decide (0≤v.2.2∧v.2.2≤(IntKind.i64.wrap (v.2.2+(1:Int)))∧(IntKind.i64.wrap (v.2.2+(1:Int)))≤v.1.size)) (.ask (decide ((v.2.1++(⟨#[34]⟩:BA)).size+(v.1.extract (v.2.2).toNat ((IntKind.i64.wrap (v.2.2+(1:Int)))).toNat).size≤9223372036854775807)) (.done (.inl (v.1,((v.2.1++(⟨#[34]⟩:BA))++(v.1.extract (v.2.2).toNat ((IntKind.i64.wrap (v.2.2+(1:Int)))).toNat)),(IntKind.i64.wrap (v.2.2+(1:Int)))))) .fail) .fail) .fail) (.ask (decide (0≤v.2.2∧v.2.2≤(IntKind.i64.wrap (v.2.2+(1:Int)))∧(IntKind.i64.wrap (v.2.2+(1:Int)))≤v.1.size)) (.ask (decide (v.2.1.size+(v.1.extract (v.2.2).toNat ((IntKind.i64.wrap (v.2.2+(1:Int)))).toNat).size≤9223372036854775807)) (.done (.inl (v.1,(v.2.1++(v.1.extract (v.2.2).toNat ((IntKind.i64.wrap (v.2.2+(1:Int)))).toNat)),(IntKind.i64.wrap (v.2.2+(1:Int)))))) .fail) .fail))) .fail) (.done (.inr (v.2.1))))
def qGw (n:Nat) (x0:BA):Tr (BA):=(.opt (zD (qBe n) n (x0,(⟨#[34]⟩:BA),(0:Int))) fun r221=>(.ask (decide (r221.size+(⟨#[34]⟩:BA).size≤9223372036854775807)) (.done (r221++(⟨#[34]⟩:BA))) .fail))
def qEx:Nat→BA→Option (BA)
 |0,_=>none
 |n+1,x0=>(qGw n x0).run
def qM0 (n:Nat):LEnt (KB 179) (Rn n) n:=lok (zK 179) 29 ⟨⟨[(0,aS),(3,aS),(4,aI)],[],[]⟩,[(.exit 0,⟨[(3,aS)],[],[]⟩)]⟩ (qBe n) [] [] fun _=>(by kernel_rfl)
theorem qPG:∀n,Ok (Rn n) qQC (qEx n)
 |0=>ok0 fun _=>rfl
 |n+1=>stO (T:=qGw n) (by kernel_rfl) [] [qM0 n] (fun _=>(by kernel_rfl)) fun _=>(by kernel_rfl)
def qI2:Sg:=⟨59,[aI],[],⟨aS,[],[]⟩⟩
def qDR (n:Nat) (v:Int×BA):Tr ((Int×BA)⊕((Int×BA))):=(.ask ((decide (v.1≥(10:Int)))) (.ask (decide (1=([[(.i .u8 (IntKind.u8.wrap (IntKind.i64.wrap ((48:Int)+(Int.tmod v.1 (10:Int))))))]]:RW).length)) (.opt (bytesOf ([[(.i .u8 (IntKind.u8.wrap (IntKind.i64.wrap ((48:Int)+(Int.tmod v.1 (10:Int))))))]]:RW)) fun l225=>(.ask (decide ((⟨l225.toArray⟩:BA).size+v.2.size≤9223372036854775807)) (.done (.inl ((IntKind.i64.wrap (Int.tdiv v.1 (10:Int))),((⟨l225.toArray⟩:BA)++v.2)))) .fail)) .fail) (.done (.inr ((v.1,v.2)))))
def qGc (rec:Int→Option (BA)) (n:Nat) (x0:Int):Tr (BA):=(.ask ((decide (x0<(0:Int)))) (.opt (rec (IntKind.i64.wrap (0-x0))) fun r224=>(.ask (decide ((⟨#[45]⟩:BA).size+r224.size≤9223372036854775807)) (.done ((⟨#[45]⟩:BA)++r224)) .fail)) (.opt (zD (qDR n) n (x0,(⟨#[]⟩:BA))) fun r226=>(.ask (decide (1=([[(.i .u8 (IntKind.u8.wrap (IntKind.i64.wrap ((48:Int)+r226.1))))]]:RW).length)) (.opt (bytesOf ([[(.i .u8 (IntKind.u8.wrap (IntKind.i64.wrap ((48:Int)+r226.1))))]]:RW)) fun l227=>(.ask (decide ((⟨l227.toArray⟩:BA).size+r226.2.size≤9223372036854775807)) (.done ((⟨l227.toArray⟩:BA)++r226.2)) .fail)) .fail)))
def qAz:Nat→Int→Option (BA)
 |0,_=>none
 |n+1,x0=>(qGc (qAz n) n x0).run
abbrev qM1 (n:Nat) (ih:Ok (Rn n) qI2 (qAz n)):List (Ent (Rn n)):= [en ih]
def qPH (n:Nat) (ih:Ok (Rn n) qI2 (qAz n)):LEnt (KB 59) (Rn n) n:=lok (zK 59) 30 ⟨⟨[(0,aI),(3,aS)],[],[]⟩,[(.exit 0,⟨[(0,aI),(3,aS)],[],[]⟩)]⟩ (qDR n) (qM1 n ih) [] fun _=>(by kernel_rfl)
theorem qFi:∀n,Ok (Rn n) qI2 (qAz n)
 |0=>ok0 fun _=>rfl
 |n+1=>stO (T:=qGc (qAz n) n) (by kernel_rfl) (qM1 n (qFi n)) [qPH n (qFi n)] (fun _=>(by kernel_rfl)) fun _=>(by kernel_rfl)
def qRK:Sg:=⟨140,[aI],[],⟨aS,[],[]⟩⟩
def qH7 (n:Nat) (x0:Int):Tr (BA):=(.ask ((x0==(1:Int))) (.done (⟨#[84,82,85,69]⟩:BA)) (.done (⟨#[70,65,76,83,69]⟩:BA)))
def qFj:Nat→Int→Option (BA)
 |0,_=>none
 |n+1,x0=>(qH7 n x0).run
theorem qQD:∀n,Ok (Rn n) qRK (qFj n)
 |0=>ok0 fun _=>rfl
 |n+1=>stO (T:=qH7 n) (by kernel_rfl) [] [] (fun _=>(by kernel_rfl)) fun _=>(by kernel_rfl)
def qN5:Sg:=⟨96,[(.agg [qI,qI,qS])],[],⟨aS,[],[]⟩⟩
def qBU (n:Nat) (x0 x1:Int) (x2:BA):Tr (BA):=(.opt (qY n x0 x1 x2) fun r223=>(.ask ((!r223)) (.done (⟨#[]⟩:BA)) (.ask ((x0==(1:Int))) (.opt (qAz n x1) fun r228=>(.done r228)) (.ask ((x0==(2:Int))) (.ask (decide ((⟨#[39]⟩:BA).size+x2.size≤9223372036854775807)) (.done ((⟨#[39]⟩:BA)++x2)) .fail) (.ask ((x0==(3:Int))) (.opt (qFj n x1) fun r229=>(.done r229)) (.ask ((x0==(4:Int))) (.opt (qBZ n x1) fun r230=>(.done r230)) (.done (⟨#[]⟩:BA))))))))
def qAW:Nat→Int→Int→BA→Option (BA)
 |0,_,_,_=>none
 |n+1,x0,x1,x2=>(qBU n x0 x1 x2).run
abbrev qN6 (n:Nat):List (Ent (Rn n)):= [en (qEP n),en (qFi n),en (qQD n),en (qGp n)]
theorem qHg:∀n,Ok (Rn n) qN5 (qAW n)
 |0=>ok0 fun _=>rfl
 |n+1=>stO (T:=qBU n) (by kernel_rfl) (qN6 n) [] (fun _=>(by kernel_rfl)) fun _=>(by kernel_rfl)
def qN7:Sg:=⟨58,[(.agg [qI,qI,qB,qB])],[],⟨aS,[],[]⟩⟩
def qDx (n:Nat) (x0 x1:Int) (x2 x3:Bool):Tr (BA):=(.opt (qAO n x0 x1) fun r232=>(.ask ((!r232)) (.done (⟨#[]⟩:BA)) (.opt (qC9 n x0) fun r233=>(.ask (x2) (.ask (decide ((⟨#[36]⟩:BA).size+r233.size≤9223372036854775807)) (.ask (x3) (.ask (decide (((⟨#[36]⟩:BA)++r233).size+(⟨#[36]⟩:BA).size≤9223372036854775807)) (.opt (qAz n x1) fun r234=>(.ask (decide ((((⟨#[36]⟩:BA)++r233)++(⟨#[36]⟩:BA)).size+r234.size≤9223372036854775807)) (.done ((((⟨#[36]⟩:BA)++r233)++(⟨#[36]⟩:BA))++r234)) .fail)) .fail) (.opt (qAz n x1) fun r235=>(.ask (decide (((⟨#[36]⟩:BA)++r233).size+r235.size≤9223372036854775807)) (.done (((⟨#[36]⟩:BA)++r233)++r235)) .fail))) .fail) (.ask (x3) (.ask (decide (r233.size+(⟨#[36]⟩:BA).size≤9223372036854775807)) (.opt (qAz n x1) fun r236=>(.ask (decide ((r233++(⟨#[36]⟩:BA)).size+r236.size≤9223372036854775807)) (.done ((r233++(⟨#[36]⟩:BA))++r236)) .fail)) .fail) (.opt (qAz n x1) fun r237=>(.ask (decide (r233.size+r237.size≤9223372036854775807)) (.done (r233++r237)) .fail)))))))
def qBq:Nat→Int→Int→Bool→Bool→Option (BA)
 |0,_,_,_,_=>none
 |n+1,x0,x1,x2,x3=>(qDx n x0 x1 x2 x3).run
abbrev qN8 (n:Nat):List (Ent (Rn n)):= [en (qEG n),en (qJa n),en (qFi n)]
theorem qM2:∀n,Ok (Rn n) qN7 (qBq n)
 |0=>ok0 fun _=>rfl
 |n+1=>stO (T:=qDx n) (by kernel_rfl) (qN8 n) [] (fun _=>(by kernel_rfl)) fun _=>(by kernel_rfl)
def qH8:Sg:=⟨137,[aL,aI,aI],[],⟨aS,[],[]⟩⟩
def qBf (rec:RW→Int→Int→Option (BA)) (n:Nat) (v:RW×BA×Int×Int×Int×Int×Int×BA×Int×Int×Bool×Bool×Int×Int×Bool×Bool×RW):Tr ((RW×BA×Int×Int×Int×Int×Int×BA×Int×Int×Bool×Bool×Int×Int×Bool×Bool×RW)⊕((BA))):=(.ask ((decide (v.2.2.1<(v.2.2.2.2.2.2.2.2.2.2.2.2.2.2.2.2.length:Int)))) (.ask ((decide (v.2.2.1>(0:Int)))) (.ask (decide (v.2.1.size+(⟨#[44]⟩:BA).size≤9223372036854775807)) (.ask (decide (0≤v.2.2.1∧v.2.2.1<v.2.2.2.2.2.2.2.2.2.2.2.2.2.2.2.2.length)) (.opt (v.2.2.2.2.2.2.2.2.2.2.2.2.2.2.2.2[(v.2.2.1).toNat]?) fun e253=>(.ask (decide (e253.length=1)) (.opt (zC .i64 e253 0) fun y254=>(.opt (rec v.1 y254 (0:Int)) fun r255=>(.ask (decide ((v.2.1++(⟨#[44]⟩:BA)).size+r255.size≤9223372036854775807)) (.done (.inl (v.1,((v.2.1++(⟨#[44]⟩:BA))++r255),(IntKind.i64.wrap (v.2.2.1+(1:Int))),v.2.2.2.1,v.2.2.2.2.1,v.2.2.2.2.2.1,v.2.2.2.2.2.2.1,v.2.2.2.2.2.2.2.1,v.2.2.2.2.2.2.2.2.1,v.2.2.2.2.2.2.2.2.2.1,v.2.2.2.2.2.2.2.2.2.2.1,v.2.2.2.2.2.2.2.2.2.2.2.1,v.2.2.2.2.2.2.2.2.2.2.2.2.1,v.2.2.2.2.2.2.2.2.2.2.2.2.2.1,v.2.2.2.2.2.2.2.2.2.2.2.2.2.2.1,v.2.2.2.2.2.2.2.2.2.2.2.2.2.2.2.1,v.2.2.2.2.2.2.2.2.2.2.2.2.2.2.2.2))) .fail))) .fail)) .fail) .fail) (.ask (decide (0≤v.2.2.1∧v.2.2.1<v.2.2.2.2.2.2.2.2.2.2.2.2.2.2.2.2.length)) (.opt (v.2.2.2.2.2.2.2.2.2.2.2.2.2.2.2.2[(v.2.2.1).toNat]?) fun e256=>(.ask (decide (e256.length=1)) (.opt (zC .i64 e256 0) fun y257=>(.opt (rec v.1 y257 (0:Int)) fun r258=>(.ask (decide (v.2.1.size+r258.size≤9223372036854775807)) (.done (.inl (v.1,(v.2.1++r258),(IntKind.i64.wrap (v.2.2.1+(1:Int))),v.2.2.2.1,v.2.2.2.2.1,v.2.2.2.2.2.1,v.2.2.2.2.2.2.1,v.2.2.2.2.2.2.2.1,v.2.2.2.2.2.2.2.2.1,v.2.2.2.2.2.2.2.2.2.1,v.2.2.2.2.2.2.2.2.2.2.1,v.2.2.2.2.2.2.2.2.2.2.2.1,v.2.2.2.2.2.2.2.2.2.2.2.2.1,v.2.2.2.2.2.2.2.2.2.2.2.2.2.1,v.2.2.2.2.2.2.2.2.2.2.2.2.2.2.1,v.2.2.2.2.2.2.2.2.2.2.2.2.2.2.2.1,v.2.2.2.2.2.2.2.2.2.2.2.2.2.2.2.2))) .fail))) .fail)) .fail)) (.done (.inr (v.2.1))))
def qB0 (rec:RW→Int→Int→Option (BA)) (n:Nat) (x0:RW) (x1 x2:Int):Tr (BA):=(.ask (decide (0≤x1∧x1<x0.length)) (.opt (x0[(x1).toNat]?) fun e205=>(.ask (decide (e205.length=14)) (.opt (zC .i64 e205 0) fun y206=>(.opt (zC .i64 e205 1) fun y207=>(.opt (zC .i64 e205 2) fun y208=>(.opt (zC .i64 e205 3) fun y209=>(.opt (zR e205 4) fun y210=>(.opt (zC .i64 e205 5) fun y211=>(.opt (zC .i64 e205 6) fun y212=>(.opt (zAG e205 7) fun y213=>(.opt (zAG e205 8) fun y214=>(.opt (zC .i64 e205 9) fun y215=>(.opt (zC .i64 e205 10) fun y216=>(.opt (zAG e205 11) fun y217=>(.opt (zAG e205 12) fun y218=>(.opt (zd e205 13) fun y219=>(.ask ((y206==(1:Int))) (.ask ((y208==(2:Int))) (.opt (qEx n y210) fun r222=>(.done r222)) (.opt (qAW n y208 y209 y210) fun r231=>(.done r231))) (.ask ((y206==(2:Int))) (.opt (qBq n y211 y212 y213 y214) fun r238=>(.done r238)) (.ask ((y206==(3:Int))) (.opt (qBq n y211 y212 y213 y214) fun r239=>(.ask (decide (r239.size+(⟨#[58]⟩:BA).size≤9223372036854775807)) (.opt (qBq n y215 y216 y217 y218) fun r240=>(.ask (decide ((r239++(⟨#[58]⟩:BA)).size+r240.size≤9223372036854775807)) (.done ((r239++(⟨#[58]⟩:BA))++r240)) .fail)) .fail)) (.ask ((y206==(4:Int))) (.ask (decide (0≤(0:Int)∧(0:Int)<y219.length)) (.opt (y219[((0:Int)).toNat]?) fun e241=>(.ask (decide (e241.length=1)) (.opt (zC .i64 e241 0) fun y242=>(.opt (rec x0 y242 (5:Int)) fun r243=>(.ask (decide ((⟨#[45]⟩:BA).size+r243.size≤9223372036854775807)) (.done ((⟨#[45]⟩:BA)++r243)) .fail))) .fail)) .fail) (.ask ((y206==(5:Int))) (.opt (qCT n y207) fun r244=>(.ask (decide (0≤(0:Int)∧(0:Int)<y219.length)) (.opt (y219[((0:Int)).toNat]?) fun e245=>(.ask (decide (e245.length=1)) (.opt (zC .i64 e245 0) fun y246=>(.ask (decide (0≤(1:Int)∧(1:Int)<y219.length)) (.opt (y219[((1:Int)).toNat]?) fun e247=>(.ask (decide (e247.length=1)) (.opt (zC .i64 e247 0) fun y248=>(.opt (rec x0 y246 r244) fun r249=>(.opt (qCw n y207) fun r250=>(.ask (decide (r249.size+r250.size≤9223372036854775807)) (.opt (rec x0 y248 (IntKind.i64.wrap (r244+(1:Int)))) fun r251=>(.ask (decide ((r249++r250).size+r251.size≤9223372036854775807)) (.ask ((decide (r244<x2))) (.ask (decide ((⟨#[40]⟩:BA).size+((r249++r250)++r251).size≤9223372036854775807)) (.ask (decide (((⟨#[40]⟩:BA)++((r249++r250)++r251)).size+(⟨#[41]⟩:BA).size≤9223372036854775807)) (.done (((⟨#[40]⟩:BA)++((r249++r250)++r251))++(⟨#[41]⟩:BA))) .fail) .fail) (.done ((r249++r250)++r251))) .fail)) .fail)))) .fail)) .fail)) .fail)) .fail)) (.opt (qCi n y207) fun r252=>(.ask (decide (r252.size+(⟨#[40]⟩:BA).size≤9223372036854775807)) (.opt (zD (qBf rec n) n (x0,(r252++(⟨#[40]⟩:BA)),(0:Int),y206,y207,y208,y209,y210,y211,y212,y213,y214,y215,y216,y217,y218,y219)) fun r259=>(.ask (decide (r259.size+(⟨#[41]⟩:BA).size≤9223372036854775807)) (.done (r259++(⟨#[41]⟩:BA))) .fail)) .fail))))))))))))))))))))) .fail)) .fail)
def qo:Nat→RW→Int→Int→Option (BA)
 |0,_,_,_=>none
 |n+1,x0,x1,x2=>(qB0 (qo n) n x0 x1 x2).run
abbrev qLq (n:Nat) (ih:Ok (Rn n) qH8 (qo n)):List (Ent (Rn n)):= [en (qPG n),en (qHg n),en (qM2 n),en ih,en (qJb n),en (qKK n),en (qMw n)]
def qM3 (n:Nat) (ih:Ok (Rn n) qH8 (qo n)):LEnt (KB 137) (Rn n) n:=lok (zK 137) 125 ⟨⟨[(0,aL),(7,(.c (.ptr 0 448 0 0 0))),(10,aS),(11,aI)],[(448,⟨0,14,162,(.box [qI,qI,qI,qI,qS,qI,qI,qB,qB,qI,qI,qB,qB,qL])⟩)],[]⟩,[(.exit 1,⟨[(10,aS)],[],[]⟩)]⟩ (qBf (qo n) n) (qLq n ih) [] fun _=>(by kernel_rfl)
theorem qGx:∀n,Ok (Rn n) qH8 (qo n)
 |0=>ok0 fun _=>rfl
 |n+1=>stO (T:=qB0 (qo n) n) (by kernel_rfl) (qLq n (qGx n)) [qM3 n (qGx n)] (fun _=>(by kernel_rfl)) fun _=>(by kernel_rfl)
def qMA:Sg:=⟨94,[aL],[],⟨aS,[],[]⟩⟩
def qDL (n:Nat) (x0:RW):Tr (BA):=(.opt (qBp n x0) fun r204=>(.ask ((!r204)) (.done (⟨#[]⟩:BA)) (.opt (qo n x0 (IntKind.i64.wrap ((x0.length:Int)-(1:Int))) (0:Int)) fun r260=>(.ask ((decide ((r260.size:Int)>(200:Int)))) (.done (⟨#[]⟩:BA)) (.done r260)))))
def qBr:Nat→RW→Option (BA)
 |0,_=>none
 |n+1,x0=>(qDL n x0).run
abbrev qMB (n:Nat):List (Ent (Rn n)):= [en (qHf n),en (qGx n)]
theorem qLQ:∀n,Ok (Rn n) qMA (qBr n)
 |0=>ok0 fun _=>rfl
 |n+1=>stO (T:=qDL n) (by kernel_rfl) (qMB n) [] (fun _=>(by kernel_rfl)) fun _=>(by kernel_rfl)
def qPI:Sg:=⟨95,[aS],[],⟨(.tup [(true,[qI,qI,qS]),(false,[qB])]),[],[]⟩⟩
def qBs (n:Nat) (v:BA×Bool×Int×Int×BA):Tr ((BA×Bool×Int×Int×BA)⊕((BA×Bool×Int×Int×BA))):=(.ask ((decide ((v.1.size:Int)>(1:Int)))) (.ask (decide (0≤(0:Int))) (.opt (v.1.toList[((0:Int)).toNat]?) fun c263=>(.ask (((c263.toNat:Int)==(48:Int))) (.ask (decide (0≤(1:Int)∧(1:Int)≤(v.1.size:Int)∧(v.1.size:Int)≤v.1.size)) (.done (.inl ((v.1.extract ((1:Int)).toNat ((v.1.size:Int)).toNat),v.2.1,v.2.2.1,v.2.2.2.1,v.2.2.2.2))) .fail) (.done (.inr ((v.1,v.2.1,v.2.2.1,v.2.2.2.1,v.2.2.2.2)))))) .fail) (.done (.inr ((v.1,v.2.1,v.2.2.1,v.2.2.2.1,v.2.2.2.2)))))
def qJj (n:Nat) (x0:BA):Tr (Int×Int×BA×Bool):=(.ask ((decide ((x0.size:Int)>(0:Int)))) (.ask (decide (0≤(0:Int))) (.opt (x0.toList[((0:Int)).toNat]?) fun c262=>(.ask (((c262.toNat:Int)==(45:Int))) (.ask (decide (0≤(1:Int)∧(1:Int)≤(x0.size:Int)∧(x0.size:Int)≤x0.size)) (.ask (((x0.extract ((1:Int)).toNat ((x0.size:Int)).toNat).toList==(⟨#[]⟩:BA).toList)) (.done ((0:Int),(0:Int),(⟨#[]⟩:BA),false)) (.opt (zD (qBs n) n ((x0.extract ((1:Int)).toNat ((x0.size:Int)).toNat),((c262.toNat:Int)==(45:Int)),(0:Int),(0:Int),(⟨#[]⟩:BA))) fun r264=>(.opt (qx n r264.1 (16:Int)) fun r265=>(.ask (r264.2.1) (.ask (r265.2) (.opt (qY n (1:Int) (IntKind.i64.wrap (0-r265.1)) (⟨#[]⟩:BA)) fun r266=>(.done ((1:Int),(IntKind.i64.wrap (0-r265.1)),(⟨#[]⟩:BA),r266))) (.done ((1:Int),(IntKind.i64.wrap (0-r265.1)),(⟨#[]⟩:BA),false))) (.ask (r265.2) (.opt (qY n (1:Int) r265.1 (⟨#[]⟩:BA)) fun r267=>(.done ((1:Int),r265.1,(⟨#[]⟩:BA),r267))) (.done ((1:Int),r265.1,(⟨#[]⟩:BA),false))))))) .fail) (.ask ((x0.toList==(⟨#[]⟩:BA).toList)) (.done ((0:Int),(0:Int),(⟨#[]⟩:BA),false)) (.opt (zD (qBs n) n (x0,((c262.toNat:Int)==(45:Int)),(0:Int),(0:Int),(⟨#[]⟩:BA))) fun r268=>(.opt (qx n r268.1 (16:Int)) fun r269=>(.ask (r268.2.1) (.ask (r269.2) (.opt (qY n (1:Int) (IntKind.i64.wrap (0-r269.1)) (⟨#[]⟩:BA)) fun r270=>(.done ((1:Int),(IntKind.i64.wrap (0-r269.1)),(⟨#[]⟩:BA),r270))) (.done ((1:Int),(IntKind.i64.wrap (0-r269.1)),(⟨#[]⟩:BA),false))) (.ask (r269.2) (.opt (qY n (1:Int) r269.1 (⟨#[]⟩:BA)) fun r271=>(.done ((1:Int),r269.1,(⟨#[]⟩:BA),r271))) (.done ((1:Int),r269.1,(⟨#[]⟩:BA),false))))))))) .fail) (.ask ((x0.toList==(⟨#[]⟩:BA).toList)) (.done ((0:Int),(0:Int),(⟨#[]⟩:BA),false)) (.opt (zD (qBs n) n (x0,false,(0:Int),(0:Int),(⟨#[]⟩:BA))) fun r272=>(.opt (qx n r272.1 (16:Int)) fun r273=>(.ask (r272.2.1) (.ask (r273.2) (.opt (qY n (1:Int) (IntKind.i64.wrap (0-r273.1)) (⟨#[]⟩:BA)) fun r274=>(.done ((1:Int),(IntKind.i64.wrap (0-r273.1)),(⟨#[]⟩:BA),r274))) (.done ((1:Int),(IntKind.i64.wrap (0-r273.1)),(⟨#[]⟩:BA),false))) (.ask (r273.2) (.opt (qY n (1:Int) r273.1 (⟨#[]⟩:BA)) fun r275=>(.done ((1:Int),r273.1,(⟨#[]⟩:BA),r275))) (.done ((1:Int),r273.1,(⟨#[]⟩:BA),false))))))))
def qGC:Nat→BA→Option (Int×Int×BA×Bool)
 |0,_=>none
 |n+1,x0=>(qJj n x0).run
abbrev qJk (n:Nat):List (Ent (Rn n)):= [en (qH1 n),en (qEP n)]
def qMC (n:Nat):LEnt (KB 95) (Rn n) n:=lok (zK 95) 62 ⟨⟨[(0,aS),(2,(.c (.ptr 0 128 0 0 0))),(4,aB)],[(128,⟨0,3,128,(.box [qI,qI,qS])⟩)],[]⟩,[(.exit 0,⟨[(0,aS),(2,(.c (.ptr 0 128 0 0 0))),(4,aB)],[(128,⟨0,3,128,(.box [qI,qI,qS])⟩)],[]⟩)]⟩ (qBs n) (qJk n) [] fun _=>(by kernel_rfl)
theorem qN9:∀n,Ok (Rn n) qPI (qGC n)
 |0=>ok0 fun _=>rfl
 |n+1=>stO (T:=qJj n) (by kernel_rfl) (qJk n) [qMC n] (fun _=>(by kernel_rfl)) fun _=>(by kernel_rfl)
def qQE:Sg:=⟨53,[aS],[],⟨(.tup [(false,[qS]),(false,[qB])]),[],[]⟩⟩
def qKP (n:Nat) (x0:BA):Tr (BA×Bool):=(.opt (qCR n x0) fun r50=>(.ask ((!r50)) (.done ((⟨#[]⟩:BA),false)) (.ask ((x0.toList==(⟨#[]⟩:BA).toList)) (.done ((⟨#[]⟩:BA),true)) (.ask (decide (0≤(0:Int))) (.opt (x0.toList[((0:Int)).toNat]?) fun c51=>(.ask (((c51.toNat:Int)==(61:Int))) (.ask (decide (0≤(1:Int)∧(1:Int)≤(x0.size:Int)∧(x0.size:Int)≤x0.size)) (.opt (qEZ n (x0.extract ((1:Int)).toNat ((x0.size:Int)).toNat)) fun r203=>(.opt (qBr n r203.1) fun r261=>(.ask ((!r203.2)) (.done ((⟨#[]⟩:BA),false)) (.ask ((r261.toList==(⟨#[]⟩:BA).toList)) (.done ((⟨#[]⟩:BA),false)) (.ask ((decide ((IntKind.i64.wrap ((r261.size:Int)+(1:Int)))>(200:Int)))) (.done ((⟨#[]⟩:BA),false)) (.ask (decide ((⟨#[61]⟩:BA).size+r261.size≤9223372036854775807)) (.done (((⟨#[61]⟩:BA)++r261),true)) .fail)))))) .fail) (.opt (qGC n x0) fun r276=>(.ask (r276.2.2.2) (.opt (qAW n r276.1 r276.2.1 r276.2.2.1) fun r277=>(.done (r277,true))) (.opt (qAL n x0) fun r278=>(.ask ((!r278.2.2.2)) (.opt (qAW n (2:Int) (0:Int) x0) fun r279=>(.ask ((decide ((r279.size:Int)>(200:Int)))) (.done ((⟨#[]⟩:BA),false)) (.done (r279,true)))) (.opt (qAW n r278.1 r278.2.1 r278.2.2.1) fun r280=>(.ask ((decide ((r280.size:Int)>(200:Int)))) (.done ((⟨#[]⟩:BA),false)) (.done (r280,true)))))))))) .fail))))
def qEy:Nat→BA→Option (BA×Bool)
 |0,_=>none
 |n+1,x0=>(qKP n x0).run
abbrev qQF (n:Nat):List (Ent (Rn n)):= [en (qF9 n),en (qLP n),en (qLQ n),en (qN9 n),en (qHg n),en (qHe n)]
theorem qPJ:∀n,Ok (Rn n) qQE (qEy n)
 |0=>ok0 fun _=>rfl
 |n+1=>stO (T:=qKP n) (by kernel_rfl) (qQF n) [] (fun _=>(by kernel_rfl)) fun _=>(by kernel_rfl)
def qQG:Sg:=⟨88,[(.agg [qI,qI]),(.agg [qI,qI])],[],⟨aB,[],[]⟩⟩
def qGy (n:Nat) (x0 x1 x2 x3:Int):Tr (Bool):=(.ask ((decide (x1<x3))) (.done true) (.ask ((x1==x3)) (.done (decide (x0<x2))) (.done false)))
def qDf:Nat→Int→Int→Int→Int→Option (Bool)
 |0,_,_,_,_=>none
 |n+1,x0,x1,x2,x3=>(qGy n x0 x1 x2 x3).run
theorem qPK:∀n,Ok (Rn n) qQG (qDf n)
 |0=>ok0 fun _=>rfl
 |n+1=>stO (T:=qGy n) (by kernel_rfl) [] [] (fun _=>(by kernel_rfl)) fun _=>(by kernel_rfl)
def qQH:Sg:=⟨44,[aL],[],⟨aB,[],[]⟩⟩
def qEz (n:Nat) (v:RW×Int):Tr ((RW×Int)⊕((Bool)⊕(Unit))):=(.ask ((decide (v.2<(v.1.length:Int)))) (.ask (decide (0≤v.2∧v.2<v.1.length)) (.opt (v.1[(v.2).toNat]?) fun e43=>(.ask (decide (e43.length=3)) (.opt (zR e43 2) fun y44=>(.opt (qEy n y44) fun r45=>(.ask (decide (0≤v.2∧v.2<v.1.length)) (.opt (v.1[(v.2).toNat]?) fun e46=>(.ask (decide (e46.length=3)) (.opt (zC .i64 e46 0) fun y47=>(.opt (zC .i64 e46 1) fun y48=>(.opt (qAO n y47 y48) fun r49=>(.ask ((!r49)) (.done (.inr (.inl (false)))) (.ask ((!r45.2)) (.done (.inr (.inl (false)))) (.ask (decide (0≤v.2∧v.2<v.1.length)) (.opt (v.1[(v.2).toNat]?) fun e50=>(.ask (decide (e50.length=3)) (.opt (zR e50 2) fun y51=>(.ask ((y51.toList==(⟨#[]⟩:BA).toList)) (.done (.inr (.inl (false)))) (.ask (decide (0≤v.2∧v.2<v.1.length)) (.opt (v.1[(v.2).toNat]?) fun e52=>(.ask (decide (e52.length=3)) (.opt (zR e52 2) fun y53=>(.ask ((!(r45.1.toList==y53.toList))) (.done (.inr (.inl (false)))) (.ask ((decide (v.2>(0:Int)))) (.ask (decide (0≤(IntKind.i64.wrap (v.2-(1:Int)))∧(IntKind.i64.wrap (v.2-(1:Int)))<v.1.length)) (.opt (v.1[((IntKind.i64.wrap (v.2-(1:Int)))).toNat]?) fun e54=>(.ask (decide (e54.length=3)) (.opt (zC .i64 e54 0) fun y55=>(.opt (zC .i64 e54 1) fun y56=>(.ask (decide (0≤v.2∧v.2<v.1.length)) (.opt (v.1[(v.2).toNat]?) fun e57=>(.ask (decide (e57.length=3)) (.opt (zC .i64 e57 0) fun y58=>(.opt (zC .i64 e57 1) fun y59=>(.opt (qDf n y55 y56 y58 y59) fun r60=>(.ask ((!r60)) (.done (.inr (.inl (false)))) (.done (.inl (v.1,(IntKind.i64.wrap (v.2+(1:Int)))))))))) .fail)) .fail))) .fail)) .fail) (.done (.inl (v.1,(IntKind.i64.wrap (v.2+(1:Int))))))))) .fail)) .fail))) .fail)) .fail)))))) .fail)) .fail))) .fail)) .fail) (.done (.inr (.inr (())))))
def qKQ (n:Nat) (x0:RW):Tr (Bool):=(.ask ((decide ((x0.length:Int)>(120:Int)))) (.done false) (.opt (zD (qEz n) n (x0,(0:Int))) fun r61=>(.alt r61 (fun r62=>(.done r62)) (fun r63=>(.done true)))))
def qDg:Nat→RW→Option (Bool)
 |0,_=>none
 |n+1,x0=>(qKQ n x0).run
abbrev qKR (n:Nat):List (Ent (Rn n)):= [en (qPJ n),en (qEG n),en (qPK n)]
def qM4 (n:Nat):LEnt (KB 44) (Rn n) n:=lok (zK 44) 29 ⟨⟨[(0,aL),(3,aI)],[],[]⟩,[(.ret,⟨[(2,aB)],[],[]⟩),(.exit 0,⟨[],[],[]⟩)]⟩ (qEz n) (qKR n) [] fun _=>(by kernel_rfl)
theorem qPL:∀n,Ok (Rn n) qQH (qDg n)
 |0=>ok0 fun _=>rfl
 |n+1=>stO (T:=qKQ n) (by kernel_rfl) (qKR n) [qM4 n] (fun _=>(by kernel_rfl)) fun _=>(by kernel_rfl)
def qQI:Sg:=⟨63,[(.agg [qI,qL,qL]),aI],[],⟨aI,[],[]⟩⟩
def qE0 (n:Nat) (v:Int×Int×Int×RW×RW):Tr ((Int×Int×Int×RW×RW)⊕((Int)⊕(Unit))):=(.ask ((decide (v.2.1<(v.2.2.2.1.length:Int)))) (.ask (decide (0≤v.2.1∧v.2.1<v.2.2.2.1.length)) (.opt (v.2.2.2.1[(v.2.1).toNat]?) fun e69=>(.ask (decide (e69.length=3)) (.opt (zC .i64 e69 0) fun y70=>(.ask ((y70==v.1)) (.done (.inr (.inl (v.2.1)))) (.done (.inl (v.1,(IntKind.i64.wrap (v.2.1+(1:Int))),v.2.2.1,v.2.2.2.1,v.2.2.2.2))))) .fail)) .fail) (.done (.inr (.inr (())))))
def qGz (n:Nat) (x0:Int) (x1 x2:RW) (x3:Int):Tr (Int):=(.opt (zD (qE0 n) n (x3,(0:Int),x0,x1,x2)) fun r71=>(.alt r71 (fun r72=>(.done r72)) (fun r73=>(.done (-1:Int)))))
def qCU:Nat→Int→RW→RW→Int→Option (Int)
 |0,_,_,_,_=>none
 |n+1,x0,x1,x2,x3=>(qGz n x0 x1 x2 x3).run
def qM5 (n:Nat):LEnt (KB 63) (Rn n) n:=lok (zK 63) 13 ⟨⟨[(1,aI),(2,(.c (.ptr 0 128 0 0 0))),(5,aI)],[(128,⟨0,3,50,(.box [qI,qL,qL])⟩)],[]⟩,[(.ret,⟨[(4,aI)],[],[]⟩),(.exit 0,⟨[],[],[]⟩)]⟩ (qE0 n) [] [] fun _=>(by kernel_rfl)
theorem qPM:∀n,Ok (Rn n) qQI (qCU n)
 |0=>ok0 fun _=>rfl
 |n+1=>stO (T:=qGz n) (by kernel_rfl) [] [qM5 n] (fun _=>(by kernel_rfl)) fun _=>(by kernel_rfl)
def qQJ:Sg:=⟨64,[aS],[],⟨aB,[],[]⟩⟩
def qE1 (n:Nat) (v:BA×Int):Tr ((BA×Int)⊕((Bool)⊕(Unit))):=(.ask ((decide (v.2<(v.1.size:Int)))) (.ask (decide (0≤v.2)) (.opt (v.1.toList[(v.2).toNat]?) fun c66=>(.ask ((decide ((c66.toNat:Int)<(97:Int)))) (.done (.inr (.inl (false)))) (.ask (decide (0≤v.2)) (.opt (v.1.toList[(v.2).toNat]?) fun c67=>(.ask ((decide ((c67.toNat:Int)>(122:Int)))) (.done (.inr (.inl (false)))) (.done (.inl (v.1,(IntKind.i64.wrap (v.2+(1:Int)))))))) .fail))) .fail) (.done (.inr (.inr (())))))
def qG0 (n:Nat) (x0:BA):Tr (Bool):=(.ask ((decide ((x0.size:Int)<(1:Int)))) (.done false) (.ask ((decide ((x0.size:Int)>(12:Int)))) (.done false) (.opt (zD (qE1 n) n (x0,(0:Int))) fun r68=>(.alt r68 (fun r69=>(.done r69)) (fun r70=>(.done true))))))
def qE2:Nat→BA→Option (Bool)
 |0,_=>none
 |n+1,x0=>(qG0 n x0).run
def qM6 (n:Nat):LEnt (KB 64) (Rn n) n:=lok (zK 64) 29 ⟨⟨[(0,aS),(3,aI)],[],[]⟩,[(.ret,⟨[(2,aB)],[],[]⟩),(.exit 0,⟨[],[],[]⟩)]⟩ (qE1 n) [] [] fun _=>(by kernel_rfl)
theorem qPN:∀n,Ok (Rn n) qQJ (qE2 n)
 |0=>ok0 fun _=>rfl
 |n+1=>stO (T:=qG0 n) (by kernel_rfl) [] [qM6 n] (fun _=>(by kernel_rfl)) fun _=>(by kernel_rfl)
def qSS:Sg:=⟨25,[(.agg [qI,qL,qL])],[],⟨aB,[],[]⟩⟩
def qDC (n:Nat) (v:Int×Int×Int×RW×RW×Int×RW×RW):Tr ((Int×Int×Int×RW×RW×Int×RW×RW)⊕((Bool)⊕(Int×Int×RW×RW))):=(.ask ((decide (v.2.1<(v.2.2.2.2.2.2.1.length:Int)))) (.ask (decide (0≤v.2.1∧v.2.1<v.2.2.2.2.2.2.1.length)) (.opt (v.2.2.2.2.2.2.1[(v.2.1).toNat]?) fun e44=>(.ask (decide (e44.length=1)) (.opt (zC .i64 e44 0) fun y45=>(.ask ((decide (y45≥v.2.2.2.2.2.1))) (.done (.inr (.inl (false)))) (.ask (decide (0≤v.2.1∧v.2.1<v.2.2.2.2.2.2.1.length)) (.opt (v.2.2.2.2.2.2.1[(v.2.1).toNat]?) fun e46=>(.ask (decide (e46.length=1)) (.opt (zC .i64 e46 0) fun y47=>(.opt (qCU n v.2.2.1 v.2.2.2.1 v.2.2.2.2.1 y47) fun r48=>(.ask ((decide (r48<(0:Int)))) (.done (.inr (.inl (false)))) (.ask ((decide (v.2.1>(0:Int)))) (.ask (decide (0≤(IntKind.i64.wrap (v.2.1-(1:Int)))∧(IntKind.i64.wrap (v.2.1-(1:Int)))<v.2.2.2.2.2.2.1.length)) (.opt (v.2.2.2.2.2.2.1[((IntKind.i64.wrap (v.2.1-(1:Int)))).toNat]?) fun e49=>(.ask (decide (e49.length=1)) (.opt (zC .i64 e49 0) fun y50=>(.ask (decide (0≤v.2.1∧v.2.1<v.2.2.2.2.2.2.1.length)) (.opt (v.2.2.2.2.2.2.1[(v.2.1).toNat]?) fun e51=>(.ask (decide (e51.length=1)) (.opt (zC .i64 e51 0) fun y52=>(.ask ((decide (y50≥y52))) (.done (.inr (.inl (false)))) (.done (.inl (v.1,(IntKind.i64.wrap (v.2.1+(1:Int))),v.2.2.1,v.2.2.2.1,v.2.2.2.2.1,v.2.2.2.2.2.1,v.2.2.2.2.2.2.1,v.2.2.2.2.2.2.2))))) .fail)) .fail)) .fail)) .fail) (.done (.inl (v.1,(IntKind.i64.wrap (v.2.1+(1:Int))),v.2.2.1,v.2.2.2.1,v.2.2.2.2.1,v.2.2.2.2.2.1,v.2.2.2.2.2.2.1,v.2.2.2.2.2.2.2))))))) .fail)) .fail))) .fail)) .fail) (.done (.inr (.inr ((v.1,v.2.2.1,v.2.2.2.1,v.2.2.2.2.1))))))
def qER (n:Nat) (v:Int×Int×RW×RW):Tr ((Int×Int×RW×RW)⊕((Bool)⊕(Int×RW×RW))):=(.ask ((decide (v.1<(v.2.2.1.length:Int)))) (.ask (decide (0≤v.1∧v.1<v.2.2.1.length)) (.opt (v.2.2.1[(v.1).toNat]?) fun e36=>(.ask (decide (e36.length=3)) (.opt (zC .i64 e36 0) fun y37=>(.opt (zd e36 1) fun y38=>(.opt (zd e36 2) fun y39=>(.opt (qAx n y37 (1:Int) (IntKind.i64.wrap (v.2.1-(1:Int)))) fun r40=>(.ask ((!r40)) (.done (.inr (.inl (false)))) (.ask ((decide (v.1>(0:Int)))) (.ask (decide (0≤(IntKind.i64.wrap (v.1-(1:Int)))∧(IntKind.i64.wrap (v.1-(1:Int)))<v.2.2.1.length)) (.opt (v.2.2.1[((IntKind.i64.wrap (v.1-(1:Int)))).toNat]?) fun e41=>(.ask (decide (e41.length=3)) (.opt (zC .i64 e41 0) fun y42=>(.ask ((decide (y42≥y37))) (.done (.inr (.inl (false)))) (.ask ((decide ((y38.length:Int)>(2:Int)))) (.done (.inr (.inl (false)))) (.opt (qDg n y39) fun r43=>(.ask ((!r43)) (.done (.inr (.inl (false)))) (.opt (zD (qDC n) n (v.1,(0:Int),v.2.1,v.2.2.1,v.2.2.2,y37,y38,y39)) fun r53=>(.alt r53 (fun r54=>(.done (.inr (.inl (r54))))) (fun r55=>(.done (.inl ((IntKind.i64.wrap (r55.1+(1:Int))),r55.2.1,r55.2.2.1,r55.2.2.2))))))))))) .fail)) .fail) (.ask ((decide ((y38.length:Int)>(2:Int)))) (.done (.inr (.inl (false)))) (.opt (qDg n y39) fun r56=>(.ask ((!r56)) (.done (.inr (.inl (false)))) (.opt (zD (qDC n) n (v.1,(0:Int),v.2.1,v.2.2.1,v.2.2.2,y37,y38,y39)) fun r57=>(.alt r57 (fun r58=>(.done (.inr (.inl (r58))))) (fun r59=>(.done (.inl ((IntKind.i64.wrap (r59.1+(1:Int))),r59.2.1,r59.2.2.1,r59.2.2.2))))))))))))))) .fail)) .fail) (.done (.inr (.inr ((v.2.1,v.2.2.1,v.2.2.2))))))
def qES (n:Nat) (v:Int×Int×RW×RW):Tr ((Int×Int×RW×RW)⊕((Bool)⊕(Unit))):=(.ask ((decide (v.1<(v.2.2.2.length:Int)))) (.ask (decide (0≤v.1∧v.1<v.2.2.2.length)) (.opt (v.2.2.2[(v.1).toNat]?) fun e63=>(.ask (decide (e63.length=2)) (.opt (zR e63 0) fun y64=>(.opt (zC .i64 e63 1) fun y65=>(.opt (qE2 n y64) fun r66=>(.ask ((!r66)) (.done (.inr (.inl (false)))) (.opt (qCU n v.2.1 v.2.2.1 v.2.2.2 y65) fun r67=>(.ask ((decide (r67<(0:Int)))) (.done (.inr (.inl (false)))) (.ask ((decide (v.1>(0:Int)))) (.ask (decide (0≤(IntKind.i64.wrap (v.1-(1:Int)))∧(IntKind.i64.wrap (v.1-(1:Int)))<v.2.2.2.length)) (.opt (v.2.2.2[((IntKind.i64.wrap (v.1-(1:Int)))).toNat]?) fun e68=>(.ask (decide (e68.length=2)) (.opt (zR e68 0) fun y69=>(.ask ((!(Op.bytesLess y69.toList y64.toList))) (.done (.inr (.inl (false)))) (.done (.inl ((IntKind.i64.wrap (v.1+(1:Int))),v.2.1,v.2.2.1,v.2.2.2))))) .fail)) .fail) (.done (.inl ((IntKind.i64.wrap (v.1+(1:Int))),v.2.1,v.2.2.1,v.2.2.2)))))))))) .fail)) .fail) (.done (.inr (.inr (())))))
def qI3 (n:Nat) (x0:Int) (x1 x2:RW):Tr (Bool):=(.opt (qAx n x0 (2:Int) (1000000000:Int)) fun r35=>(.ask ((!r35)) (.done false) (.ask ((decide ((x1.length:Int)<(1:Int)))) (.done false) (.ask ((decide ((x1.length:Int)>(40:Int)))) (.done false) (.ask ((decide ((x2.length:Int)<(1:Int)))) (.done false) (.ask ((decide ((x2.length:Int)>(8:Int)))) (.done false) (.opt (zD (qER n) n ((0:Int),x0,x1,x2)) fun r60=>(.alt r60 (fun r61=>(.done r61)) (fun r62=>(.opt (zD (qES n) n ((0:Int),r62.1,r62.2.1,r62.2.2)) fun r70=>(.alt r70 (fun r71=>(.done r71)) (fun r72=>(.done true)))))))))))))
def qI4:Nat→Int→RW→RW→Option (Bool)
 |0,_,_,_=>none
 |n+1,x0,x1,x2=>(qI3 n x0 x1 x2).run
abbrev qGd (n:Nat):List (Ent (Rn n)):= [en (qDw n),en (qPL n),en (qPM n),en (qPN n)]
def qOA (n:Nat):LEnt (lb 29 (KB 25)) (Rn n) n:=lok (Uniq.pick (zK 25) 29) 951 ⟨⟨[(1,(.c (.ptr 0 64 0 0 0))),(3,aI),(4,(.c (.ptr 0 256 0 0 0))),(5,aI)],[(64,⟨0,3,50,(.box [qI,qL,qL])⟩),(256,⟨0,3,96,(.box [qI,qL,qL])⟩)],[]⟩,[(.ret,⟨[(2,aB)],[],[]⟩),(.exit 2,⟨[(1,(.c (.ptr 0 64 0 0 0))),(3,aI)],[(64,⟨0,3,50,(.box [qI,qL,qL])⟩)],[]⟩)]⟩ (qDC n) (qGd n) [] fun _=>(by kernel_rfl)
def qPO (n:Nat):LEnt (KB 25) (Rn n) n:=lok (zK 25) 29 ⟨⟨[(1,(.c (.ptr 0 64 0 0 0))),(3,aI)],[(64,⟨0,3,50,(.box [qI,qL,qL])⟩)],[]⟩,[(.ret,⟨[(2,aB)],[],[]⟩),(.exit 0,⟨[(1,(.c (.ptr 0 64 0 0 0)))],[(64,⟨0,3,50,(.box [qI,qL,qL])⟩)],[]⟩)]⟩ (qER n) (qGd n) [qOA n] fun _=>(by kernel_rfl)
def qPP (n:Nat):LEnt (KB 25) (Rn n) n:=lok (zK 25) 61 ⟨⟨[(1,(.c (.ptr 0 64 0 0 0))),(6,aI)],[(64,⟨0,3,50,(.box [qI,qL,qL])⟩)],[]⟩,[(.ret,⟨[(2,aB)],[],[]⟩),(.exit 4,⟨[],[],[]⟩)]⟩ (qES n) (qGd n) [] fun _=>(by kernel_rfl)
theorem qRL:∀n,Ok (Rn n) qSS (qI4 n)
 |0=>ok0 fun _=>rfl
 |n+1=>stO (T:=qI3 n) (by kernel_rfl) (qGd n) [qPO n,qPP n] (fun _=>(by kernel_rfl)) fun _=>(by kernel_rfl)
def qQK:Sg:=⟨73,[(.agg [qI,qL,qL]),aS],[],⟨aI,[],[]⟩⟩
def qE3 (n:Nat) (v:BA×Int×Int×RW×RW):Tr ((BA×Int×Int×RW×RW)⊕((Int)⊕(Unit))):=(.ask ((decide (v.2.1<(v.2.2.2.2.length:Int)))) (.ask (decide (0≤v.2.1∧v.2.1<v.2.2.2.2.length)) (.opt (v.2.2.2.2[(v.2.1).toNat]?) fun e74=>(.ask (decide (e74.length=2)) (.opt (zR e74 0) fun y75=>(.ask ((y75.toList==v.1.toList)) (.ask (decide (0≤v.2.1∧v.2.1<v.2.2.2.2.length)) (.opt (v.2.2.2.2[(v.2.1).toNat]?) fun e76=>(.ask (decide (e76.length=2)) (.opt (zC .i64 e76 1) fun y77=>(.done (.inr (.inl (y77))))) .fail)) .fail) (.done (.inl (v.1,(IntKind.i64.wrap (v.2.1+(1:Int))),v.2.2.1,v.2.2.2.1,v.2.2.2.2))))) .fail)) .fail) (.done (.inr (.inr (())))))
def qG1 (n:Nat) (x0:Int) (x1 x2:RW) (x3:BA):Tr (Int):=(.opt (zD (qE3 n) n (x3,(0:Int),x0,x1,x2)) fun r78=>(.alt r78 (fun r79=>(.done r79)) (fun r80=>(.done (0:Int)))))
def qG2:Nat→Int→RW→RW→BA→Option (Int)
 |0,_,_,_,_=>none
 |n+1,x0,x1,x2,x3=>(qG1 n x0 x1 x2 x3).run
def qM7 (n:Nat):LEnt (KB 73) (Rn n) n:=lok (zK 73) 13 ⟨⟨[(1,aS),(2,(.c (.ptr 0 128 0 0 0))),(5,aI)],[(128,⟨0,3,50,(.box [qI,qL,qL])⟩)],[]⟩,[(.ret,⟨[(4,aI)],[],[]⟩),(.exit 0,⟨[],[],[]⟩)]⟩ (qE3 n) [] [] fun _=>(by kernel_rfl)
theorem qPQ:∀n,Ok (Rn n) qQK (qG2 n)
 |0=>ok0 fun _=>rfl
 |n+1=>stO (T:=qG1 n) (by kernel_rfl) [] [qM7 n] (fun _=>(by kernel_rfl)) fun _=>(by kernel_rfl)
def qRM:Sg:=⟨29,[(.agg [qI,qL,qL]),aS],[],⟨aI,[],[]⟩⟩
def qH9 (n:Nat) (x0:Int) (x1 x2:RW) (x3:BA):Tr (Int):=(.opt (qI4 n x0 x1 x2) fun r73=>(.ask ((!r73)) (.done (0:Int)) (.opt (qG2 n x0 x1 x2 x3) fun r81=>(.done r81))))
def qIA:Nat→Int→RW→RW→BA→Option (Int)
 |0,_,_,_,_=>none
 |n+1,x0,x1,x2,x3=>(qH9 n x0 x1 x2 x3).run
abbrev qRN (n:Nat):List (Ent (Rn n)):= [en (qRL n),en (qPQ n)]
theorem qQL:∀n,Ok (Rn n) qRM (qIA n)
 |0=>ok0 fun _=>rfl
 |n+1=>stO (T:=qH9 n) (by kernel_rfl) (qRN n) [] (fun _=>(by kernel_rfl)) fun _=>(by kernel_rfl)
def qRO:Sg:=⟨67,[aI,aI,aI],[],⟨aB,[],[]⟩⟩
def qIB (n:Nat) (x0 x1 x2:Int):Tr (Bool):=(.ask ((decide (x0≥x1))) (.done (decide (x0≤x2))) (.done false))
def qz:Nat→Int→Int→Int→Option (Bool)
 |0,_,_,_=>none
 |n+1,x0,x1,x2=>(qIB n x0 x1 x2).run
theorem qDD:∀n,Ok (Rn n) qRO (qz n)
 |0=>ok0 fun _=>rfl
 |n+1=>stO (T:=qIB n) (by kernel_rfl) [] [] (fun _=>(by kernel_rfl)) fun _=>(by kernel_rfl)
def qKS:Sg:=⟨111,[(.agg [qI,qL,qL]),(.c (.rp [vI] 0))],[],⟨aB,[],[]⟩⟩
def qFo (n:Nat) (x0:Int) (x1 x2:RW) (x3:Int):Tr (Bool):=(.opt (some x3:Option Int) fun y100=>(.done (x0==y100)))
def qFp:Nat→Int→RW→RW→Int→Option (Bool)
 |0,_,_,_,_=>none
 |n+1,x0,x1,x2,x3=>(qFo n x0 x1 x2 x3).run
theorem qJz:∀n,Ok (Rn n) qKS (qFp n)
 |0=>ok0 fun _=>rfl
 |n+1=>stO (T:=qFo n) (by kernel_rfl) [] [] (fun _=>(by kernel_rfl)) fun _=>(by kernel_rfl)
def qBO:Sg:=⟨110,[aL,(.c (.fn 111 [(.rp [vI])]))],[],⟨aI,[],[]⟩⟩
def qf (n:Nat) (v:RW×Int×Int×Int):Tr ((RW×Int×Int×Int)⊕((Int)⊕(Unit))):=(.ask ((decide (v.2.2.2<v.2.2.1))) (.ask (decide (0≤v.2.2.2∧v.2.2.2<v.1.length)) (.opt (v.1[(v.2.2.2).toNat]?) fun e96=>(.ask (decide (e96.length=3)) (.opt (zC .i64 e96 0) fun y97=>(.opt (zd e96 1) fun y98=>(.opt (zd e96 2) fun y99=>(.opt (qFp n y97 y98 y99 v.2.1) fun r100=>(.ask (r100) (.done (.inr (.inl (v.2.2.2)))) (.done (.inl (v.1,v.2.1,v.2.2.1,(IntKind.i64.wrap (v.2.2.2+(1:Int))))))))))) .fail)) .fail) (.done (.inr (.inr (())))))
def qk (n:Nat) (x0:RW) (x1:Int):Tr (Int):=(.opt (zD (qf n) n (x0,x1,(x0.length:Int),(0:Int))) fun r101=>(.alt r101 (fun r102=>(.done r102)) (fun r103=>(.done (-1:Int)))))
def ql:Nat→RW→Int→Option (Int)
 |0,_,_=>none
 |n+1,x0,x1=>(qk n x0 x1).run
abbrev qAM (n:Nat):List (Ent (Rn n)):= [en (qJz n)]
def qBF (n:Nat):LEnt (KB 110) (Rn n) n:=lok (zK 110) 13 ⟨⟨[(0,aL),(1,(.c (.fn 111 [(.rp [vI])]))),(7,aI),(8,aI)],[],[]⟩,[(.ret,⟨[(4,aI)],[],[]⟩),(.exit 0,⟨[],[],[]⟩)]⟩ (qf n) (qAM n) [] fun _=>(by kernel_rfl)
theorem qBL:∀n,Ok (Rn n) qBO (ql n)
 |0=>ok0 fun _=>rfl
 |n+1=>stO (T:=qk n) (by kernel_rfl) (qAM n) [qBF n] (fun _=>(by kernel_rfl)) fun _=>(by kernel_rfl)
def qMD:Sg:=⟨70,[(.agg [qI,qL,qL]),aI],[],⟨aI,[],[]⟩⟩
def qEa (n:Nat) (x0:Int) (x1 x2:RW) (x3:Int):Tr (Int):=(.opt (ql n x1 x3) fun r104=>(.done r104))
def qBP:Nat→Int→RW→RW→Int→Option (Int)
 |0,_,_,_,_=>none
 |n+1,x0,x1,x2,x3=>(qEa n x0 x1 x2 x3).run
abbrev qME (n:Nat):List (Ent (Rn n)):= [en (qBL n)]
theorem qGO:∀n,Ok (Rn n) qMD (qBP n)
 |0=>ok0 fun _=>rfl
 |n+1=>stO (T:=qEa n) (by kernel_rfl) (qME n) [] (fun _=>(by kernel_rfl)) fun _=>(by kernel_rfl)
def qOB:Sg:=⟨68,[(.agg [qI,qL,qL]),aL,aI],[],⟨aB,[],[]⟩⟩
def qD8 (n:Nat) (v:RW×Int×RW×Int×Int×Int×RW×RW):Tr ((RW×Int×RW×Int×Int×Int×RW×RW)⊕((Bool)⊕(RW))):=(.ask ((decide (v.2.2.2.2.1<v.2.2.2.1))) (.ask (decide (0≤v.2.2.2.2.1∧v.2.2.2.2.1<v.2.2.1.length)) (.opt (v.2.2.1[(v.2.2.2.2.1).toNat]?) fun e94=>(.ask (decide (e94.length=1)) (.opt (zC .i64 e94 0) fun y95=>(.ask ((decide (y95≥v.2.1))) (.done (.inr (.inl (false)))) (.opt (qBP n v.2.2.2.2.2.1 v.2.2.2.2.2.2.1 v.2.2.2.2.2.2.2 y95) fun r96=>(.ask ((decide (r96<(0:Int)))) (.done (.inr (.inl (false)))) (.ask ((decide (v.2.2.2.2.1>(0:Int)))) (.ask (decide (0≤(IntKind.i64.wrap (v.2.2.2.2.1-(1:Int)))∧(IntKind.i64.wrap (v.2.2.2.2.1-(1:Int)))<v.1.length)) (.opt (v.1[((IntKind.i64.wrap (v.2.2.2.2.1-(1:Int)))).toNat]?) fun e97=>(.ask (decide (e97.length=1)) (.opt (zC .i64 e97 0) fun y98=>(.ask ((decide (y98≥y95))) (.done (.inr (.inl (false)))) (.done (.inl (v.1,v.2.1,v.2.2.1,v.2.2.2.1,(IntKind.i64.wrap (v.2.2.2.2.1+(1:Int))),v.2.2.2.2.2.1,v.2.2.2.2.2.2.1,v.2.2.2.2.2.2.2))))) .fail)) .fail) (.done (.inl (v.1,v.2.1,v.2.2.1,v.2.2.2.1,(IntKind.i64.wrap (v.2.2.2.2.1+(1:Int))),v.2.2.2.2.2.1,v.2.2.2.2.2.2.1,v.2.2.2.2.2.2.2)))))))) .fail)) .fail) (.done (.inr (.inr (v.1)))))
def qIe (n:Nat) (x0:Int) (x1 x2 x3:RW) (x4:Int):Tr (Bool):=(.opt (zD (qD8 n) n (x3,x4,x3,(x3.length:Int),(0:Int),x0,x1,x2)) fun r99=>(.alt r99 (fun r100=>(.done r100)) (fun r101=>(.done (decide ((r101.length:Int)≤(2:Int)))))))
def qDE:Nat→Int→RW→RW→RW→Int→Option (Bool)
 |0,_,_,_,_,_=>none
 |n+1,x0,x1,x2,x3,x4=>(qIe n x0 x1 x2 x3 x4).run
abbrev qIf (n:Nat):List (Ent (Rn n)):= [en (qGO n)]
def qLR (n:Nat):LEnt (KB 68) (Rn n) n:=lok (zK 68) 13 ⟨⟨[(1,aL),(2,aI),(3,(.c (.ptr 0 192 0 0 0))),(9,aL),(10,aI),(11,aI)],[(192,⟨0,3,50,(.box [qI,qL,qL])⟩)],[]⟩,[(.ret,⟨[(6,aB)],[],[]⟩),(.exit 0,⟨[(1,aL)],[],[]⟩)]⟩ (qD8 n) (qIf n) [] fun _=>(by kernel_rfl)
theorem qM8:∀n,Ok (Rn n) qOB (qDE n)
 |0=>ok0 fun _=>rfl
 |n+1=>stO (T:=qIe n) (by kernel_rfl) (qIf n) [qLR n] (fun _=>(by kernel_rfl)) fun _=>(by kernel_rfl)
def qST:Sg:=⟨89,[(.agg [qI,qI])],[],⟨aB,[],[]⟩⟩
def qI5 (n:Nat) (x0 x1:Int):Tr (Bool):=(.opt (qz n x0 (1:Int) (52:Int)) fun r107=>(.ask (r107) (.opt (qz n x1 (1:Int) (99:Int)) fun r108=>(.done r108)) (.done false)))
def qB1:Nat→Int→Int→Option (Bool)
 |0,_,_=>none
 |n+1,x0,x1=>(qI5 n x0 x1).run
abbrev qSU (n:Nat):List (Ent (Rn n)):= [en (qDD n)]
theorem qFk:∀n,Ok (Rn n) qST (qB1 n)
 |0=>ok0 fun _=>rfl
 |n+1=>stO (T:=qI5 n) (by kernel_rfl) (qSU n) [] (fun _=>(by kernel_rfl)) fun _=>(by kernel_rfl)
def qM9:Sg:=⟨166,[aI],[],⟨aB,[],[]⟩⟩
def qE4 (n:Nat) (x0:Int):Tr (Bool):=(.done (x0 !=x0))
def qCl:Nat→Int→Option (Bool)
 |0,_=>none
 |n+1,x0=>(qE4 n x0).run
theorem qMF:∀n,Ok (Rn n) qM9 (qCl n)
 |0=>ok0 fun _=>rfl
 |n+1=>stO (T:=qE4 n) (by kernel_rfl) [] [] (fun _=>(by kernel_rfl)) fun _=>(by kernel_rfl)
def qLS:Sg:=⟨132,[aI,aI],[],⟨aI,[],[]⟩⟩
def qD9 (n:Nat) (x0 x1:Int):Tr (Int):=(.opt (qCl n x0) fun r113=>(.opt (qCl n x1) fun r114=>(.ask (r113) (.ask (r114) (.done (0:Int)) (.done (-1:Int))) (.ask (r114) (.done (1:Int)) (.ask ((decide (x0<x1))) (.done (-1:Int)) (.ask ((decide (x0>x1))) (.done (1:Int)) (.done (0:Int))))))))
def qCE:Nat→Int→Int→Option (Int)
 |0,_,_=>none
 |n+1,x0,x1=>(qD9 n x0 x1).run
abbrev qLT (n:Nat):List (Ent (Rn n)):= [en (qMF n)]
theorem qKT:∀n,Ok (Rn n) qLS (qCE n)
 |0=>ok0 fun _=>rfl
 |n+1=>stO (T:=qD9 n) (by kernel_rfl) (qLT n) [] (fun _=>(by kernel_rfl)) fun _=>(by kernel_rfl)
def qSV:Sg:=⟨131,[aL],[],⟨aI,[],[]⟩⟩
def qCg (n:Nat) (v:Int×RW×Int×Int):Tr ((Int×RW×Int×Int)⊕((Int)⊕(Int))):=(.ask ((decide (v.2.2.2<v.2.2.1))) (.ask (decide (0≤v.2.2.2∧v.2.2.2<v.2.1.length)) (.opt (v.2.1[(v.2.2.2).toNat]?) fun e117=>(.ask (decide (e117.length=1)) (.opt (zC .i64 e117 0) fun y118=>(.ask ((y118 !=v.1)) (.done (.inr (.inl (y118)))) (.done (.inl (v.1,v.2.1,v.2.2.1,(IntKind.i64.wrap (v.2.2.2+(1:Int)))))))) .fail)) .fail) (.done (.inr (.inr (v.1)))))
def qI6 (n:Nat) (x0:RW):Tr (Int):=(.opt (zD (qCg n) n ((0:Int),x0,(x0.length:Int),(0:Int))) fun r119=>(.alt r119 (fun r120=>(.done r120)) (fun r121=>(.done r121))))
def qGe:Nat→RW→Option (Int)
 |0,_=>none
 |n+1,x0=>(qI6 n x0).run
def qPR (n:Nat):LEnt (KB 131) (Rn n) n:=lok (zK 131) 29 ⟨⟨[(3,aI),(6,aL),(7,aI),(8,aI)],[],[]⟩,[(.ret,⟨[(2,aI)],[],[]⟩),(.exit 0,⟨[(3,aI)],[],[]⟩)]⟩ (qCg n) [] [] fun _=>(by kernel_rfl)
theorem qRP:∀n,Ok (Rn n) qSV (qGe n)
 |0=>ok0 fun _=>rfl
 |n+1=>stO (T:=qI6 n) (by kernel_rfl) [] [qPR n] (fun _=>(by kernel_rfl)) fun _=>(by kernel_rfl)
def qMG:Sg:=⟨90,[(.agg [qI,qI]),(.agg [qI,qI])],[],⟨aI,[],[]⟩⟩
def qEb (n:Nat) (x0 x1 x2 x3:Int):Tr (Int):=(.opt (qCE n x1 x3) fun r115=>(.opt (qCE n x0 x2) fun r116=>(.ask (decide (2=([[(.i .i64 r115)],[(.i .i64 r116)]]:RW).length)) (.opt (qGe n ([[(.i .i64 r115)],[(.i .i64 r116)]]:RW)) fun r122=>(.ask (zAv (⟨(.c (.p (.i .i64 r122))),[],[]⟩:Res)) (.done r122) .fail)) .fail)))
def qBt:Nat→Int→Int→Int→Int→Option (Int)
 |0,_,_,_,_=>none
 |n+1,x0,x1,x2,x3=>(qEb n x0 x1 x2 x3).run
abbrev qMH (n:Nat):List (Ent (Rn n)):= [en (qKT n),en (qRP n)]
theorem qLU:∀n,Ok (Rn n) qMG (qBt n)
 |0=>ok0 fun _=>rfl
 |n+1=>stO (T:=qEb n) (by kernel_rfl) (qMH n) [] (fun _=>(by kernel_rfl)) fun _=>(by kernel_rfl)
def qRQ:Sg:=⟨158,[aS,aI],[],⟨aB,[],[]⟩⟩
def qBu (n:Nat) (v:BA×Int×Int×Int):Tr ((BA×Int×Int×Int)⊕((Bool)⊕(BA×Int))):=(.ask ((decide (v.2.2.2<v.2.2.1))) (.ask (decide (0≤v.2.2.2)) (.opt (v.1.toList[(v.2.2.2).toNat]?) fun c124=>(.ask ((decide ((c124.toNat:Int)<(32:Int)))) (.done (.inr (.inl (false)))) (.ask (decide (0≤v.2.2.2)) (.opt (v.1.toList[(v.2.2.2).toNat]?) fun c125=>(.ask ((decide ((c125.toNat:Int)>(126:Int)))) (.done (.inr (.inl (false)))) (.done (.inl (v.1,v.2.1,v.2.2.1,(IntKind.i64.wrap (v.2.2.2+(1:Int)))))))) .fail))) .fail) (.done (.inr (.inr ((v.1,v.2.1))))))
def qIC (n:Nat) (x0:BA) (x1:Int):Tr (Bool):=(.opt (zD (qBu n) n (x0,x1,(x0.size:Int),(0:Int))) fun r126=>(.alt r126 (fun r127=>(.done r127)) (fun r128=>(.done (decide ((r128.1.size:Int)≤r128.2))))))
def qCx:Nat→BA→Int→Option (Bool)
 |0,_,_=>none
 |n+1,x0,x1=>(qIC n x0 x1).run
def qOC (n:Nat):LEnt (KB 158) (Rn n) n:=lok (zK 158) 13 ⟨⟨[(0,aS),(1,aI),(7,aI),(8,aI)],[],[]⟩,[(.ret,⟨[(4,aB)],[],[]⟩),(.exit 0,⟨[(0,aS),(1,aI)],[],[]⟩)]⟩ (qBu n) [] [] fun _=>(by kernel_rfl)
theorem qG3:∀n,Ok (Rn n) qRQ (qCx n)
 |0=>ok0 fun _=>rfl
 |n+1=>stO (T:=qIC n) (by kernel_rfl) [] [qOC n] (fun _=>(by kernel_rfl)) fun _=>(by kernel_rfl)
def qGP:Sg:=⟨118,[aS,aS],[],⟨(.tup [(false,[qS]),(false,[qB])]),[],[]⟩⟩
def qAK:Nat→BA→BA→Option ((BA×Bool))
 |0,_,_=>none
 |n+1,x0,x1=>zY x0 x1
theorem qCm:∀n,Ok (Rn n) qGP (qAK n)
 |0=>ok0 fun _=>rfl
 |n+1=>stL (by kernel_rfl) (fun a r e=>congrArg (Option.map fun r=>(qGP.Of r).v) e) rfl rfl rfl
def qG4:Sg:=⟨197,[aS,aS],[],⟨aS,[],[]⟩⟩
def qBQ:Nat→BA→BA→Option ((BA))
 |0,_,_=>none
 |n+1,x0,x1=>zN x0 x1
theorem qEA:∀n,Ok (Rn n) qG4 (qBQ n)
 |0=>ok0 fun _=>rfl
 |n+1=>stL (by kernel_rfl) (fun a r e=>congrArg (Option.map fun r=>(qG4.Of r).v) e) rfl rfl rfl
def qKU:Sg:=⟨160,[(.c (.ptr 0 0 0 0 0))],[[(0,⟨0,3,198,(.box [qS,(.own 0 1 1 0),qB])⟩),(1,⟨1,14,162,(.row [])⟩)]],⟨(.tup []),[[(0,⟨0,3,198,(.box [qS,(.own 0 1 1 0),qB])⟩),(1,⟨1,14,162,(.row [])⟩)]],[]⟩⟩
def qDh (n:Nat) (x0:BA) (x1:Nat) (x2:Bool) (x3:RW):Tr (BA×Nat×Bool×RW):=(.opt (qBQ n x0 (⟨#[32]⟩:BA)) fun r132=>(.done (r132,x1,x2,x3)))
def qA2:Nat→BA→Nat→Bool→RW→Option (BA×Nat×Bool×RW)
 |0,_,_,_,_=>none
 |n+1,x0,x1,x2,x3=>(qDh n x0 x1 x2 x3).run
abbrev qKV (n:Nat):List (Ent (Rn n)):= [en (qEA n)]
theorem qCZ:∀n,Ok (Rn n) qKU (qA2 n)
 |0=>ok0 fun _=>rfl
 |n+1=>stO (T:=qDh n) (by kernel_rfl) (qKV n) [] (fun _=>(by kernel_rfl)) fun _=>(by kernel_rfl)
def qE5:Sg:=⟨190,[aS,aS],[],⟨aB,[],[]⟩⟩
def qA0 (n:Nat) (x0 x1:BA):Tr (Bool):=(.ask ((decide ((x0.size:Int)≥(x1.size:Int)))) (.ask (decide (0≤(0:Int)∧(0:Int)≤(x1.size:Int)∧(x1.size:Int)≤x0.size)) (.done ((x0.extract ((0:Int)).toNat ((x1.size:Int)).toNat).toList==x1.toList)) .fail) (.done false))
def qAE:Nat→BA→BA→Option (Bool)
 |0,_,_=>none
 |n+1,x0,x1=>(qA0 n x0 x1).run
theorem qCc:∀n,Ok (Rn n) qE5 (qAE n)
 |0=>ok0 fun _=>rfl
 |n+1=>stO (T:=qA0 n) (by kernel_rfl) [] [] (fun _=>(by kernel_rfl)) fun _=>(by kernel_rfl)
def qLV:Sg:=⟨204,[aS,aS],[],⟨aB,[],[]⟩⟩
def qCF (n:Nat) (x0 x1:BA):Tr (Bool):=(.opt (qAE n x0 x1) fun r136=>(.done r136))
def qn:Nat→BA→BA→Option (Bool)
 |0,_,_=>none
 |n+1,x0,x1=>(qCF n x0 x1).run
abbrev qLW (n:Nat):List (Ent (Rn n)):= [en (qCc n)]
theorem qCn:∀n,Ok (Rn n) qLV (qn n)
 |0=>ok0 fun _=>rfl
 |n+1=>stO (T:=qCF n) (by kernel_rfl) (qLW n) [] (fun _=>(by kernel_rfl)) fun _=>(by kernel_rfl)
def qMI:Sg:=⟨192,[(.c (.ptr 0 0 0 0 0))],[[(0,⟨0,3,198,(.box [qS,(.own 0 1 1 0),qB])⟩),(1,⟨1,14,162,(.row [])⟩)]],⟨aS,[[(0,⟨0,3,198,(.box [qS,(.own 0 1 1 0),qB])⟩),(1,⟨1,14,162,(.row [])⟩)]],[]⟩⟩
def qCa (n:Nat) (v:Nat×Int×Int×RW×BA×Nat×Bool×RW):Tr ((Nat×Int×Int×RW×BA×Nat×Bool×RW)⊕((BA×BA×Nat×Bool×RW)⊕(BA×Nat×Bool×RW))):=(.ask ((decide (v.2.2.1<v.2.1))) (.ask (decide (v.1=v.2.2.2.1.length∧0≤v.2.2.1∧v.2.2.1<((v.1:Nat):Int))) (.opt (v.2.2.2.1[(v.2.2.1).toNat]?) fun e134=>(.opt (zR e134 0) fun y135=>(.opt (qn n v.2.2.2.2.1 y135) fun r136=>(.ask (r136) (.done (.inr (.inl ((y135,v.2.2.2.2.1,v.2.2.2.2.2.1,v.2.2.2.2.2.2.1,v.2.2.2.2.2.2.2))))) (.done (.inl (v.1,v.2.1,(IntKind.i64.wrap (v.2.2.1+(1:Int))),v.2.2.2.1,v.2.2.2.2.1,v.2.2.2.2.2.1,v.2.2.2.2.2.2.1,v.2.2.2.2.2.2.2))))))) .fail) (.done (.inr (.inr ((v.2.2.2.2.1,v.2.2.2.2.2.1,v.2.2.2.2.2.2.1,v.2.2.2.2.2.2.2))))))
def qG5 (n:Nat) (x0:BA) (x1:Nat) (x2:Bool) (x3:RW):Tr (BA×BA×Nat×Bool×RW):=(.opt (qA2 n x0 x1 x2 x3) fun r133=>(.opt (zD (qCa n) n ((15:Nat),(15:Int),(0:Int),([[(.s (⟨#[60,62]⟩:BA))],[(.s (⟨#[60,61]⟩:BA))],[(.s (⟨#[62,61]⟩:BA))],[(.s (⟨#[60]⟩:BA))],[(.s (⟨#[62]⟩:BA))],[(.s (⟨#[61]⟩:BA))],[(.s (⟨#[38]⟩:BA))],[(.s (⟨#[43]⟩:BA))],[(.s (⟨#[45]⟩:BA))],[(.s (⟨#[42]⟩:BA))],[(.s (⟨#[47]⟩:BA))],[(.s (⟨#[40]⟩:BA))],[(.s (⟨#[41]⟩:BA))],[(.s (⟨#[44]⟩:BA))],[(.s (⟨#[58]⟩:BA))]]:RW),r133.1,r133.2.1,r133.2.2.1,r133.2.2.2)) fun r137=>(.alt r137 (fun r138=>(.done (r138.1,r138.2.1,r138.2.2.1,r138.2.2.2.1,r138.2.2.2.2))) (fun r139=>(.done ((⟨#[]⟩:BA),r139.1,r139.2.1,r139.2.2.1,r139.2.2.2))))))
def qBv:Nat→BA→Nat→Bool→RW→Option (BA×BA×Nat×Bool×RW)
 |0,_,_,_,_=>none
 |n+1,x0,x1,x2,x3=>(qG5 n x0 x1 x2 x3).run
abbrev qG6 (n:Nat):List (Ent (Rn n)):= [en (qCZ n),en (qCn n)]
def qJ0 (n:Nat):LEnt (KB 192) (Rn n) n:=lok (zK 192) 29 ⟨⟨[(0,(.c (.ptr 0 0 0 0 0))),(7,(.c (.own 1 448 0 0))),(8,aI),(9,aI)],[(448,⟨0,1,9,(.row [])⟩)],[[(0,⟨0,3,198,(.box [qS,(.own 0 1 1 0),qB])⟩),(1,⟨1,14,162,(.row [])⟩)]]⟩,[(.ret,⟨[(2,aS)],[],[[(0,⟨0,3,198,(.box [qS,(.own 0 1 1 0),qB])⟩),(1,⟨1,14,162,(.row [])⟩)]]⟩),(.exit 0,⟨[],[],[[(0,⟨0,3,198,(.box [qS,(.own 0 1 1 0),qB])⟩),(1,⟨1,14,162,(.row [])⟩)]]⟩)]⟩ (qCa n) (qG6 n) [] fun _=>(by kernel_rfl)
theorem qGQ:∀n,Ok (Rn n) qMI (qBv n)
 |0=>ok0 fun _=>rfl
 |n+1=>stO (T:=qG5 n) (by kernel_rfl) (qG6 n) [qJ0 n] (fun _=>(by kernel_rfl)) fun _=>(by kernel_rfl)
def qMJ:Sg:=⟨195,[(.c (.ptr 0 0 0 0 0)),aS],[[(0,⟨0,3,198,(.box [qS,(.own 0 1 1 0),qB])⟩),(1,⟨1,14,162,(.row [])⟩)]],⟨aB,[[(0,⟨0,3,198,(.box [qS,(.own 0 1 1 0),qB])⟩),(1,⟨1,14,162,(.row [])⟩)]],[]⟩⟩
def qG7 (n:Nat) (x0 x1:BA) (x2:Nat) (x3:Bool) (x4:RW):Tr (Bool×BA×Nat×Bool×RW):=(.opt (qBv n x1 x2 x3 x4) fun r140=>(.ask ((!(r140.1.toList==x0.toList))) (.done (false,r140.2.1,r140.2.2.1,r140.2.2.2.1,r140.2.2.2.2)) (.ask (decide (0≤(x0.size:Int)∧(x0.size:Int)≤(r140.2.1.size:Int)∧(r140.2.1.size:Int)≤r140.2.1.size)) (.done (true,(r140.2.1.extract ((x0.size:Int)).toNat ((r140.2.1.size:Int)).toNat),r140.2.2.1,r140.2.2.2.1,r140.2.2.2.2)) .fail)))
def qr:Nat→BA→BA→Nat→Bool→RW→Option (Bool×BA×Nat×Bool×RW)
 |0,_,_,_,_,_=>none
 |n+1,x0,x1,x2,x3,x4=>(qG7 n x0 x1 x2 x3 x4).run
abbrev qMK (n:Nat):List (Ent (Rn n)):= [en (qGQ n)]
theorem qCG:∀n,Ok (Rn n) qMJ (qr n)
 |0=>ok0 fun _=>rfl
 |n+1=>stO (T:=qG7 n) (by kernel_rfl) (qMK n) [] (fun _=>(by kernel_rfl)) fun _=>(by kernel_rfl)
def qNA:Sg:=⟨196,[(.c (.ptr 0 0 0 0 0)),(.agg [qI,qI,qI,qI,qS,qI,qI,qB,qB,qI,qI,qB,qB,qL])],[[(0,⟨0,3,198,(.box [qS,(.own 0 1 1 0),qB])⟩),(1,⟨1,14,162,(.row [])⟩)]],⟨aI,[[(0,⟨0,3,198,(.box [qS,(.own 0 1 1 0),qB])⟩),(1,⟨1,14,162,(.row [])⟩)]],[]⟩⟩
def qHh (n:Nat) (x0 x1 x2 x3:Int) (x4:BA) (x5 x6:Int) (x7 x8:Bool) (x9 x10:Int) (x11 x12:Bool) (x13:RW) (x14:BA) (x15:Nat) (x16:Bool) (x17:RW):Tr (Int×BA×Nat×Bool×RW):=(.ask (x16) (.ask (false) (.ask (decide (1=([[(.i .i64 x0),(.i .i64 x1),(.i .i64 x2),(.i .i64 x3),(.s x4),(.i .i64 x5),(.i .i64 x6),(.b x7),(.b x8),(.i .i64 x9),(.i .i64 x10),(.b x11),(.b x12),(.ls x13)]]:RW).length)) (.ask (decide (x15=x17.length∧0<14∧0<120∧(x15+([[(.i .i64 x0),(.i .i64 x1),(.i .i64 x2),(.i .i64 x3),(.s x4),(.i .i64 x5),(.i .i64 x6),(.b x7),(.b x8),(.i .i64 x9),(.i .i64 x10),(.b x11),(.b x12),(.ls x13)]]:RW).length)*120≤140737488355328∧([[(.i .i64 x0),(.i .i64 x1),(.i .i64 x2),(.i .i64 x3),(.s x4),(.i .i64 x5),(.i .i64 x6),(.b x7),(.b x8),(.i .i64 x9),(.i .i64 x10),(.b x11),(.b x12),(.ls x13)]]:RW).all (fun e=>e.length==14)=true)) (.done ((IntKind.i64.wrap ((((x15+1):Nat):Int)-(1:Int))),x14,(x15+1),true,(x17++([[(.i .i64 x0),(.i .i64 x1),(.i .i64 x2),(.i .i64 x3),(.s x4),(.i .i64 x5),(.i .i64 x6),(.b x7),(.b x8),(.i .i64 x9),(.i .i64 x10),(.b x11),(.b x12),(.ls x13)]]:RW)))) .fail) .fail) (.done ((IntKind.i64.wrap (((x15:Nat):Int)-(1:Int))),x14,x15,true,x17))) (.ask ((!(decide (((x15:Nat):Int)≥(60:Int))))) (.ask (decide (1=([[(.i .i64 x0),(.i .i64 x1),(.i .i64 x2),(.i .i64 x3),(.s x4),(.i .i64 x5),(.i .i64 x6),(.b x7),(.b x8),(.i .i64 x9),(.i .i64 x10),(.b x11),(.b x12),(.ls x13)]]:RW).length)) (.ask (decide (x15=x17.length∧0<14∧0<120∧(x15+([[(.i .i64 x0),(.i .i64 x1),(.i .i64 x2),(.i .i64 x3),(.s x4),(.i .i64 x5),(.i .i64 x6),(.b x7),(.b x8),(.i .i64 x9),(.i .i64 x10),(.b x11),(.b x12),(.ls x13)]]:RW).length)*120≤140737488355328∧([[(.i .i64 x0),(.i .i64 x1),(.i .i64 x2),(.i .i64 x3),(.s x4),(.i .i64 x5),(.i .i64 x6),(.b x7),(.b x8),(.i .i64 x9),(.i .i64 x10),(.b x11),(.b x12),(.ls x13)]]:RW).all (fun e=>e.length==14)=true)) (.done ((IntKind.i64.wrap ((((x15+1):Nat):Int)-(1:Int))),x14,(x15+1),(decide (((x15:Nat):Int)≥(60:Int))),(x17++([[(.i .i64 x0),(.i .i64 x1),(.i .i64 x2),(.i .i64 x3),(.s x4),(.i .i64 x5),(.i .i64 x6),(.b x7),(.b x8),(.i .i64 x9),(.i .i64 x10),(.b x11),(.b x12),(.ls x13)]]:RW)))) .fail) .fail) (.done ((IntKind.i64.wrap (((x15:Nat):Int)-(1:Int))),x14,x15,(decide (((x15:Nat):Int)≥(60:Int))),x17))))
def qt:Nat→Int→Int→Int→Int→BA→Int→Int→Bool→Bool→Int→Int→Bool→Bool→RW→BA→Nat→Bool→RW→Option (Int×BA×Nat×Bool×RW)
 |0,_,_,_,_,_,_,_,_,_,_,_,_,_,_,_,_,_,_=>none
 |n+1,x0,x1,x2,x3,x4,x5,x6,x7,x8,x9,x10,x11,x12,x13,x14,x15,x16,x17=>(qHh n x0 x1 x2 x3 x4 x5 x6 x7 x8 x9 x10 x11 x12 x13 x14 x15 x16 x17).run
theorem qCV:∀n,Ok (Rn n) qNA (qt n)
 |0=>ok0 fun _=>rfl
 |n+1=>stO (T:=qHh n) (by kernel_rfl) [] [] (fun _=>(by kernel_rfl)) fun _=>(by kernel_rfl)
def qLr:Sg:=⟨261,[aS,aS],[],⟨(.tup [(false,[qS]),(false,[qS]),(false,[qB])]),[],[]⟩⟩
def qID:Nat→BA→BA→Option ((BA×BA×Bool))
 |0,_,_=>none
 |n+1,x0,x1=>zAS x0 x1
theorem qQM:∀n,Ok (Rn n) qLr (qID n)
 |0=>ok0 fun _=>rfl
 |n+1=>stL (by kernel_rfl) (fun a r e=>congrArg (Option.map fun r=>(qLr.Of r).v) e) rfl rfl rfl
def qI7:Sg:=⟨244,[(.c (.ptr 0 0 0 0 0)),(.agg [qI,qI,qS])],[[(0,⟨0,3,198,(.box [qS,(.own 0 1 1 0),qB])⟩),(1,⟨1,14,162,(.row [])⟩)]],⟨aI,[[(0,⟨0,3,198,(.box [qS,(.own 0 1 1 0),qB])⟩),(1,⟨1,14,162,(.row [])⟩)]],[]⟩⟩
def qE6 (n:Nat) (x0 x1:Int) (x2 x3:BA) (x4:Nat) (x5:Bool) (x6:RW):Tr (Int×BA×Nat×Bool×RW):=(.opt (qt n (1:Int) (0:Int) x0 x1 x2 (0:Int) (0:Int) false false (0:Int) (0:Int) false false ([]:RW) x3 x4 x5 x6) fun r151=>(.done (r151.1,r151.2.1,r151.2.2.1,r151.2.2.2.1,r151.2.2.2.2)))
def qi:Nat→Int→Int→BA→BA→Nat→Bool→RW→Option (Int×BA×Nat×Bool×RW)
 |0,_,_,_,_,_,_,_=>none
 |n+1,x0,x1,x2,x3,x4,x5,x6=>(qE6 n x0 x1 x2 x3 x4 x5 x6).run
abbrev qI8 (n:Nat):List (Ent (Rn n)):= [en (qCV n)]
theorem qEj:∀n,Ok (Rn n) qI7 (qi n)
 |0=>ok0 fun _=>rfl
 |n+1=>stO (T:=qE6 n) (by kernel_rfl) (qI8 n) [] (fun _=>(by kernel_rfl)) fun _=>(by kernel_rfl)
def qKW:Sg:=⟨243,[(.c (.ptr 0 0 0 0 0))],[[(0,⟨0,3,198,(.box [qS,(.own 0 1 1 0),qB])⟩),(1,⟨1,14,162,(.row [])⟩)]],⟨aI,[[(0,⟨0,3,198,(.box [qS,(.own 0 1 1 0),qB])⟩),(1,⟨1,14,162,(.row [])⟩)]],[]⟩⟩
def qDF (n:Nat) (v:BA×BA×BA×Nat×Bool×RW):Tr ((BA×BA×BA×Nat×Bool×RW)⊕((Int×BA×Nat×Bool×RW)⊕(BA×BA×BA×Nat×Bool×RW))):=(.opt (qID n v.2.1 (⟨#[34]⟩:BA)) fun r146=>(.ask ((!r146.2.2)) (.done (.inr (.inl (((-1:Int),v.2.2.1,v.2.2.2.1,true,v.2.2.2.2.2))))) (.ask (decide (v.1.size+r146.1.size≤9223372036854775807)) (.opt (qn n r146.2.1 (⟨#[34]⟩:BA)) fun r147=>(.ask ((!r147)) (.done (.inr (.inr (((v.1++r146.1),r146.2.1,v.2.2.1,v.2.2.2.1,v.2.2.2.2.1,v.2.2.2.2.2))))) (.ask (decide ((v.1++r146.1).size+(⟨#[34]⟩:BA).size≤9223372036854775807)) (.ask (decide (0≤(1:Int)∧(1:Int)≤(r146.2.1.size:Int)∧(r146.2.1.size:Int)≤r146.2.1.size)) (.done (.inl (((v.1++r146.1)++(⟨#[34]⟩:BA)),(r146.2.1.extract ((1:Int)).toNat ((r146.2.1.size:Int)).toNat),v.2.2.1,v.2.2.2.1,v.2.2.2.2.1,v.2.2.2.2.2))) .fail) .fail))) .fail)))
def qFq (n:Nat) (x0:BA) (x1:Nat) (x2:Bool) (x3:RW):Tr (Int×BA×Nat×Bool×RW):=(.ask (decide (0≤(1:Int)∧(1:Int)≤(x0.size:Int)∧(x0.size:Int)≤x0.size)) (.opt (zD (qDF n) n ((⟨#[]⟩:BA),(x0.extract ((1:Int)).toNat ((x0.size:Int)).toNat),x0,x1,x2,x3)) fun r148=>(.alt r148 (fun r149=>(.done (r149.1,r149.2.1,r149.2.2.1,r149.2.2.2.1,r149.2.2.2.2))) (fun r150=>(.opt (qi n (2:Int) (0:Int) r150.1 r150.2.1 r150.2.2.2.1 r150.2.2.2.2.1 r150.2.2.2.2.2) fun r152=>(.done (r152.1,r152.2.1,r152.2.2.1,r152.2.2.2.1,r152.2.2.2.2)))))) .fail)
def qDi:Nat→BA→Nat→Bool→RW→Option (Int×BA×Nat×Bool×RW)
 |0,_,_,_,_=>none
 |n+1,x0,x1,x2,x3=>(qFq n x0 x1 x2 x3).run
abbrev qFr (n:Nat):List (Ent (Rn n)):= [en (qQM n),en (qCn n),en (qEj n)]
def qIg (n:Nat):LEnt (KB 243) (Rn n) n:=lok (zK 243) 14 ⟨⟨[(0,(.c (.ptr 0 0 0 0 0))),(3,aS),(4,aS)],[],[[(0,⟨0,3,198,(.box [qS,(.own 0 1 1 0),qB])⟩),(1,⟨1,14,162,(.row [])⟩)]]⟩,[(.ret,⟨[(2,aI)],[],[[(0,⟨0,3,198,(.box [qS,(.own 0 1 1 0),qB])⟩),(1,⟨1,14,162,(.row [])⟩)]]⟩),(.exit 0,⟨[(0,(.c (.ptr 0 0 0 0 0))),(3,aS),(4,aS)],[],[[(0,⟨0,3,198,(.box [qS,(.own 0 1 1 0),qB])⟩),(1,⟨1,14,162,(.row [])⟩)]]⟩)]⟩ (qDF n) (qFr n) [] fun _=>(by kernel_rfl)
theorem qJ1:∀n,Ok (Rn n) qKW (qDi n)
 |0=>ok0 fun _=>rfl
 |n+1=>stO (T:=qFq n) (by kernel_rfl) (qFr n) [qIg n] (fun _=>(by kernel_rfl)) fun _=>(by kernel_rfl)
def qOD:Sg:=⟨205,[aI],[],⟨aS,[],[]⟩⟩
def qFW (n:Nat) (x0:Int):Tr (BA):=(.ask (decide (6=([[(.s (⟨#[]⟩:BA))],[(.s (⟨#[35,68,73,86,33]⟩:BA))],[(.s (⟨#[35,84,89,80,69,33]⟩:BA))],[(.s (⟨#[35,82,69,70,33]⟩:BA))],[(.s (⟨#[35,79,86,69,82,33]⟩:BA))],[(.s (⟨#[35,67,89,67,76,69,33]⟩:BA))]]:RW).length∧0≤x0∧x0<((6:Nat):Int))) (.opt (([[(.s (⟨#[]⟩:BA))],[(.s (⟨#[35,68,73,86,33]⟩:BA))],[(.s (⟨#[35,84,89,80,69,33]⟩:BA))],[(.s (⟨#[35,82,69,70,33]⟩:BA))],[(.s (⟨#[35,79,86,69,82,33]⟩:BA))],[(.s (⟨#[35,67,89,67,76,69,33]⟩:BA))]]:RW)[(x0).toNat]?) fun e155=>(.opt (zR e155 0) fun y156=>(.done y156))) .fail)
def qAl:Nat→Int→Option (BA)
 |0,_=>none
 |n+1,x0=>(qFW n x0).run
theorem qE7:∀n,Ok (Rn n) qOD (qAl n)
 |0=>ok0 fun _=>rfl
 |n+1=>stO (T:=qFW n) (by kernel_rfl) [] [] (fun _=>(by kernel_rfl)) fun _=>(by kernel_rfl)
def qSW:Sg:=⟨206,[aI],[],⟨(.agg [qI,qI,qS]),[],[]⟩⟩
def qI9 (n:Nat) (x0:Int):Tr (Int×Int×BA):=(.done ((4:Int),x0,(⟨#[]⟩:BA)))
def qB2:Nat→Int→Option (Int×Int×BA)
 |0,_=>none
 |n+1,x0=>(qI9 n x0).run
theorem qLs:∀n,Ok (Rn n) qSW (qB2 n)
 |0=>ok0 fun _=>rfl
 |n+1=>stO (T:=qI9 n) (by kernel_rfl) [] [] (fun _=>(by kernel_rfl)) fun _=>(by kernel_rfl)
def qML:Sg:=⟨245,[(.c (.ptr 0 0 0 0 0))],[[(0,⟨0,3,198,(.box [qS,(.own 0 1 1 0),qB])⟩),(1,⟨1,14,162,(.row [])⟩)]],⟨aS,[[(0,⟨0,3,198,(.box [qS,(.own 0 1 1 0),qB])⟩),(1,⟨1,14,162,(.row [])⟩)]],[]⟩⟩
def qG8 (n:Nat) (x0:BA) (x1:Nat) (x2:Bool) (x3:RW):Tr (BA×BA×Nat×Bool×RW):=(.opt (qA2 n x0 x1 x2 x3) fun r162=>(.opt (qBQ n r162.1 (⟨#[65,66,67,68,69,70,71,72,73,74,75,76,77,78,79,80,81,82,83,84,85,86,87,88,89,90,48,49,50,51,52,53,54,55,56,57,36]⟩:BA)) fun r163=>(.ask (decide (0≤(0:Int)∧(0:Int)≤(IntKind.i64.wrap ((r162.1.size:Int)-(r163.size:Int)))∧(IntKind.i64.wrap ((r162.1.size:Int)-(r163.size:Int)))≤r162.1.size)) (.ask (decide (0≤(IntKind.i64.wrap ((r162.1.size:Int)-(r163.size:Int)))∧(IntKind.i64.wrap ((r162.1.size:Int)-(r163.size:Int)))≤(r162.1.size:Int)∧(r162.1.size:Int)≤r162.1.size)) (.done ((r162.1.extract ((0:Int)).toNat ((IntKind.i64.wrap ((r162.1.size:Int)-(r163.size:Int)))).toNat),(r162.1.extract ((IntKind.i64.wrap ((r162.1.size:Int)-(r163.size:Int)))).toNat ((r162.1.size:Int)).toNat),r162.2.1,r162.2.2.1,r162.2.2.2)) .fail) .fail)))
def qBR:Nat→BA→Nat→Bool→RW→Option (BA×BA×Nat×Bool×RW)
 |0,_,_,_,_=>none
 |n+1,x0,x1,x2,x3=>(qG8 n x0 x1 x2 x3).run
abbrev qMM (n:Nat):List (Ent (Rn n)):= [en (qCZ n),en (qEA n)]
theorem qGR:∀n,Ok (Rn n) qML (qBR n)
 |0=>ok0 fun _=>rfl
 |n+1=>stO (T:=qG8 n) (by kernel_rfl) (qMM n) [] (fun _=>(by kernel_rfl)) fun _=>(by kernel_rfl)
def qQN:Sg:=⟨170,[(.agg [qI,qI,qS])],[],⟨aB,[],[]⟩⟩
def qG9 (n:Nat) (x0 x1:Int) (x2:BA):Tr (Bool):=(.ask ((x0==(2:Int))) (.ask ((x1==(0:Int))) (.opt (qCx n x2 (200:Int)) fun r166=>(.done r166)) (.done false)) (.ask ((!(x2.toList==(⟨#[]⟩:BA).toList))) (.done false) (.ask ((x0==(0:Int))) (.done (x1==(0:Int))) (.ask ((x0==(1:Int))) (.opt (qz n x1 (-1000000000000000:Int) (1000000000000000:Int)) fun r167=>(.done r167)) (.ask ((x0==(3:Int))) (.opt (qz n x1 (0:Int) (1:Int)) fun r168=>(.done r168)) (.ask ((x0==(4:Int))) (.opt (qz n x1 (1:Int) (5:Int)) fun r169=>(.done r169)) (.done false)))))))
def qAX:Nat→Int→Int→BA→Option (Bool)
 |0,_,_,_=>none
 |n+1,x0,x1,x2=>(qG9 n x0 x1 x2).run
abbrev qQO (n:Nat):List (Ent (Rn n)):= [en (qG3 n),en (qDD n)]
theorem qGD:∀n,Ok (Rn n) qQN (qAX n)
 |0=>ok0 fun _=>rfl
 |n+1=>stO (T:=qG9 n) (by kernel_rfl) (qQO n) [] (fun _=>(by kernel_rfl)) fun _=>(by kernel_rfl)
def qGS:Sg:=⟨144,[aI,aI],[],⟨aS,[],[]⟩⟩
def qEB:Nat→Int→Int→Option ((BA))
 |0,_,_=>none
 |n+1,x0,x1=>zf x0 x1
theorem qKX:∀n,Ok (Rn n) qGS (qEB n)
 |0=>ok0 fun _=>rfl
 |n+1=>stL (by kernel_rfl) (fun a r e=>congrArg (Option.map fun r=>(qGS.Of r).v) e) rfl rfl rfl
def qQP:Sg:=⟨103,[aI],[],⟨aS,[],[]⟩⟩
def qHA (n:Nat) (x0:Int):Tr (BA):=(.opt (qEB n x0 (10:Int)) fun r171=>(.done r171))
def qBH:Nat→Int→Option (BA)
 |0,_=>none
 |n+1,x0=>(qHA n x0).run
abbrev qQQ (n:Nat):List (Ent (Rn n)):= [en (qKX n)]
theorem qGE:∀n,Ok (Rn n) qQP (qBH n)
 |0=>ok0 fun _=>rfl
 |n+1=>stO (T:=qHA n) (by kernel_rfl) (qQQ n) [] (fun _=>(by kernel_rfl)) fun _=>(by kernel_rfl)
def qOE:Sg:=⟨207,[(.agg [qI,qI,qS])],[],⟨aS,[],[]⟩⟩
def qBw (n:Nat) (x0 x1:Int) (x2:BA):Tr (BA):=(.ask ((x0==(1:Int))) (.opt (qBH n x1) fun r172=>(.done r172)) (.ask ((x0==(2:Int))) (.ask (decide ((⟨#[39]⟩:BA).size+x2.size≤9223372036854775807)) (.done ((⟨#[39]⟩:BA)++x2)) .fail) (.ask ((x0==(3:Int))) (.ask (decide (2=([[(.s (⟨#[70,65,76,83,69]⟩:BA))],[(.s (⟨#[84,82,85,69]⟩:BA))]]:RW).length∧0≤x1∧x1<((2:Nat):Int))) (.opt (([[(.s (⟨#[70,65,76,83,69]⟩:BA))],[(.s (⟨#[84,82,85,69]⟩:BA))]]:RW)[(x1).toNat]?) fun e173=>(.opt (zR e173 0) fun y174=>(.done y174))) .fail) (.ask ((x0==(4:Int))) (.opt (qAl n x1) fun r175=>(.done r175)) (.done (⟨#[]⟩:BA))))))
def qu:Nat→Int→Int→BA→Option (BA)
 |0,_,_,_=>none
 |n+1,x0,x1,x2=>(qBw n x0 x1 x2).run
abbrev qOF (n:Nat):List (Ent (Rn n)):= [en (qGE n),en (qE7 n)]
theorem qHi:∀n,Ok (Rn n) qOE (qu n)
 |0=>ok0 fun _=>rfl
 |n+1=>stO (T:=qBw n) (by kernel_rfl) (qOF n) [] (fun _=>(by kernel_rfl)) fun _=>(by kernel_rfl)
def qSX:Sg:=⟨203,[aB],[],⟨(.agg [qI,qI,qS]),[],[]⟩⟩
def qJA (n:Nat) (x0:Bool):Tr (Int×Int×BA):=(.ask (x0) (.done ((3:Int),(1:Int),(⟨#[]⟩:BA))) (.done ((3:Int),(0:Int),(⟨#[]⟩:BA))))
def qE8:Nat→Bool→Option (Int×Int×BA)
 |0,_=>none
 |n+1,x0=>(qJA n x0).run
theorem qRR:∀n,Ok (Rn n) qSX (qE8 n)
 |0=>ok0 fun _=>rfl
 |n+1=>stO (T:=qJA n) (by kernel_rfl) [] [] (fun _=>(by kernel_rfl)) fun _=>(by kernel_rfl)
def qMN:Sg2:=⟨168,[aS,aI,aI],(.tup [(false,[qI]),(false,[(.p .nif)])]),(.tup [(false,[qI]),(false,[(.p .ifc)])])⟩
def qA3:Nat→BA→Int→Int→Option ((Int)⊕(Int))
 |0,_,_,_=>none
 |n+1,x0,x1,x2=>zL x0 x1 x2
theorem qEC:∀n,Ok2 (Rn n) qMN (qA3 n)
 |0=>fun a r e=>by cases e
 |n+1=>zKr (by kernel_rfl) fun a r e=>by
  rcases r with r|r
  ·exact congrArg (Option.map zAD) e
  ·exact congrArg (Option.map zAD) e
def qRS:Sg:=⟨171,[aI],[],⟨(.agg [qI,qI,qS]),[],[]⟩⟩
def qIE (n:Nat) (x0:Int):Tr (Int×Int×BA):=(.done ((1:Int),x0,(⟨#[]⟩:BA)))
def qCy:Nat→Int→Option (Int×Int×BA)
 |0,_=>none
 |n+1,x0=>(qIE n x0).run
theorem qKY:∀n,Ok (Rn n) qRS (qCy n)
 |0=>ok0 fun _=>rfl
 |n+1=>stO (T:=qIE n) (by kernel_rfl) [] [] (fun _=>(by kernel_rfl)) fun _=>(by kernel_rfl)
def qOG:Sg:=⟨172,[aS],[],⟨(.tup [(true,[qI,qI,qS]),(false,[qB])]),[],[]⟩⟩
def qBG (n:Nat) (v:BA×Int×Int×Int×BA×Int×Int×BA):Tr ((BA×Int×Int×Int×BA×Int×Int×BA)⊕((BA×Int×Int×BA×Int×Int×BA))):=(.ask ((decide (v.2.1≤(5:Int)))) (.opt (qAl n v.2.1) fun r184=>(.ask ((r184.toList==v.1.toList)) (.opt (qB2 n v.2.1) fun r185=>(.done (.inl (v.1,(IntKind.i64.wrap (v.2.1+(1:Int))),v.2.2.1,v.2.2.2.1,v.2.2.2.2.1,r185.1,r185.2.1,r185.2.2)))) (.done (.inl (v.1,(IntKind.i64.wrap (v.2.1+(1:Int))),v.2.2.1,v.2.2.2.1,v.2.2.2.2.1,v.2.2.2.2.2.1,v.2.2.2.2.2.2.1,v.2.2.2.2.2.2.2))))) (.done (.inr ((v.1,v.2.2.1,v.2.2.2.1,v.2.2.2.2.1,v.2.2.2.2.2.1,v.2.2.2.2.2.2.1,v.2.2.2.2.2.2.2)))))
def qBV (n:Nat) (x0:BA):Tr (Int×Int×BA×Bool):=(.opt (qAK n x0 (⟨#[39]⟩:BA)) fun r165=>(.ask (r165.2) (.opt (qAX n (2:Int) (0:Int) r165.1) fun r170=>(.ask ((!r170)) (.done ((0:Int),(0:Int),(⟨#[]⟩:BA),false)) (.opt (qu n (2:Int) (0:Int) r165.1) fun r176=>(.ask ((!(r176.toList==x0.toList))) (.done ((0:Int),(0:Int),(⟨#[]⟩:BA),false)) (.done ((2:Int),(0:Int),r165.1,true)))))) (.ask ((x0.toList==(⟨#[70,65,76,83,69]⟩:BA).toList)) (.opt (qE8 n (x0.toList==(⟨#[84,82,85,69]⟩:BA).toList)) fun r177=>(.opt (qAX n r177.1 r177.2.1 r177.2.2) fun r178=>(.ask ((!r178)) (.done ((0:Int),(0:Int),(⟨#[]⟩:BA),false)) (.opt (qu n r177.1 r177.2.1 r177.2.2) fun r179=>(.ask ((!(r179.toList==x0.toList))) (.done ((0:Int),(0:Int),(⟨#[]⟩:BA),false)) (.done (r177.1,r177.2.1,r177.2.2,true))))))) (.ask ((x0.toList==(⟨#[84,82,85,69]⟩:BA).toList)) (.opt (qE8 n (x0.toList==(⟨#[84,82,85,69]⟩:BA).toList)) fun r180=>(.opt (qAX n r180.1 r180.2.1 r180.2.2) fun r181=>(.ask ((!r181)) (.done ((0:Int),(0:Int),(⟨#[]⟩:BA),false)) (.opt (qu n r180.1 r180.2.1 r180.2.2) fun r182=>(.ask ((!(r182.toList==x0.toList))) (.done ((0:Int),(0:Int),(⟨#[]⟩:BA),false)) (.done (r180.1,r180.2.1,r180.2.2,true))))))) (.opt (qn n x0 (⟨#[35]⟩:BA)) fun r183=>(.ask (r183) (.opt (zD (qBG n) n (x0,(1:Int),(0:Int),(0:Int),(⟨#[]⟩:BA),(0:Int),(0:Int),(⟨#[]⟩:BA))) fun r186=>(.opt (qAX n r186.2.2.2.2.1 r186.2.2.2.2.2.1 r186.2.2.2.2.2.2) fun r187=>(.ask ((!r187)) (.done ((0:Int),(0:Int),(⟨#[]⟩:BA),false)) (.opt (qu n r186.2.2.2.2.1 r186.2.2.2.2.2.1 r186.2.2.2.2.2.2) fun r188=>(.ask ((!(r188.toList==r186.1.toList))) (.done ((0:Int),(0:Int),(⟨#[]⟩:BA),false)) (.done (r186.2.2.2.2.1,r186.2.2.2.2.2.1,r186.2.2.2.2.2.2,true))))))) (.ask ((!(x0.toList==(⟨#[]⟩:BA).toList))) (.opt (qA3 n x0 (10:Int) (64:Int)) fun r189=>(.alt r189 (fun r190=>(.opt (qCy n r190) fun r192=>(.opt (qAX n r192.1 r192.2.1 r192.2.2) fun r193=>(.ask ((!r193)) (.done ((0:Int),(0:Int),(⟨#[]⟩:BA),false)) (.opt (qu n r192.1 r192.2.1 r192.2.2) fun r194=>(.ask ((!(r194.toList==x0.toList))) (.done ((0:Int),(0:Int),(⟨#[]⟩:BA),false)) (.done (r192.1,r192.2.1,r192.2.2,true)))))))) (fun r191=>(.opt (qCy n r191) fun r195=>(.opt (qAX n r195.1 r195.2.1 r195.2.2) fun r196=>(.ask ((!r196)) (.done ((0:Int),(0:Int),(⟨#[]⟩:BA),false)) (.opt (qu n r195.1 r195.2.1 r195.2.2) fun r197=>(.ask ((!(r197.toList==x0.toList))) (.done ((0:Int),(0:Int),(⟨#[]⟩:BA),false)) (.done (r195.1,r195.2.1,r195.2.2,true)))))))))) (.opt (qAX n (0:Int) (0:Int) (⟨#[]⟩:BA)) fun r198=>(.ask ((!r198)) (.done ((0:Int),(0:Int),(⟨#[]⟩:BA),false)) (.opt (qu n (0:Int) (0:Int) (⟨#[]⟩:BA)) fun r199=>(.ask ((!(r199.toList==x0.toList))) (.done ((0:Int),(0:Int),(⟨#[]⟩:BA),false)) (.done ((0:Int),(0:Int),(⟨#[]⟩:BA),true)))))))))))))
def qd:Nat→BA→Option (Int×Int×BA×Bool)
 |0,_=>none
 |n+1,x0=>(qBV n x0).run
abbrev qIh (n:Nat):List (Ent (Rn n)):= [en (qCm n),en (qGD n),en (qHi n),en (qRR n),en (qCn n),en (qE7 n),en (qLs n),en2 (qEC n),en (qKY n)]
def qJ2 (n:Nat):LEnt (KB 172) (Rn n) n:=lok (zK 172) 3837 ⟨⟨[(0,aS),(2,(.c (.ptr 0 128 0 0 0))),(4,(.c (.ptr 0 256 0 0 0))),(7,aI)],[(128,⟨0,3,128,(.box [qI,qI,qS])⟩),(256,⟨0,3,128,(.box [qI,qI,qS])⟩)],[]⟩,[(.exit 1,⟨[(0,aS),(2,(.c (.ptr 0 128 0 0 0))),(4,(.c (.ptr 0 256 0 0 0)))],[(128,⟨0,3,128,(.box [qI,qI,qS])⟩),(256,⟨0,3,128,(.box [qI,qI,qS])⟩)],[]⟩)]⟩ (qBG n) (qIh n) [] fun _=>(by kernel_rfl)
theorem qHj:∀n,Ok (Rn n) qOG (qd n)
 |0=>ok0 fun _=>rfl
 |n+1=>stO (T:=qBV n) (by kernel_rfl) (qIh n) [qJ2 n] (fun _=>(by kernel_rfl)) fun _=>(by kernel_rfl)
def qQR:Sg:=⟨184,[aI],[],⟨aS,[],[]⟩⟩
def qDj (n:Nat) (x0:Int):Tr (BA):=(.opt (qz n x0 (1:Int) (52:Int)) fun r205=>(.ask ((!r205)) (.done (⟨#[]⟩:BA)) (.ask ((decide (x0≤(26:Int)))) (.ask (decide (1=([[(.i .u8 (IntKind.u8.wrap (IntKind.i64.wrap ((IntKind.i64.wrap ((65:Int)+x0))-(1:Int)))))]]:RW).length)) (.opt (bytesOf ([[(.i .u8 (IntKind.u8.wrap (IntKind.i64.wrap ((IntKind.i64.wrap ((65:Int)+x0))-(1:Int)))))]]:RW)) fun l206=>(.done (⟨l206.toArray⟩:BA))) .fail) (.ask (decide (2=([[(.i .u8 (IntKind.u8.wrap (IntKind.i64.wrap ((IntKind.i64.wrap ((65:Int)+(IntKind.i64.wrap (Int.tdiv (IntKind.i64.wrap (x0-(1:Int))) (26:Int)))))-(1:Int)))))],[(.i .u8 (IntKind.u8.wrap (IntKind.i64.wrap ((65:Int)+(Int.tmod (IntKind.i64.wrap (x0-(1:Int))) (26:Int))))))]]:RW).length)) (.opt (bytesOf ([[(.i .u8 (IntKind.u8.wrap (IntKind.i64.wrap ((IntKind.i64.wrap ((65:Int)+(IntKind.i64.wrap (Int.tdiv (IntKind.i64.wrap (x0-(1:Int))) (26:Int)))))-(1:Int)))))],[(.i .u8 (IntKind.u8.wrap (IntKind.i64.wrap ((65:Int)+(Int.tmod (IntKind.i64.wrap (x0-(1:Int))) (26:Int))))))]]:RW)) fun l207=>(.done (⟨l207.toArray⟩:BA))) .fail))))
def qB6:Nat→Int→Option (BA)
 |0,_=>none
 |n+1,x0=>(qDj n x0).run
abbrev qQS (n:Nat):List (Ent (Rn n)):= [en (qDD n)]
theorem qJl:∀n,Ok (Rn n) qQR (qB6 n)
 |0=>ok0 fun _=>rfl
 |n+1=>stO (T:=qDj n) (by kernel_rfl) (qQS n) [] (fun _=>(by kernel_rfl)) fun _=>(by kernel_rfl)
def qQT:Sg:=⟨262,[aS],[],⟨aI,[],[]⟩⟩
def qCo (n:Nat) (v:BA×Int):Tr ((BA×Int)⊕((Int)⊕(Unit))):=(.ask ((decide (v.2≤(52:Int)))) (.opt (qB6 n v.2) fun r205=>(.ask ((r205.toList==v.1.toList)) (.done (.inr (.inl (v.2)))) (.done (.inl (v.1,(IntKind.i64.wrap (v.2+(1:Int)))))))) (.done (.inr (.inr (())))))
def qHB (n:Nat) (x0:BA):Tr (Int):=(.opt (zD (qCo n) n (x0,(1:Int))) fun r206=>(.alt r206 (fun r207=>(.done r207)) (fun r208=>(.done (0:Int)))))
def qE9:Nat→BA→Option (Int)
 |0,_=>none
 |n+1,x0=>(qHB n x0).run
abbrev qKZ (n:Nat):List (Ent (Rn n)):= [en (qJl n)]
def qNB (n:Nat):LEnt (KB 262) (Rn n) n:=lok (zK 262) 13 ⟨⟨[(0,aS),(3,aI)],[],[]⟩,[(.ret,⟨[(2,aI)],[],[]⟩),(.exit 0,⟨[],[],[]⟩)]⟩ (qCo n) (qKZ n) [] fun _=>(by kernel_rfl)
theorem qPS:∀n,Ok (Rn n) qQT (qE9 n)
 |0=>ok0 fun _=>rfl
 |n+1=>stO (T:=qHB n) (by kernel_rfl) (qKZ n) [qNB n] (fun _=>(by kernel_rfl)) fun _=>(by kernel_rfl)
def qOH:Sg:=⟨143,[(.agg [qI,qI,qB,qB])],[],⟨aS,[],[]⟩⟩
def qDy (n:Nat) (x0 x1:Int) (x2 x3:Bool):Tr (BA):=(.opt (qB1 n x0 x1) fun r215=>(.ask ((!r215)) (.done (⟨#[]⟩:BA)) (.ask (x2) (.opt (qB6 n x0) fun r216=>(.ask (decide ((⟨#[36]⟩:BA).size+r216.size≤9223372036854775807)) (.ask (x3) (.ask (decide (((⟨#[36]⟩:BA)++r216).size+(⟨#[36]⟩:BA).size≤9223372036854775807)) (.opt (qBH n x1) fun r217=>(.ask (decide ((((⟨#[36]⟩:BA)++r216)++(⟨#[36]⟩:BA)).size+r217.size≤9223372036854775807)) (.done ((((⟨#[36]⟩:BA)++r216)++(⟨#[36]⟩:BA))++r217)) .fail)) .fail) (.opt (qBH n x1) fun r218=>(.ask (decide (((⟨#[36]⟩:BA)++r216).size+r218.size≤9223372036854775807)) (.done (((⟨#[36]⟩:BA)++r216)++r218)) .fail))) .fail)) (.opt (qB6 n x0) fun r219=>(.ask (decide ((⟨#[]⟩:BA).size+r219.size≤9223372036854775807)) (.ask (x3) (.ask (decide (((⟨#[]⟩:BA)++r219).size+(⟨#[36]⟩:BA).size≤9223372036854775807)) (.opt (qBH n x1) fun r220=>(.ask (decide ((((⟨#[]⟩:BA)++r219)++(⟨#[36]⟩:BA)).size+r220.size≤9223372036854775807)) (.done ((((⟨#[]⟩:BA)++r219)++(⟨#[36]⟩:BA))++r220)) .fail)) .fail) (.opt (qBH n x1) fun r221=>(.ask (decide (((⟨#[]⟩:BA)++r219).size+r221.size≤9223372036854775807)) (.done (((⟨#[]⟩:BA)++r219)++r221)) .fail))) .fail)))))
def qBB:Nat→Int→Int→Bool→Bool→Option (BA)
 |0,_,_,_,_=>none
 |n+1,x0,x1,x2,x3=>(qDy n x0 x1 x2 x3).run
abbrev qOI (n:Nat):List (Ent (Rn n)):= [en (qFk n),en (qJl n),en (qGE n)]
theorem qHk:∀n,Ok (Rn n) qOH (qBB n)
 |0=>ok0 fun _=>rfl
 |n+1=>stO (T:=qDy n) (by kernel_rfl) (qOI n) [] (fun _=>(by kernel_rfl)) fun _=>(by kernel_rfl)
def qOJ:Sg:=⟨246,[aS],[],⟨(.tup [(true,[qI,qI,qB,qB]),(false,[qB])]),[],[]⟩⟩
def qFX (n:Nat) (x0:BA):Tr (Int×Int×Bool×Bool×Bool):=(.opt (qAK n x0 (⟨#[36]⟩:BA)) fun r203=>(.opt (qBQ n r203.1 (⟨#[65,66,67,68,69,70,71,72,73,74,75,76,77,78,79,80,81,82,83,84,85,86,87,88,89,90]⟩:BA)) fun r204=>(.ask (decide (0≤(0:Int)∧(0:Int)≤(IntKind.i64.wrap ((r203.1.size:Int)-(r204.size:Int)))∧(IntKind.i64.wrap ((r203.1.size:Int)-(r204.size:Int)))≤r203.1.size)) (.opt (qE9 n (r203.1.extract ((0:Int)).toNat ((IntKind.i64.wrap ((r203.1.size:Int)-(r204.size:Int)))).toNat)) fun r209=>(.ask (decide (0≤(IntKind.i64.wrap ((r203.1.size:Int)-(r204.size:Int)))∧(IntKind.i64.wrap ((r203.1.size:Int)-(r204.size:Int)))≤(r203.1.size:Int)∧(r203.1.size:Int)≤r203.1.size)) (.opt (qAK n (r203.1.extract ((IntKind.i64.wrap ((r203.1.size:Int)-(r204.size:Int)))).toNat ((r203.1.size:Int)).toNat) (⟨#[36]⟩:BA)) fun r210=>(.opt (qA3 n r210.1 (10:Int) (64:Int)) fun r211=>(.alt r211 (fun r212=>(.opt (qB1 n r209 r212) fun r214=>(.ask ((!r214)) (.done ((0:Int),(0:Int),false,false,false)) (.opt (qBB n r209 r212 r203.2 r210.2) fun r222=>(.ask ((!(r222.toList==x0.toList))) (.done ((0:Int),(0:Int),false,false,false)) (.done (r209,r212,r203.2,r210.2,true))))))) (fun r213=>(.opt (qB1 n r209 r213) fun r223=>(.ask ((!r223)) (.done ((0:Int),(0:Int),false,false,false)) (.opt (qBB n r209 r213 r203.2 r210.2) fun r224=>(.ask ((!(r224.toList==x0.toList))) (.done ((0:Int),(0:Int),false,false,false)) (.done (r209,r213,r203.2,r210.2,true)))))))))) .fail)) .fail)))
def qAm:Nat→BA→Option (Int×Int×Bool×Bool×Bool)
 |0,_=>none
 |n+1,x0=>(qFX n x0).run
abbrev qOK (n:Nat):List (Ent (Rn n)):= [en (qCm n),en (qEA n),en (qPS n),en2 (qEC n),en (qFk n),en (qHk n)]
theorem qHl:∀n,Ok (Rn n) qOJ (qAm n)
 |0=>ok0 fun _=>rfl
 |n+1=>stO (T:=qFX n) (by kernel_rfl) (qOK n) [] (fun _=>(by kernel_rfl)) fun _=>(by kernel_rfl)
def qRT:Sg:=⟨247,[aI],[],⟨aS,[],[]⟩⟩
def qIF (n:Nat) (x0:Int):Tr (BA):=(.ask (decide (11=([[(.s (⟨#[]⟩:BA))],[(.s (⟨#[83,85,77]⟩:BA))],[(.s (⟨#[77,73,78]⟩:BA))],[(.s (⟨#[77,65,88]⟩:BA))],[(.s (⟨#[67,79,85,78,84]⟩:BA))],[(.s (⟨#[73,70]⟩:BA))],[(.s (⟨#[65,78,68]⟩:BA))],[(.s (⟨#[79,82]⟩:BA))],[(.s (⟨#[78,79,84]⟩:BA))],[(.s (⟨#[65,66,83]⟩:BA))],[(.s (⟨#[76,69,78]⟩:BA))]]:RW).length∧0≤x0∧x0<((11:Nat):Int))) (.opt (([[(.s (⟨#[]⟩:BA))],[(.s (⟨#[83,85,77]⟩:BA))],[(.s (⟨#[77,73,78]⟩:BA))],[(.s (⟨#[77,65,88]⟩:BA))],[(.s (⟨#[67,79,85,78,84]⟩:BA))],[(.s (⟨#[73,70]⟩:BA))],[(.s (⟨#[65,78,68]⟩:BA))],[(.s (⟨#[79,82]⟩:BA))],[(.s (⟨#[78,79,84]⟩:BA))],[(.s (⟨#[65,66,83]⟩:BA))],[(.s (⟨#[76,69,78]⟩:BA))]]:RW)[(x0).toNat]?) fun e227=>(.opt (zR e227 0) fun y228=>(.done y228))) .fail)
def qCN:Nat→Int→Option (BA)
 |0,_=>none
 |n+1,x0=>(qIF n x0).run
theorem qKa:∀n,Ok (Rn n) qRT (qCN n)
 |0=>ok0 fun _=>rfl
 |n+1=>stO (T:=qIF n) (by kernel_rfl) [] [] (fun _=>(by kernel_rfl)) fun _=>(by kernel_rfl)
def qJB:Sg:=⟨263,[(.c (.ptr 0 0 0 0 0))],[[(0,⟨0,3,198,(.box [qS,(.own 0 1 1 0),qB])⟩),(1,⟨1,14,162,(.row [])⟩)]],⟨(.tup [(true,[qI,qI,qI,qI,qS,qI,qI,qB,qB,qI,qI,qB,qB,qL]),(false,[qB])]),[[(0,⟨0,3,198,(.box [qS,(.own 0 1 1 0),qB])⟩),(1,⟨1,14,162,(.row [])⟩)]],[]⟩⟩
def qFA (n:Nat) (x0:BA) (x1:Nat) (x2:Bool) (x3:RW):Tr (Int×Int×Int×Int×BA×Int×Int×Bool×Bool×Int×Int×Bool×Bool×RW×Bool×BA×Nat×Bool×RW):=(.opt (qBR n x0 x1 x2 x3) fun r230=>(.opt (qAm n r230.1) fun r231=>(.ask (r231.2.2.2.2) (.opt (qr n (⟨#[58]⟩:BA) r230.2.1 r230.2.2.1 r230.2.2.2.1 r230.2.2.2.2) fun r232=>(.ask ((!r232.1)) (.done ((0:Int),(0:Int),(0:Int),(0:Int),(⟨#[]⟩:BA),(0:Int),(0:Int),false,false,(0:Int),(0:Int),false,false,([]:RW),false,x0,r232.2.2.1,r232.2.2.2.1,r232.2.2.2.2)) (.opt (qBR n r232.2.1 r232.2.2.1 r232.2.2.2.1 r232.2.2.2.2) fun r233=>(.opt (qAm n r233.1) fun r234=>(.ask (r233.2.2.2.1) (.done ((3:Int),(0:Int),(0:Int),(0:Int),(⟨#[]⟩:BA),r231.1,r231.2.1,r231.2.2.1,r231.2.2.2.1,r234.1,r234.2.1,r234.2.2.1,r234.2.2.2.1,([]:RW),true,r233.2.1,r233.2.2.1,true,r233.2.2.2.2)) (.done ((3:Int),(0:Int),(0:Int),(0:Int),(⟨#[]⟩:BA),r231.1,r231.2.1,r231.2.2.1,r231.2.2.2.1,r234.1,r234.2.1,r234.2.2.1,r234.2.2.2.1,([]:RW),true,r233.2.1,r233.2.2.1,(!r234.2.2.2.2),r233.2.2.2.2))))))) (.done ((0:Int),(0:Int),(0:Int),(0:Int),(⟨#[]⟩:BA),(0:Int),(0:Int),false,false,(0:Int),(0:Int),false,false,([]:RW),false,x0,r230.2.2.1,r230.2.2.2.1,r230.2.2.2.2)))))
def qDM:Nat→BA→Nat→Bool→RW→Option (Int×Int×Int×Int×BA×Int×Int×Bool×Bool×Int×Int×Bool×Bool×RW×Bool×BA×Nat×Bool×RW)
 |0,_,_,_,_=>none
 |n+1,x0,x1,x2,x3=>(qFA n x0 x1 x2 x3).run
abbrev qJC (n:Nat):List (Ent (Rn n)):= [en (qGR n),en (qHl n),en (qCG n)]
theorem qIi:∀n,Ok (Rn n) qJB (qDM n)
 |0=>ok0 fun _=>rfl
 |n+1=>stO (T:=qFA n) (by kernel_rfl) (qJC n) [] (fun _=>(by kernel_rfl)) fun _=>(by kernel_rfl)
def qRU:Sg:=⟨193,[aI],[],⟨aS,[],[]⟩⟩
def qIG (n:Nat) (x0:Int):Tr (BA):=(.ask (decide (12=([[(.s (⟨#[]⟩:BA))],[(.s (⟨#[43]⟩:BA))],[(.s (⟨#[45]⟩:BA))],[(.s (⟨#[42]⟩:BA))],[(.s (⟨#[47]⟩:BA))],[(.s (⟨#[38]⟩:BA))],[(.s (⟨#[61]⟩:BA))],[(.s (⟨#[60,62]⟩:BA))],[(.s (⟨#[60]⟩:BA))],[(.s (⟨#[60,61]⟩:BA))],[(.s (⟨#[62]⟩:BA))],[(.s (⟨#[62,61]⟩:BA))]]:RW).length∧0≤x0∧x0<((12:Nat):Int))) (.opt (([[(.s (⟨#[]⟩:BA))],[(.s (⟨#[43]⟩:BA))],[(.s (⟨#[45]⟩:BA))],[(.s (⟨#[42]⟩:BA))],[(.s (⟨#[47]⟩:BA))],[(.s (⟨#[38]⟩:BA))],[(.s (⟨#[61]⟩:BA))],[(.s (⟨#[60,62]⟩:BA))],[(.s (⟨#[60]⟩:BA))],[(.s (⟨#[60,61]⟩:BA))],[(.s (⟨#[62]⟩:BA))],[(.s (⟨#[62,61]⟩:BA))]]:RW)[(x0).toNat]?) fun e261=>(.opt (zR e261 0) fun y262=>(.done y262))) .fail)
def qBa:Nat→Int→Option (BA)
 |0,_=>none
 |n+1,x0=>(qIG n x0).run
theorem qKb:∀n,Ok (Rn n) qRU (qBa n)
 |0=>ok0 fun _=>rfl
 |n+1=>stO (T:=qIG n) (by kernel_rfl) [] [] (fun _=>(by kernel_rfl)) fun _=>(by kernel_rfl)
def qSY:Sg:=⟨194,[aI],[],⟨aI,[],[]⟩⟩
def qJD (n:Nat) (x0:Int):Tr (Int):=(.ask ((x0==(3:Int))) (.done (4:Int)) (.ask ((x0==(4:Int))) (.done (4:Int)) (.ask ((x0==(1:Int))) (.done (3:Int)) (.ask ((x0==(2:Int))) (.done (3:Int)) (.ask ((x0==(5:Int))) (.done (2:Int)) (.done (1:Int)))))))
def qDz:Nat→Int→Option (Int)
 |0,_=>none
 |n+1,x0=>(qJD n x0).run
theorem qLt:∀n,Ok (Rn n) qSY (qDz n)
 |0=>ok0 fun _=>rfl
 |n+1=>stO (T:=qJD n) (by kernel_rfl) [] [] (fun _=>(by kernel_rfl)) fun _=>(by kernel_rfl)
def qFs:Sg:=⟨159,[(.c (.ptr 0 0 0 0 0)),aI,aI],[[(0,⟨0,3,198,(.box [qS,(.own 0 1 1 0),qB])⟩),(1,⟨1,14,162,(.row [])⟩)]],⟨aI,[[(0,⟨0,3,198,(.box [qS,(.own 0 1 1 0),qB])⟩),(1,⟨1,14,162,(.row [])⟩)]],[]⟩⟩
def qLX:Sg:=⟨191,[(.c (.ptr 0 0 0 0 0)),aI],[[(0,⟨0,3,198,(.box [qS,(.own 0 1 1 0),qB])⟩),(1,⟨1,14,162,(.row [])⟩)]],⟨aI,[[(0,⟨0,3,198,(.box [qS,(.own 0 1 1 0),qB])⟩),(1,⟨1,14,162,(.row [])⟩)]],[]⟩⟩
def qMO:Sg:=⟨223,[(.c (.ptr 0 0 0 0 0)),aI],[[(0,⟨0,3,198,(.box [qS,(.own 0 1 1 0),qB])⟩),(1,⟨1,14,162,(.row [])⟩)]],⟨aI,[[(0,⟨0,3,198,(.box [qS,(.own 0 1 1 0),qB])⟩),(1,⟨1,14,162,(.row [])⟩)]],[]⟩⟩
def qMP:Sg:=⟨248,[(.c (.ptr 0 0 0 0 0)),aI,aI],[[(0,⟨0,3,198,(.box [qS,(.own 0 1 1 0),qB])⟩),(1,⟨1,14,162,(.row [])⟩)]],⟨aI,[[(0,⟨0,3,198,(.box [qS,(.own 0 1 1 0),qB])⟩),(1,⟨1,14,162,(.row [])⟩)]],[]⟩⟩
structure G_impl_reader_binary where
 impl_reader_binary:Int→Int→BA→Nat→Bool→RW→Option (Int×BA×Nat×Bool×RW)
 impl_reader_unary:Int→BA→Nat→Bool→RW→Option (Int×BA×Nat×Bool×RW)
 impl_reader_atom:Int→BA→Nat→Bool→RW→Option (Int×BA×Nat×Bool×RW)
 impl_reader_call:Int→Int→BA→Nat→Bool→RW→Option (Int×BA×Nat×Bool×RW)
def qBI (n:Nat) (v:Int×Int×Int×Int×Int×BA×Nat×Bool×RW):Tr ((Int×Int×Int×Int×Int×BA×Nat×Bool×RW)⊕((Int×Int×Int×Int×BA×Nat×Bool×RW))):=(.ask ((decide (v.2.2.2.2.1≤(11:Int)))) (.opt (qBv n v.2.2.2.2.2.1 v.2.2.2.2.2.2.1 v.2.2.2.2.2.2.2.1 v.2.2.2.2.2.2.2.2) fun r260=>(.opt (qBa n v.2.2.2.2.1) fun r261=>(.ask ((r260.1.toList==r261.toList)) (.done (.inl (v.1,v.2.1,v.2.2.1,v.2.2.2.2.1,(IntKind.i64.wrap (v.2.2.2.2.1+(1:Int))),r260.2.1,r260.2.2.1,r260.2.2.2.1,r260.2.2.2.2))) (.done (.inl (v.1,v.2.1,v.2.2.1,v.2.2.2.1,(IntKind.i64.wrap (v.2.2.2.2.1+(1:Int))),r260.2.1,r260.2.2.1,r260.2.2.2.1,r260.2.2.2.2)))))) (.done (.inr ((v.1,v.2.1,v.2.2.1,v.2.2.2.1,v.2.2.2.2.2.1,v.2.2.2.2.2.2.1,v.2.2.2.2.2.2.2.1,v.2.2.2.2.2.2.2.2)))))
def qDG (rec:G_impl_reader_binary) (n:Nat) (v:Int×Int×Int×BA×Nat×Bool×RW):Tr ((Int×Int×Int×BA×Nat×Bool×RW)⊕((Int×BA×Nat×Bool×RW))):=(.ask ((!v.2.2.2.2.2.1)) (.opt (zD (qBI n) n (v.1,v.2.1,v.2.2.1,(0:Int),(1:Int),v.2.2.2.1,v.2.2.2.2.1,v.2.2.2.2.2.1,v.2.2.2.2.2.2)) fun r262=>(.ask ((r262.2.2.2.1==(0:Int))) (.done (.inr ((r262.2.2.1,r262.2.2.2.2.1,r262.2.2.2.2.2.1,r262.2.2.2.2.2.2.1,r262.2.2.2.2.2.2.2)))) (.opt (qDz n r262.2.2.2.1) fun r263=>(.ask ((decide (r263<r262.1))) (.done (.inr ((r262.2.2.1,r262.2.2.2.2.1,r262.2.2.2.2.2.1,r262.2.2.2.2.2.2.1,r262.2.2.2.2.2.2.2)))) (.opt (qBa n r262.2.2.2.1) fun r264=>(.opt (qr n r264 r262.2.2.2.2.1 r262.2.2.2.2.2.1 r262.2.2.2.2.2.2.1 r262.2.2.2.2.2.2.2) fun r265=>(.opt (qDz n r262.2.2.2.1) fun r266=>(.opt (rec.impl_reader_binary (IntKind.i64.wrap (r266+(1:Int))) r262.2.1 r265.2.1 r265.2.2.1 r265.2.2.2.1 r265.2.2.2.2) fun r267=>(.ask (decide (2=([[(.i .i64 r262.2.2.1)],[(.i .i64 r267.1)]]:RW).length)) (.opt (qt n (5:Int) r262.2.2.2.1 (0:Int) (0:Int) (⟨#[]⟩:BA) (0:Int) (0:Int) false false (0:Int) (0:Int) false false ([[(.i .i64 r262.2.2.1)],[(.i .i64 r267.1)]]:RW) r267.2.1 r267.2.2.1 r267.2.2.2.1 r267.2.2.2.2) fun r268=>(.done (.inl (r262.1,r262.2.1,r268.1,r268.2.1,r268.2.2.1,r268.2.2.2.1,r268.2.2.2.2)))) .fail))))))))) (.done (.inr ((v.2.2.1,v.2.2.2.1,v.2.2.2.2.1,v.2.2.2.2.2.1,v.2.2.2.2.2.2)))))
def qFt (rec:G_impl_reader_binary) (n:Nat) (x0 x1:Int) (x2:BA) (x3:Nat) (x4:Bool) (x5:RW):Tr (Int×BA×Nat×Bool×RW):=(.opt (rec.impl_reader_unary x1 x2 x3 x4 x5) fun r259=>(.opt (zD (qDG rec n) n (x0,x1,r259.1,r259.2.1,r259.2.2.1,r259.2.2.2.1,r259.2.2.2.2)) fun r269=>(.done (r269.1,r269.2.1,r269.2.2.1,r269.2.2.2.1,r269.2.2.2.2))))
def qGT (rec:G_impl_reader_binary) (n:Nat) (x0:Int) (x1:BA) (x2:Nat) (x3:Bool) (x4:RW):Tr (Int×BA×Nat×Bool×RW):=(.ask ((decide (x0>(400:Int)))) (.ask (true) (.done ((-1:Int),x1,x2,true,x4)) (.opt (qr n (⟨#[45]⟩:BA) x1 x2 true x4) fun r141=>(.ask (r141.1) (.opt (rec.impl_reader_unary (IntKind.i64.wrap (x0+(1:Int))) r141.2.1 r141.2.2.1 r141.2.2.2.1 r141.2.2.2.2) fun r142=>(.ask (decide (1=([[(.i .i64 r142.1)]]:RW).length)) (.opt (qt n (4:Int) (0:Int) (0:Int) (0:Int) (⟨#[]⟩:BA) (0:Int) (0:Int) false false (0:Int) (0:Int) false false ([[(.i .i64 r142.1)]]:RW) r142.2.1 r142.2.2.1 r142.2.2.2.1 r142.2.2.2.2) fun r143=>(.done (r143.1,r143.2.1,r143.2.2.1,r143.2.2.2.1,r143.2.2.2.2))) .fail)) (.opt (rec.impl_reader_atom x0 r141.2.1 r141.2.2.1 r141.2.2.2.1 r141.2.2.2.2) fun r254=>(.done (r254.1,r254.2.1,r254.2.2.1,r254.2.2.2.1,r254.2.2.2.2)))))) (.ask (x3) (.done ((-1:Int),x1,x2,x3,x4)) (.opt (qr n (⟨#[45]⟩:BA) x1 x2 x3 x4) fun r255=>(.ask (r255.1) (.opt (rec.impl_reader_unary (IntKind.i64.wrap (x0+(1:Int))) r255.2.1 r255.2.2.1 r255.2.2.2.1 r255.2.2.2.2) fun r256=>(.ask (decide (1=([[(.i .i64 r256.1)]]:RW).length)) (.opt (qt n (4:Int) (0:Int) (0:Int) (0:Int) (⟨#[]⟩:BA) (0:Int) (0:Int) false false (0:Int) (0:Int) false false ([[(.i .i64 r256.1)]]:RW) r256.2.1 r256.2.2.1 r256.2.2.2.1 r256.2.2.2.2) fun r257=>(.done (r257.1,r257.2.1,r257.2.2.1,r257.2.2.2.1,r257.2.2.2.2))) .fail)) (.opt (rec.impl_reader_atom x0 r255.2.1 r255.2.2.1 r255.2.2.2.1 r255.2.2.2.2) fun r258=>(.done (r258.1,r258.2.1,r258.2.2.1,r258.2.2.2.1,r258.2.2.2.2)))))))
def qCK (n:Nat) (v:Int×Int×BA×Nat×Bool×RW):Tr ((Int×Int×BA×Nat×Bool×RW)⊕((Int×BA×Nat×Bool×RW)⊕(Int×BA×Nat×Bool×RW))):=(.ask ((decide (v.2.1≤(5:Int)))) (.opt (qAl n v.2.1) fun r155=>(.opt (qAK n v.2.2.1 r155) fun r156=>(.ask (r156.2) (.opt (qB2 n v.2.1) fun r157=>(.opt (qi n r157.1 r157.2.1 r157.2.2 r156.1 v.2.2.2.1 v.2.2.2.2.1 v.2.2.2.2.2) fun r158=>(.done (.inr (.inl ((r158.1,r158.2.1,r158.2.2.1,r158.2.2.2.1,r158.2.2.2.2))))))) (.done (.inl (v.1,(IntKind.i64.wrap (v.2.1+(1:Int))),v.2.2.1,v.2.2.2.1,v.2.2.2.2.1,v.2.2.2.2.2)))))) (.done (.inr (.inr ((v.1,v.2.2.1,v.2.2.2.1,v.2.2.2.2.1,v.2.2.2.2.2))))))
def qAq (rec:G_impl_reader_binary) (n:Nat) (v:Int×BA×Int×BA×Nat×Bool×RW):Tr ((Int×BA×Int×BA×Nat×Bool×RW)⊕((Int×BA×Nat×Bool×RW)⊕(BA×Nat×Bool×RW))):=(.ask ((decide (v.2.2.1≤(10:Int)))) (.opt (qCN n v.2.2.1) fun r227=>(.ask ((v.2.1.toList==r227.toList)) (.opt (rec.impl_reader_call v.2.2.1 v.1 v.2.2.2.1 v.2.2.2.2.1 v.2.2.2.2.2.1 v.2.2.2.2.2.2) fun r228=>(.done (.inr (.inl ((r228.1,r228.2.1,r228.2.2.1,r228.2.2.2.1,r228.2.2.2.2)))))) (.done (.inl (v.1,v.2.1,(IntKind.i64.wrap (v.2.2.1+(1:Int))),v.2.2.2.1,v.2.2.2.2.1,v.2.2.2.2.2.1,v.2.2.2.2.2.2))))) (.done (.inr (.inr ((v.2.2.2.1,v.2.2.2.2.1,v.2.2.2.2.2.1,v.2.2.2.2.2.2))))))
def qHC (rec:G_impl_reader_binary) (n:Nat) (x0:Int) (x1:BA) (x2:Nat) (x3:Bool) (x4:RW):Tr (Int×BA×Nat×Bool×RW):=(.opt (qA2 n x1 x2 x3 x4) fun r144=>(.opt (qn n r144.1 (⟨#[34]⟩:BA)) fun r145=>(.ask (r145) (.opt (qDi n r144.1 r144.2.1 r144.2.2.1 r144.2.2.2) fun r153=>(.done (r153.1,r153.2.1,r153.2.2.1,r153.2.2.2.1,r153.2.2.2.2))) (.opt (qn n r144.1 (⟨#[35]⟩:BA)) fun r154=>(.ask (r154) (.opt (zD (qCK n) n (x0,(1:Int),r144.1,r144.2.1,r144.2.2.1,r144.2.2.2)) fun r159=>(.alt r159 (fun r160=>(.done (r160.1,r160.2.1,r160.2.2.1,r160.2.2.2.1,r160.2.2.2.2))) (fun r161=>(.opt (qBR n r161.2.1 r161.2.2.1 r161.2.2.2.1 r161.2.2.2.2) fun r164=>(.opt (qd n r164.1) fun r200=>(.ask (r200.2.2.2) (.ask ((r200.1==(1:Int))) (.opt (qi n r200.1 r200.2.1 r200.2.2.1 r164.2.1 r164.2.2.1 r164.2.2.2.1 r164.2.2.2.2) fun r201=>(.done (r201.1,r201.2.1,r201.2.2.1,r201.2.2.2.1,r201.2.2.2.2))) (.ask ((r200.1==(3:Int))) (.opt (qi n r200.1 r200.2.1 r200.2.2.1 r164.2.1 r164.2.2.1 r164.2.2.2.1 r164.2.2.2.2) fun r202=>(.done (r202.1,r202.2.1,r202.2.2.1,r202.2.2.2.1,r202.2.2.2.2))) (.opt (qAm n r164.1) fun r225=>(.ask (r225.2.2.2.2) (.opt (qt n (2:Int) (0:Int) (0:Int) (0:Int) (⟨#[]⟩:BA) r225.1 r225.2.1 r225.2.2.1 r225.2.2.2.1 (0:Int) (0:Int) false false ([]:RW) r164.2.1 r164.2.2.1 r164.2.2.2.1 r164.2.2.2.2) fun r226=>(.done (r226.1,r226.2.1,r226.2.2.1,r226.2.2.2.1,r226.2.2.2.2))) (.opt (zD (qAq rec n) n (r161.1,r164.1,(1:Int),r164.2.1,r164.2.2.1,r164.2.2.2.1,r164.2.2.2.2)) fun r229=>(.alt r229 (fun r230=>(.done (r230.1,r230.2.1,r230.2.2.1,r230.2.2.2.1,r230.2.2.2.2))) (fun r231=>(.done ((-1:Int),r231.1,r231.2.1,true,r231.2.2.2))))))))) (.opt (qAm n r164.1) fun r232=>(.ask (r232.2.2.2.2) (.opt (qt n (2:Int) (0:Int) (0:Int) (0:Int) (⟨#[]⟩:BA) r232.1 r232.2.1 r232.2.2.1 r232.2.2.2.1 (0:Int) (0:Int) false false ([]:RW) r164.2.1 r164.2.2.1 r164.2.2.2.1 r164.2.2.2.2) fun r233=>(.done (r233.1,r233.2.1,r233.2.2.1,r233.2.2.2.1,r233.2.2.2.2))) (.opt (zD (qAq rec n) n (r161.1,r164.1,(1:Int),r164.2.1,r164.2.2.1,r164.2.2.2.1,r164.2.2.2.2)) fun r234=>(.alt r234 (fun r235=>(.done (r235.1,r235.2.1,r235.2.2.1,r235.2.2.2.1,r235.2.2.2.2))) (fun r236=>(.done ((-1:Int),r236.1,r236.2.1,true,r236.2.2.2))))))))))))) (.opt (qr n (⟨#[40]⟩:BA) r144.1 r144.2.1 r144.2.2.1 r144.2.2.2) fun r237=>(.ask (r237.1) (.opt (rec.impl_reader_binary (1:Int) (IntKind.i64.wrap (x0+(1:Int))) r237.2.1 r237.2.2.1 r237.2.2.2.1 r237.2.2.2.2) fun r238=>(.ask (r238.2.2.2.1) (.done (r238.1,r238.2.1,r238.2.2.1,true,r238.2.2.2.2)) (.opt (qr n (⟨#[41]⟩:BA) r238.2.1 r238.2.2.1 r238.2.2.2.1 r238.2.2.2.2) fun r239=>(.done (r238.1,r239.2.1,r239.2.2.1,(!r239.1),r239.2.2.2.2))))) (.opt (qBR n r237.2.1 r237.2.2.1 r237.2.2.2.1 r237.2.2.2.2) fun r240=>(.opt (qd n r240.1) fun r241=>(.ask (r241.2.2.2) (.ask ((r241.1==(1:Int))) (.opt (qi n r241.1 r241.2.1 r241.2.2.1 r240.2.1 r240.2.2.1 r240.2.2.2.1 r240.2.2.2.2) fun r242=>(.done (r242.1,r242.2.1,r242.2.2.1,r242.2.2.2.1,r242.2.2.2.2))) (.ask ((r241.1==(3:Int))) (.opt (qi n r241.1 r241.2.1 r241.2.2.1 r240.2.1 r240.2.2.1 r240.2.2.2.1 r240.2.2.2.2) fun r243=>(.done (r243.1,r243.2.1,r243.2.2.1,r243.2.2.2.1,r243.2.2.2.2))) (.opt (qAm n r240.1) fun r244=>(.ask (r244.2.2.2.2) (.opt (qt n (2:Int) (0:Int) (0:Int) (0:Int) (⟨#[]⟩:BA) r244.1 r244.2.1 r244.2.2.1 r244.2.2.2.1 (0:Int) (0:Int) false false ([]:RW) r240.2.1 r240.2.2.1 r240.2.2.2.1 r240.2.2.2.2) fun r245=>(.done (r245.1,r245.2.1,r245.2.2.1,r245.2.2.2.1,r245.2.2.2.2))) (.opt (zD (qAq rec n) n (x0,r240.1,(1:Int),r240.2.1,r240.2.2.1,r240.2.2.2.1,r240.2.2.2.2)) fun r246=>(.alt r246 (fun r247=>(.done (r247.1,r247.2.1,r247.2.2.1,r247.2.2.2.1,r247.2.2.2.2))) (fun r248=>(.done ((-1:Int),r248.1,r248.2.1,true,r248.2.2.2))))))))) (.opt (qAm n r240.1) fun r249=>(.ask (r249.2.2.2.2) (.opt (qt n (2:Int) (0:Int) (0:Int) (0:Int) (⟨#[]⟩:BA) r249.1 r249.2.1 r249.2.2.1 r249.2.2.2.1 (0:Int) (0:Int) false false ([]:RW) r240.2.1 r240.2.2.1 r240.2.2.2.1 r240.2.2.2.2) fun r250=>(.done (r250.1,r250.2.1,r250.2.2.1,r250.2.2.2.1,r250.2.2.2.2))) (.opt (zD (qAq rec n) n (x0,r240.1,(1:Int),r240.2.1,r240.2.2.1,r240.2.2.2.1,r240.2.2.2.2)) fun r251=>(.alt r251 (fun r252=>(.done (r252.1,r252.2.1,r252.2.2.1,r252.2.2.2.1,r252.2.2.2.2))) (fun r253=>(.done ((-1:Int),r253.1,r253.2.1,true,r253.2.2.2)))))))))))))))))
def qCb (rec:G_impl_reader_binary) (n:Nat) (v:Int×Int×Nat×RW×BA×Nat×Bool×RW):Tr ((Int×Int×Nat×RW×BA×Nat×Bool×RW)⊕((Int×Nat×RW×BA×Nat×Bool×RW))):=(.ask ((!v.2.2.2.2.2.2.1)) (.opt (qDM n v.2.2.2.2.1 v.2.2.2.2.2.1 v.2.2.2.2.2.2.1 v.2.2.2.2.2.2.2) fun r230=>(.ask (r230.2.2.2.2.2.2.2.2.2.2.2.2.2.2.1) (.opt (qt n r230.1 r230.2.1 r230.2.2.1 r230.2.2.2.1 r230.2.2.2.2.1 r230.2.2.2.2.2.1 r230.2.2.2.2.2.2.1 r230.2.2.2.2.2.2.2.1 r230.2.2.2.2.2.2.2.2.1 r230.2.2.2.2.2.2.2.2.2.1 r230.2.2.2.2.2.2.2.2.2.2.1 r230.2.2.2.2.2.2.2.2.2.2.2.1 r230.2.2.2.2.2.2.2.2.2.2.2.2.1 r230.2.2.2.2.2.2.2.2.2.2.2.2.2.1 r230.2.2.2.2.2.2.2.2.2.2.2.2.2.2.2.1 r230.2.2.2.2.2.2.2.2.2.2.2.2.2.2.2.2.1 r230.2.2.2.2.2.2.2.2.2.2.2.2.2.2.2.2.2.1 r230.2.2.2.2.2.2.2.2.2.2.2.2.2.2.2.2.2.2) fun r231=>(.ask (decide (1=([[(.i .i64 r231.1)]]:RW).length)) (.ask (decide (v.2.2.1=v.2.2.2.1.length∧0<1∧0<8∧(v.2.2.1+([[(.i .i64 r231.1)]]:RW).length)*8≤140737488355328∧([[(.i .i64 r231.1)]]:RW).all (fun e=>e.length==1)=true)) (.opt (qr n (⟨#[44]⟩:BA) r231.2.1 r231.2.2.1 r231.2.2.2.1 r231.2.2.2.2) fun r232=>(.ask ((!r232.1)) (.ask (r232.2.2.2.1) (.done (.inr ((v.1,(v.2.2.1+1),(v.2.2.2.1++([[(.i .i64 r231.1)]]:RW)),r232.2.1,r232.2.2.1,true,r232.2.2.2.2)))) (.opt (qr n (⟨#[41]⟩:BA) r232.2.1 r232.2.2.1 r232.2.2.2.1 r232.2.2.2.2) fun r233=>(.done (.inr ((v.1,(v.2.2.1+1),(v.2.2.2.1++([[(.i .i64 r231.1)]]:RW)),r233.2.1,r233.2.2.1,(!r233.1),r233.2.2.2.2)))))) (.done (.inl (v.1,v.2.1,(v.2.2.1+1),(v.2.2.2.1++([[(.i .i64 r231.1)]]:RW)),r232.2.1,r232.2.2.1,r232.2.2.2.1,r232.2.2.2.2))))) .fail) .fail)) (.opt (rec.impl_reader_binary (1:Int) (IntKind.i64.wrap (v.2.1+(1:Int))) r230.2.2.2.2.2.2.2.2.2.2.2.2.2.2.2.1 r230.2.2.2.2.2.2.2.2.2.2.2.2.2.2.2.2.1 r230.2.2.2.2.2.2.2.2.2.2.2.2.2.2.2.2.2.1 r230.2.2.2.2.2.2.2.2.2.2.2.2.2.2.2.2.2.2) fun r234=>(.ask (decide (1=([[(.i .i64 r234.1)]]:RW).length)) (.ask (decide (v.2.2.1=v.2.2.2.1.length∧0<1∧0<8∧(v.2.2.1+([[(.i .i64 r234.1)]]:RW).length)*8≤140737488355328∧([[(.i .i64 r234.1)]]:RW).all (fun e=>e.length==1)=true)) (.opt (qr n (⟨#[44]⟩:BA) r234.2.1 r234.2.2.1 r234.2.2.2.1 r234.2.2.2.2) fun r235=>(.ask ((!r235.1)) (.ask (r235.2.2.2.1) (.done (.inr ((v.1,(v.2.2.1+1),(v.2.2.2.1++([[(.i .i64 r234.1)]]:RW)),r235.2.1,r235.2.2.1,true,r235.2.2.2.2)))) (.opt (qr n (⟨#[41]⟩:BA) r235.2.1 r235.2.2.1 r235.2.2.2.1 r235.2.2.2.2) fun r236=>(.done (.inr ((v.1,(v.2.2.1+1),(v.2.2.2.1++([[(.i .i64 r234.1)]]:RW)),r236.2.1,r236.2.2.1,(!r236.1),r236.2.2.2.2)))))) (.done (.inl (v.1,v.2.1,(v.2.2.1+1),(v.2.2.2.1++([[(.i .i64 r234.1)]]:RW)),r235.2.1,r235.2.2.1,r235.2.2.2.1,r235.2.2.2.2))))) .fail) .fail)))) (.done (.inr ((v.1,v.2.2.1,v.2.2.2.1,v.2.2.2.2.1,v.2.2.2.2.2.1,v.2.2.2.2.2.2.1,v.2.2.2.2.2.2.2)))))
def qHD (rec:G_impl_reader_binary) (n:Nat) (x0 x1:Int) (x2:BA) (x3:Nat) (x4:Bool) (x5:RW):Tr (Int×BA×Nat×Bool×RW):=(.ask (x4) (.opt (zD (qCb rec n) n (x0,x1,(0:Nat),([]:RW),x2,x3,true,x5)) fun r237=>(.ask (decide (r237.2.1=r237.2.2.1.length)) (.opt (qt n (6:Int) r237.1 (0:Int) (0:Int) (⟨#[]⟩:BA) (0:Int) (0:Int) false false (0:Int) (0:Int) false false r237.2.2.1 r237.2.2.2.1 r237.2.2.2.2.1 r237.2.2.2.2.2.1 r237.2.2.2.2.2.2) fun r238=>(.done (r238.1,r238.2.1,r238.2.2.1,r238.2.2.2.1,r238.2.2.2.2))) .fail)) (.opt (qr n (⟨#[40]⟩:BA) x2 x3 x4 x5) fun r239=>(.opt (zD (qCb rec n) n (x0,x1,(0:Nat),([]:RW),r239.2.1,r239.2.2.1,(!r239.1),r239.2.2.2.2)) fun r240=>(.ask (decide (r240.2.1=r240.2.2.1.length)) (.opt (qt n (6:Int) r240.1 (0:Int) (0:Int) (⟨#[]⟩:BA) (0:Int) (0:Int) false false (0:Int) (0:Int) false false r240.2.2.1 r240.2.2.2.1 r240.2.2.2.2.1 r240.2.2.2.2.2.1 r240.2.2.2.2.2.2) fun r241=>(.done (r241.1,r241.2.1,r241.2.2.1,r241.2.2.2.1,r241.2.2.2.2))) .fail))))
def qR:Nat→G_impl_reader_binary
 |0=>⟨fun _ _ _ _ _ _=>none,fun _ _ _ _ _=>none,fun _ _ _ _ _=>none,fun _ _ _ _ _ _=>none⟩
 |n+1=>⟨fun x0 x1 x2 x3 x4 x5=>(qFt (qR n) n x0 x1 x2 x3 x4 x5).run,fun x0 x1 x2 x3 x4=>(qGT (qR n) n x0 x1 x2 x3 x4).run,fun x0 x1 x2 x3 x4=>(qHC (qR n) n x0 x1 x2 x3 x4).run,fun x0 x1 x2 x3 x4 x5=>(qHD (qR n) n x0 x1 x2 x3 x4 x5).run⟩
def qCp (n:Nat) (x0 x1:Int) (x2:BA) (x3:Nat) (x4:Bool) (x5:RW):Option (Int×BA×Nat×Bool×RW):=(qR n).impl_reader_binary x0 x1 x2 x3 x4 x5
def qGU (n:Nat) (x0:Int) (x1:BA) (x2:Nat) (x3:Bool) (x4:RW):Option (Int×BA×Nat×Bool×RW):=(qR n).impl_reader_unary x0 x1 x2 x3 x4
def qHE (n:Nat) (x0:Int) (x1:BA) (x2:Nat) (x3:Bool) (x4:RW):Option (Int×BA×Nat×Bool×RW):=(qR n).impl_reader_atom x0 x1 x2 x3 x4
def qCW (n:Nat) (x0 x1:Int) (x2:BA) (x3:Nat) (x4:Bool) (x5:RW):Option (Int×BA×Nat×Bool×RW):=(qR n).impl_reader_call x0 x1 x2 x3 x4 x5
def qAF (n:Nat):Prop:=
 Ok (Rn n) qFs (qCp n)∧
 Ok (Rn n) qLX (qGU n)∧
 Ok (Rn n) qMO (qHE n)∧
 Ok (Rn n) qMP (qCW n)
abbrev qDk (n:Nat) (ih:qAF n):List (Ent (Rn n)):= [en ih.2.1,en (qGQ n),en (qKb n),en (qLt n),en (qCG n),en ih.1,en (qCV n)]
def qIH (n:Nat) (ih:qAF n):LEnt (lb 14 (KB 159)) (Rn n) n:=lok (Uniq.pick (zK 159) 14) 237 ⟨⟨[(0,(.c (.ptr 0 0 0 0 0))),(1,aI),(2,aI),(7,aI),(8,aI),(9,aI)],[],[[(0,⟨0,3,198,(.box [qS,(.own 0 1 1 0),qB])⟩),(1,⟨1,14,162,(.row [])⟩)]]⟩,[(.exit 2,⟨[(0,(.c (.ptr 0 0 0 0 0))),(1,aI),(2,aI),(7,aI),(8,aI)],[],[[(0,⟨0,3,198,(.box [qS,(.own 0 1 1 0),qB])⟩),(1,⟨1,14,162,(.row [])⟩)]]⟩)]⟩ (qBI n) (qDk n ih) [] fun _=>(by kernel_rfl)
def qIj (n:Nat) (ih:qAF n):LEnt (KB 159) (Rn n) n:=lok (zK 159) 14 ⟨⟨[(0,(.c (.ptr 0 0 0 0 0))),(1,aI),(2,aI),(7,aI)],[],[[(0,⟨0,3,198,(.box [qS,(.own 0 1 1 0),qB])⟩),(1,⟨1,14,162,(.row [])⟩)]]⟩,[(.exit 0,⟨[(7,aI)],[],[[(0,⟨0,3,198,(.box [qS,(.own 0 1 1 0),qB])⟩),(1,⟨1,14,162,(.row [])⟩)]]⟩)]⟩ (qDG (qR n) n) (qDk n ih) [qIH n ih] fun _=>(by kernel_rfl)
abbrev qLY (n:Nat) (ih:qAF n):List (Ent (Rn n)):= [en (qCG n),en ih.2.1,en (qCV n),en ih.2.2.1]
abbrev qEc (n:Nat) (ih:qAF n):List (Ent (Rn n)):= [en (qCZ n),en (qCn n),en (qJ1 n),en (qE7 n),en (qCm n),en (qLs n),en (qEj n),en (qGR n),en (qHj n),en (qHl n),en (qCV n),en (qKa n),en ih.2.2.2,en (qCG n),en ih.1]
def qJE (n:Nat) (ih:qAF n):LEnt (KB 223) (Rn n) n:=lok (zK 223) 477 ⟨⟨[(0,(.c (.ptr 0 0 0 0 0))),(1,aI),(5,aI)],[],[[(0,⟨0,3,198,(.box [qS,(.own 0 1 1 0),qB])⟩),(1,⟨1,14,162,(.row [])⟩)]]⟩,[(.ret,⟨[(4,aI)],[],[[(0,⟨0,3,198,(.box [qS,(.own 0 1 1 0),qB])⟩),(1,⟨1,14,162,(.row [])⟩)]]⟩),(.exit 1,⟨[(0,(.c (.ptr 0 0 0 0 0))),(1,aI)],[],[[(0,⟨0,3,198,(.box [qS,(.own 0 1 1 0),qB])⟩),(1,⟨1,14,162,(.row [])⟩)]]⟩)]⟩ (qCK n) (qEc n ih) [] fun _=>(by kernel_rfl)
def qJF (n:Nat) (ih:qAF n):LEnt (KB 223) (Rn n) n:=lok (zK 223) 509 ⟨⟨[(0,(.c (.ptr 0 0 0 0 0))),(1,aI),(9,aS),(14,aI)],[],[[(0,⟨0,3,198,(.box [qS,(.own 0 1 1 0),qB])⟩),(1,⟨1,14,162,(.row [])⟩)]]⟩,[(.ret,⟨[(4,aI)],[],[[(0,⟨0,3,198,(.box [qS,(.own 0 1 1 0),qB])⟩),(1,⟨1,14,162,(.row [])⟩)]]⟩),(.exit 3,⟨[(0,(.c (.ptr 0 0 0 0 0)))],[],[[(0,⟨0,3,198,(.box [qS,(.own 0 1 1 0),qB])⟩),(1,⟨1,14,162,(.row [])⟩)]]⟩)]⟩ (qAq (qR n) n) (qEc n ih) [] fun _=>(by kernel_rfl)
abbrev qHF (n:Nat) (ih:qAF n):List (Ent (Rn n)):= [en (qIi n),en (qCV n),en (qCG n),en ih.1]
def qJ3 (n:Nat) (ih:qAF n):LEnt (KB 248) (Rn n) n:=lok (zK 248) 30 ⟨⟨[(0,(.c (.ptr 0 0 0 0 0))),(1,aI),(2,aI),(7,(.c (.own 1 640 0 0)))],[(640,⟨0,1,2,(.row [])⟩)],[[(0,⟨0,3,198,(.box [qS,(.own 0 1 1 0),qB])⟩),(1,⟨1,14,162,(.row [])⟩)]]⟩,[(.exit 0,⟨[(0,(.c (.ptr 0 0 0 0 0))),(1,aI),(7,(.c (.own 1 640 0 0)))],[(640,⟨0,1,2,(.row [])⟩)],[[(0,⟨0,3,198,(.box [qS,(.own 0 1 1 0),qB])⟩),(1,⟨1,14,162,(.row [])⟩)]]⟩)]⟩ (qCb (qR n) n) (qHF n ih) [] fun _=>(by kernel_rfl)
theorem qAP:∀n,qAF n
 |0=>⟨ok0 fun _=>rfl,ok0 fun _=>rfl,ok0 fun _=>rfl,ok0 fun _=>rfl⟩
 |n+1=>⟨stO (T:=qFt (qR n) n) (by kernel_rfl) (qDk n (qAP n)) [qIj n (qAP n)] (fun _=>(by kernel_rfl)) fun _=>(by kernel_rfl),stO (T:=qGT (qR n) n) (by kernel_rfl) (qLY n (qAP n)) [] (fun _=>(by kernel_rfl)) fun _=>(by kernel_rfl),stO (T:=qHC (qR n) n) (by kernel_rfl) (qEc n (qAP n)) [qJE n (qAP n),qJF n (qAP n)] (fun _=>(by kernel_rfl)) fun _=>(by kernel_rfl),stO (T:=qHD (qR n) n) (by kernel_rfl) (qHF n (qAP n)) [qJ3 n (qAP n)] (fun _=>(by kernel_rfl)) fun _=>(by kernel_rfl)⟩
theorem qJ4 (n:Nat):Ok (Rn n) qFs (qCp n):=(qAP n).1
def qNC:Sg:=⟨120,[(.agg [qI,qI,qI,qI,qS,qI,qI,qB,qB,qI,qI,qB,qB,qL])],[],⟨(.agg [qI,qI,qI,qI]),[],[]⟩⟩
def qFB (n:Nat) (x0 x1 x2 x3:Int) (x4:BA) (x5 x6:Int) (x7 x8:Bool) (x9 x10:Int) (x11 x12:Bool) (x13:RW):Tr (Int×Int×Int×Int):=(.ask ((x0==(2:Int))) (.done (x5,x6,x5,x6)) (.done (x5,x6,x9,x10)))
def qCq:Nat→Int→Int→Int→Int→BA→Int→Int→Bool→Bool→Int→Int→Bool→Bool→RW→Option (Int×Int×Int×Int)
 |0,_,_,_,_,_,_,_,_,_,_,_,_,_,_=>none
 |n+1,x0,x1,x2,x3,x4,x5,x6,x7,x8,x9,x10,x11,x12,x13=>(qFB n x0 x1 x2 x3 x4 x5 x6 x7 x8 x9 x10 x11 x12 x13).run
theorem qMQ:∀n,Ok (Rn n) qNC (qCq n)
 |0=>ok0 fun _=>rfl
 |n+1=>stO (T:=qFB n) (by kernel_rfl) [] [] (fun _=>(by kernel_rfl)) fun _=>(by kernel_rfl)
def qRV:Sg:=⟨264,[(.agg [qI,qI,qI,qI])],[],⟨aB,[],[]⟩⟩
def qII (n:Nat) (x0 x1 x2 x3:Int):Tr (Bool):=(.opt (qB1 n x0 x1) fun r292=>(.ask (r292) (.opt (qB1 n x2 x3) fun r293=>(.ask (r293) (.ask ((decide (x0≤x2))) (.done (decide (x1≤x3))) (.done false)) (.done false))) (.done false)))
def qEH:Nat→Int→Int→Int→Int→Option (Bool)
 |0,_,_,_,_=>none
 |n+1,x0,x1,x2,x3=>(qII n x0 x1 x2 x3).run
abbrev qRW (n:Nat):List (Ent (Rn n)):= [en (qFk n)]
theorem qQU:∀n,Ok (Rn n) qRV (qEH n)
 |0=>ok0 fun _=>rfl
 |n+1=>stO (T:=qII n) (by kernel_rfl) (qRW n) [] (fun _=>(by kernel_rfl)) fun _=>(by kernel_rfl)
def qJ5:Sg:=⟨249,[(.agg [qI,qI,qI,qI,qS,qI,qI,qB,qB,qI,qI,qB,qB,qL])],[],⟨aB,[],[]⟩⟩
def qDX (n:Nat) (x0 x1 x2 x3:Int) (x4:BA) (x5 x6:Int) (x7 x8:Bool) (x9 x10:Int) (x11 x12:Bool) (x13:RW):Tr (Bool):=(.ask ((x0 !=(2:Int))) (.ask ((x0 !=(3:Int))) (.done true) (.opt (qCq n x0 x1 x2 x3 x4 x5 x6 x7 x8 x9 x10 x11 x12 x13) fun r291=>(.opt (qEH n r291.1 r291.2.1 r291.2.2.1 r291.2.2.2) fun r294=>(.done r294)))) (.opt (qCq n x0 x1 x2 x3 x4 x5 x6 x7 x8 x9 x10 x11 x12 x13) fun r295=>(.opt (qEH n r295.1 r295.2.1 r295.2.2.1 r295.2.2.2) fun r296=>(.done r296))))
def qAG:Nat→Int→Int→Int→Int→BA→Int→Int→Bool→Bool→Int→Int→Bool→Bool→RW→Option (Bool)
 |0,_,_,_,_,_,_,_,_,_,_,_,_,_,_=>none
 |n+1,x0,x1,x2,x3,x4,x5,x6,x7,x8,x9,x10,x11,x12,x13=>(qDX n x0 x1 x2 x3 x4 x5 x6 x7 x8 x9 x10 x11 x12 x13).run
abbrev qJ6 (n:Nat):List (Ent (Rn n)):= [en (qMQ n),en (qQU n)]
theorem qJG:∀n,Ok (Rn n) qJ5 (qAG n)
 |0=>ok0 fun _=>rfl
 |n+1=>stO (T:=qDX n) (by kernel_rfl) (qJ6 n) [] (fun _=>(by kernel_rfl)) fun _=>(by kernel_rfl)
def qLZ:Sg:=⟨250,[(.agg [qI,qI,qI,qI,qS,qI,qI,qB,qB,qI,qI,qB,qB,qL])],[],⟨aB,[],[]⟩⟩
def qED (n:Nat) (x0 x1 x2 x3:Int) (x4:BA) (x5 x6:Int) (x7 x8:Bool) (x9 x10:Int) (x11 x12:Bool) (x13:RW):Tr (Bool):=(.ask ((x0==(4:Int))) (.ask ((x1==(0:Int))) (.done ((x13.length:Int)==(1:Int))) (.done false)) (.ask ((x0==(5:Int))) (.opt (qz n x1 (1:Int) (11:Int)) fun r298=>(.ask (r298) (.done ((x13.length:Int)==(2:Int))) (.done false))) (.ask ((x0==(6:Int))) (.opt (qz n x1 (1:Int) (10:Int)) fun r299=>(.ask ((!r299)) (.done false) (.ask ((x1==(5:Int))) (.opt (qz n (x13.length:Int) (2:Int) (3:Int)) fun r300=>(.done r300)) (.ask ((decide (x1≥(8:Int)))) (.done ((x13.length:Int)==(1:Int))) (.opt (qz n (x13.length:Int) (1:Int) (10:Int)) fun r301=>(.done r301)))))) (.ask ((x1==(0:Int))) (.done ((x13.length:Int)==(0:Int))) (.done false)))))
def qAS:Nat→Int→Int→Int→Int→BA→Int→Int→Bool→Bool→Int→Int→Bool→Bool→RW→Option (Bool)
 |0,_,_,_,_,_,_,_,_,_,_,_,_,_,_=>none
 |n+1,x0,x1,x2,x3,x4,x5,x6,x7,x8,x9,x10,x11,x12,x13=>(qED n x0 x1 x2 x3 x4 x5 x6 x7 x8 x9 x10 x11 x12 x13).run
abbrev qLa (n:Nat):List (Ent (Rn n)):= [en (qDD n)]
theorem qKc:∀n,Ok (Rn n) qLZ (qAS n)
 |0=>ok0 fun _=>rfl
 |n+1=>stO (T:=qED n) (by kernel_rfl) (qLa n) [] (fun _=>(by kernel_rfl)) fun _=>(by kernel_rfl)
def qMR:Sg:=⟨224,[(.agg [qI,qI,qI,qI,qS,qI,qI,qB,qB,qI,qI,qB,qB,qL])],[],⟨aB,[],[]⟩⟩
def qEd (n:Nat) (x0 x1 x2 x3:Int) (x4:BA) (x5 x6:Int) (x7 x8:Bool) (x9 x10:Int) (x11 x12:Bool) (x13:RW):Tr (Bool):=(.ask ((x0==(1:Int))) (.opt (qAX n x2 x3 x4) fun r290=>(.ask ((!r290)) (.done false) (.ask ((x2==(0:Int))) (.done false) (.ask ((x2==(1:Int))) (.ask ((decide (x3<(0:Int)))) (.done false) (.opt (qAG n x0 x1 x2 x3 x4 x5 x6 x7 x8 x9 x10 x11 x12 x13) fun r297=>(.ask (r297) (.opt (qAS n x0 x1 x2 x3 x4 x5 x6 x7 x8 x9 x10 x11 x12 x13) fun r302=>(.ask (r302) (.ask (((x2==x2)&&((x3==x3)&&((x4.toList==x4.toList)&&true)))) (.ask ((((0:Int)==x5)&&(((0:Int)==x6)&&((false==x7)&&((false==x8)&&true))))) (.done (((0:Int)==x9)&&(((0:Int)==x10)&&((false==x11)&&((false==x12)&&true))))) (.done false)) (.done false)) (.done false))) (.done false)))) (.opt (qAG n x0 x1 x2 x3 x4 x5 x6 x7 x8 x9 x10 x11 x12 x13) fun r303=>(.ask (r303) (.opt (qAS n x0 x1 x2 x3 x4 x5 x6 x7 x8 x9 x10 x11 x12 x13) fun r304=>(.ask (r304) (.ask (((x2==x2)&&((x3==x3)&&((x4.toList==x4.toList)&&true)))) (.ask ((((0:Int)==x5)&&(((0:Int)==x6)&&((false==x7)&&((false==x8)&&true))))) (.done (((0:Int)==x9)&&(((0:Int)==x10)&&((false==x11)&&((false==x12)&&true))))) (.done false)) (.done false)) (.done false))) (.done false))))))) (.ask ((x0==(2:Int))) (.opt (qAG n x0 x1 x2 x3 x4 x5 x6 x7 x8 x9 x10 x11 x12 x13) fun r305=>(.ask (r305) (.opt (qAS n x0 x1 x2 x3 x4 x5 x6 x7 x8 x9 x10 x11 x12 x13) fun r306=>(.ask (r306) (.ask ((((0:Int)==x2)&&(((0:Int)==x3)&&(((⟨#[]⟩:BA).toList==x4.toList)&&true)))) (.ask (((x5==x5)&&((x6==x6)&&((x7==x7)&&((x8==x8)&&true))))) (.done (((0:Int)==x9)&&(((0:Int)==x10)&&((false==x11)&&((false==x12)&&true))))) (.done false)) (.done false)) (.done false))) (.done false))) (.ask ((x0==(3:Int))) (.opt (qAG n x0 x1 x2 x3 x4 x5 x6 x7 x8 x9 x10 x11 x12 x13) fun r307=>(.ask (r307) (.opt (qAS n x0 x1 x2 x3 x4 x5 x6 x7 x8 x9 x10 x11 x12 x13) fun r308=>(.ask (r308) (.ask ((((0:Int)==x2)&&(((0:Int)==x3)&&(((⟨#[]⟩:BA).toList==x4.toList)&&true)))) (.ask (((x5==x5)&&((x6==x6)&&((x7==x7)&&((x8==x8)&&true))))) (.done ((x9==x9)&&((x10==x10)&&((x11==x11)&&((x12==x12)&&true))))) (.done false)) (.done false)) (.done false))) (.done false))) (.ask ((x0==(4:Int))) (.opt (qAG n x0 x1 x2 x3 x4 x5 x6 x7 x8 x9 x10 x11 x12 x13) fun r309=>(.ask (r309) (.opt (qAS n x0 x1 x2 x3 x4 x5 x6 x7 x8 x9 x10 x11 x12 x13) fun r310=>(.ask (r310) (.ask ((((0:Int)==x2)&&(((0:Int)==x3)&&(((⟨#[]⟩:BA).toList==x4.toList)&&true)))) (.ask ((((0:Int)==x5)&&(((0:Int)==x6)&&((false==x7)&&((false==x8)&&true))))) (.done (((0:Int)==x9)&&(((0:Int)==x10)&&((false==x11)&&((false==x12)&&true))))) (.done false)) (.done false)) (.done false))) (.done false))) (.ask ((x0==(5:Int))) (.opt (qAG n x0 x1 x2 x3 x4 x5 x6 x7 x8 x9 x10 x11 x12 x13) fun r311=>(.ask (r311) (.opt (qAS n x0 x1 x2 x3 x4 x5 x6 x7 x8 x9 x10 x11 x12 x13) fun r312=>(.ask (r312) (.ask ((((0:Int)==x2)&&(((0:Int)==x3)&&(((⟨#[]⟩:BA).toList==x4.toList)&&true)))) (.ask ((((0:Int)==x5)&&(((0:Int)==x6)&&((false==x7)&&((false==x8)&&true))))) (.done (((0:Int)==x9)&&(((0:Int)==x10)&&((false==x11)&&((false==x12)&&true))))) (.done false)) (.done false)) (.done false))) (.done false))) (.ask ((x0==(6:Int))) (.opt (qAG n x0 x1 x2 x3 x4 x5 x6 x7 x8 x9 x10 x11 x12 x13) fun r313=>(.ask (r313) (.opt (qAS n x0 x1 x2 x3 x4 x5 x6 x7 x8 x9 x10 x11 x12 x13) fun r314=>(.ask (r314) (.ask ((((0:Int)==x2)&&(((0:Int)==x3)&&(((⟨#[]⟩:BA).toList==x4.toList)&&true)))) (.ask ((((0:Int)==x5)&&(((0:Int)==x6)&&((false==x7)&&((false==x8)&&true))))) (.done (((0:Int)==x9)&&(((0:Int)==x10)&&((false==x11)&&((false==x12)&&true))))) (.done false)) (.done false)) (.done false))) (.done false))) (.done false)))))))
def qDN:Nat→Int→Int→Int→Int→BA→Int→Int→Bool→Bool→Int→Int→Bool→Bool→RW→Option (Bool)
 |0,_,_,_,_,_,_,_,_,_,_,_,_,_,_=>none
 |n+1,x0,x1,x2,x3,x4,x5,x6,x7,x8,x9,x10,x11,x12,x13=>(qEd n x0 x1 x2 x3 x4 x5 x6 x7 x8 x9 x10 x11 x12 x13).run
abbrev qMS (n:Nat):List (Ent (Rn n)):= [en (qGD n),en (qJG n),en (qKc n)]
theorem qLb:∀n,Ok (Rn n) qMR (qDN n)
 |0=>ok0 fun _=>rfl
 |n+1=>stO (T:=qEd n) (by kernel_rfl) (qMS n) [] (fun _=>(by kernel_rfl)) fun _=>(by kernel_rfl)
def qKd:Sg:=⟨198,[aL,aI,aI],[],⟨aI,[],[]⟩⟩
def qAY (rec:RW→Int→Int→Option (Int)) (n:Nat) (v:RW×Int×Int×Int×Int):Tr ((RW×Int×Int×Int×Int)⊕((Int)⊕(Int))):=(.ask ((decide (v.2.2.2.2≥(0:Int)))) (.ask (decide (0≤v.2.1∧v.2.1<v.1.length)) (.opt (v.1[(v.2.1).toNat]?) fun e318=>(.ask (decide (e318.length=14)) (.opt (zd e318 13) fun y319=>(.ask (decide (0≤v.2.2.2.2∧v.2.2.2.2<y319.length)) (.opt (y319[(v.2.2.2.2).toNat]?) fun e320=>(.ask (decide (e320.length=1)) (.opt (zC .i64 e320 0) fun y321=>(.ask ((y321 !=(IntKind.i64.wrap (v.2.2.2.1-(1:Int))))) (.done (.inr (.inl ((-1:Int))))) (.ask ((decide (y321<(0:Int)))) (.done (.inr (.inl ((-1:Int))))) (.ask (decide (0≤y321∧y321<v.1.length)) (.opt (v.1[(y321).toNat]?) fun e322=>(.ask (decide (e322.length=14)) (.opt (zC .i64 e322 0) fun y323=>(.ask ((y323==(3:Int))) (.ask (decide (0≤v.2.1∧v.2.1<v.1.length)) (.opt (v.1[(v.2.1).toNat]?) fun e324=>(.ask (decide (e324.length=14)) (.opt (zC .i64 e324 0) fun y325=>(.ask ((y325 !=(6:Int))) (.done (.inr (.inl ((-1:Int))))) (.opt (rec v.1 y321 (IntKind.i64.wrap (v.2.2.1+(1:Int)))) fun r326=>(.ask ((decide (r326<(0:Int)))) (.done (.inr (.inl ((-1:Int))))) (.done (.inl (v.1,v.2.1,v.2.2.1,r326,(IntKind.i64.wrap (v.2.2.2.2-(1:Int)))))))))) .fail)) .fail) (.opt (rec v.1 y321 (IntKind.i64.wrap (v.2.2.1+(1:Int)))) fun r327=>(.ask ((decide (r327<(0:Int)))) (.done (.inr (.inl ((-1:Int))))) (.done (.inl (v.1,v.2.1,v.2.2.1,r327,(IntKind.i64.wrap (v.2.2.2.2-(1:Int)))))))))) .fail)) .fail)))) .fail)) .fail)) .fail)) .fail) (.done (.inr (.inr (v.2.2.2.1)))))
def qFu (rec:RW→Int→Int→Option (Int)) (n:Nat) (x0:RW) (x1 x2:Int):Tr (Int):=(.ask ((decide (x1<(0:Int)))) (.done (-1:Int)) (.ask ((decide (x2≥(12:Int)))) (.done (-1:Int)) (.ask (decide (0≤x1∧x1<x0.length)) (.opt (x0[(x1).toNat]?) fun e275=>(.ask (decide (e275.length=14)) (.opt (zC .i64 e275 0) fun y276=>(.opt (zC .i64 e275 1) fun y277=>(.opt (zC .i64 e275 2) fun y278=>(.opt (zC .i64 e275 3) fun y279=>(.opt (zR e275 4) fun y280=>(.opt (zC .i64 e275 5) fun y281=>(.opt (zC .i64 e275 6) fun y282=>(.opt (zAG e275 7) fun y283=>(.opt (zAG e275 8) fun y284=>(.opt (zC .i64 e275 9) fun y285=>(.opt (zC .i64 e275 10) fun y286=>(.opt (zAG e275 11) fun y287=>(.opt (zAG e275 12) fun y288=>(.opt (zd e275 13) fun y289=>(.opt (qDN n y276 y277 y278 y279 y280 y281 y282 y283 y284 y285 y286 y287 y288 y289) fun r315=>(.ask ((!r315)) (.done (-1:Int)) (.ask (decide (0≤x1∧x1<x0.length)) (.opt (x0[(x1).toNat]?) fun e316=>(.ask (decide (e316.length=14)) (.opt (zd e316 13) fun y317=>(.opt (zD (qAY rec n) n (x0,x1,x2,x1,(IntKind.i64.wrap ((y317.length:Int)-(1:Int))))) fun r328=>(.alt r328 (fun r329=>(.done r329)) (fun r330=>(.done r330))))) .fail)) .fail))))))))))))))))) .fail)) .fail)))
def qAo:Nat→RW→Int→Int→Option (Int)
 |0,_,_,_=>none
 |n+1,x0,x1,x2=>(qFu (qAo n) n x0 x1 x2).run
abbrev qOr (n:Nat) (ih:Ok (Rn n) qKd (qAo n)):List (Ent (Rn n)):= [en (qLb n),en ih]
def qQV (n:Nat) (ih:Ok (Rn n) qKd (qAo n)):LEnt (KB 198) (Rn n) n:=lok (zK 198) 61 ⟨⟨[(0,aL),(1,aI),(2,aI),(7,aI),(8,aI)],[],[]⟩,[(.ret,⟨[(6,aI)],[],[]⟩),(.exit 0,⟨[(7,aI)],[],[]⟩)]⟩ (qAY (qAo n) n) (qOr n ih) [] fun _=>(by kernel_rfl)
theorem qJH:∀n,Ok (Rn n) qKd (qAo n)
 |0=>ok0 fun _=>rfl
 |n+1=>stO (T:=qFu (qAo n) n) (by kernel_rfl) (qOr n (qJH n)) [qQV n (qJH n)] (fun _=>(by kernel_rfl)) fun _=>(by kernel_rfl)
def qOL:Sg:=⟨161,[aL],[],⟨aB,[],[]⟩⟩
def qDH (n:Nat) (x0:RW):Tr (Bool):=(.opt (qz n (x0.length:Int) (1:Int) (60:Int)) fun r272=>(.ask (r272) (.ask (decide (0≤(IntKind.i64.wrap ((x0.length:Int)-(1:Int)))∧(IntKind.i64.wrap ((x0.length:Int)-(1:Int)))<x0.length)) (.opt (x0[((IntKind.i64.wrap ((x0.length:Int)-(1:Int)))).toNat]?) fun e273=>(.ask (decide (e273.length=14)) (.opt (zC .i64 e273 0) fun y274=>(.ask ((y274 !=(3:Int))) (.opt (qAo n x0 (IntKind.i64.wrap ((x0.length:Int)-(1:Int))) (0:Int)) fun r331=>(.done (r331==(0:Int)))) (.done false))) .fail)) .fail) (.done false)))
def qBx:Nat→RW→Option (Bool)
 |0,_=>none
 |n+1,x0=>(qDH n x0).run
abbrev qOM (n:Nat):List (Ent (Rn n)):= [en (qDD n),en (qJH n)]
theorem qHm:∀n,Ok (Rn n) qOL (qBx n)
 |0=>ok0 fun _=>rfl
 |n+1=>stO (T:=qDH n) (by kernel_rfl) (qOM n) [] (fun _=>(by kernel_rfl)) fun _=>(by kernel_rfl)
def qMT:Sg:=⟨119,[aS],[],⟨(.tup [(false,[qL]),(false,[qB])]),[],[]⟩⟩
def qHG (n:Nat) (x0:BA):Tr (RW×Bool):=(.opt (qCx n x0 (200:Int)) fun r131=>(.ask ((!r131)) (.ask (decide (0=([]:RW).length)) (.done (([]:RW),false)) .fail) (.opt (qCp n (1:Int) (0:Int) x0 (0:Nat) false ([]:RW)) fun r270=>(.opt (qA2 n r270.2.1 r270.2.2.1 r270.2.2.2.1 r270.2.2.2.2) fun r271=>(.ask (r271.2.2.1) (.ask (decide (0=([]:RW).length)) (.done (([]:RW),false)) .fail) (.ask ((!(r271.1.toList==(⟨#[]⟩:BA).toList))) (.ask (decide (0=([]:RW).length)) (.done (([]:RW),false)) .fail) (.ask (decide (r271.2.1=r271.2.2.2.length)) (.opt (qBx n r271.2.2.2) fun r332=>(.ask (zAv (⟨(.c (.p (.b r332))),[],[]⟩:Res)) (.ask ((!r332)) (.ask (decide (0=([]:RW).length)) (.done (([]:RW),false)) .fail) (.ask (decide (r271.2.1=r271.2.2.2.length)) (.done (r271.2.2.2,true)) .fail)) .fail)) .fail)))))))
def qEe:Nat→BA→Option (RW×Bool)
 |0,_=>none
 |n+1,x0=>(qHG n x0).run
abbrev qMU (n:Nat):List (Ent (Rn n)):= [en (qG3 n),en (qJ4 n),en (qCZ n),en (qHm n)]
theorem qLc:∀n,Ok (Rn n) qMT (qEe n)
 |0=>ok0 fun _=>rfl
 |n+1=>stO (T:=qHG n) (by kernel_rfl) (qMU n) [] (fun _=>(by kernel_rfl)) fun _=>(by kernel_rfl)
def qFv:Sg:=⟨251,[aS,aS,aS],[],⟨aS,[],[]⟩⟩
def qDl:Nat→BA→BA→BA→Option ((BA))
 |0,_,_,_=>none
 |n+1,x0,x1,x2=>zb x0 x1 x2
theorem qJ7:∀n,Ok (Rn n) qFv (qDl n)
 |0=>ok0 fun _=>rfl
 |n+1=>stL (by kernel_rfl) (fun a r e=>congrArg (Option.map fun r=>(qFv.Of r).v) e) rfl rfl rfl
def qKe:Sg:=⟨252,[aL,aS],[],⟨aS,[],[]⟩⟩
def qHH:Nat→RW→BA→Option ((BA))
 |0,_,_=>none
 |n+1,x0,x1=>zAc x0 x1
theorem qPT:∀n,Ok (Rn n) qKe (qHH n)
 |0=>ok0 fun _=>rfl
 |n+1=>stL (by kernel_rfl) (fun a r e=>congrArg (Option.map fun r=>(qKe.Of r).v) e) rfl rfl rfl
def qEf:Sg:=⟨225,[aL,aI,aI],[],⟨aS,[],[]⟩⟩
def qBg (rec:RW→Int→Int→Option (BA)) (n:Nat) (v:RW×Nat×RW×Int×Int×Int×Int×Int×Int×BA×Int×Int×Bool×Bool×Int×Int×Bool×Bool×RW×RW):Tr ((RW×Nat×RW×Int×Int×Int×Int×Int×Int×BA×Int×Int×Bool×Bool×Int×Int×Bool×Bool×RW×RW)⊕((Nat×Int×Int×Int×Int×BA×Int×Int×Bool×Bool×Int×Int×Bool×Bool×RW×RW))):=(.ask ((decide (v.2.2.2.2.1<v.2.2.2.1))) (.ask (decide (0≤v.2.2.2.2.1∧v.2.2.2.2.1<v.2.2.1.length)) (.opt (v.2.2.1[(v.2.2.2.2.1).toNat]?) fun e366=>(.ask (decide (e366.length=1)) (.opt (zC .i64 e366 0) fun y367=>(.opt (rec v.1 y367 (1:Int)) fun r368=>(.ask (decide (1=([[(.s r368)]]:RW).length)) (.ask (decide (v.2.1=v.2.2.2.2.2.2.2.2.2.2.2.2.2.2.2.2.2.2.2.length∧0<1∧0<16∧(v.2.1+([[(.s r368)]]:RW).length)*16≤140737488355328∧([[(.s r368)]]:RW).all (fun e=>e.length==1)=true)) (.done (.inl (v.1,(v.2.1+1),v.2.2.1,v.2.2.2.1,(IntKind.i64.wrap (v.2.2.2.2.1+(1:Int))),v.2.2.2.2.2.1,v.2.2.2.2.2.2.1,v.2.2.2.2.2.2.2.1,v.2.2.2.2.2.2.2.2.1,v.2.2.2.2.2.2.2.2.2.1,v.2.2.2.2.2.2.2.2.2.2.1,v.2.2.2.2.2.2.2.2.2.2.2.1,v.2.2.2.2.2.2.2.2.2.2.2.2.1,v.2.2.2.2.2.2.2.2.2.2.2.2.2.1,v.2.2.2.2.2.2.2.2.2.2.2.2.2.2.1,v.2.2.2.2.2.2.2.2.2.2.2.2.2.2.2.1,v.2.2.2.2.2.2.2.2.2.2.2.2.2.2.2.2.1,v.2.2.2.2.2.2.2.2.2.2.2.2.2.2.2.2.2.1,v.2.2.2.2.2.2.2.2.2.2.2.2.2.2.2.2.2.2.1,(v.2.2.2.2.2.2.2.2.2.2.2.2.2.2.2.2.2.2.2++([[(.s r368)]]:RW))))) .fail) .fail))) .fail)) .fail) (.done (.inr ((v.2.1,v.2.2.2.2.2.1,v.2.2.2.2.2.2.1,v.2.2.2.2.2.2.2.1,v.2.2.2.2.2.2.2.2.1,v.2.2.2.2.2.2.2.2.2.1,v.2.2.2.2.2.2.2.2.2.2.1,v.2.2.2.2.2.2.2.2.2.2.2.1,v.2.2.2.2.2.2.2.2.2.2.2.2.1,v.2.2.2.2.2.2.2.2.2.2.2.2.2.1,v.2.2.2.2.2.2.2.2.2.2.2.2.2.2.1,v.2.2.2.2.2.2.2.2.2.2.2.2.2.2.2.1,v.2.2.2.2.2.2.2.2.2.2.2.2.2.2.2.2.1,v.2.2.2.2.2.2.2.2.2.2.2.2.2.2.2.2.2.1,v.2.2.2.2.2.2.2.2.2.2.2.2.2.2.2.2.2.2.1,v.2.2.2.2.2.2.2.2.2.2.2.2.2.2.2.2.2.2.2)))))
def qAr (rec:RW→Int→Int→Option (BA)) (n:Nat) (x0:RW) (x1 x2:Int):Tr (BA):=(.ask (decide (0≤x1∧x1<x0.length)) (.opt (x0[(x1).toNat]?) fun e335=>(.ask (decide (e335.length=14)) (.opt (zC .i64 e335 0) fun y336=>(.opt (zC .i64 e335 1) fun y337=>(.opt (zC .i64 e335 2) fun y338=>(.opt (zC .i64 e335 3) fun y339=>(.opt (zR e335 4) fun y340=>(.opt (zC .i64 e335 5) fun y341=>(.opt (zC .i64 e335 6) fun y342=>(.opt (zAG e335 7) fun y343=>(.opt (zAG e335 8) fun y344=>(.opt (zC .i64 e335 9) fun y345=>(.opt (zC .i64 e335 10) fun y346=>(.opt (zAG e335 11) fun y347=>(.opt (zAG e335 12) fun y348=>(.opt (zd e335 13) fun y349=>(.ask ((y336==(1:Int))) (.ask ((y338==(2:Int))) (.opt (qDl n y340 (⟨#[34]⟩:BA) (⟨#[34,34]⟩:BA)) fun r350=>(.ask (decide ((⟨#[34]⟩:BA).size+r350.size≤9223372036854775807)) (.ask (decide (((⟨#[34]⟩:BA)++r350).size+(⟨#[34]⟩:BA).size≤9223372036854775807)) (.done (((⟨#[34]⟩:BA)++r350)++(⟨#[34]⟩:BA))) .fail) .fail)) (.opt (qu n y338 y339 y340) fun r351=>(.done r351))) (.ask ((y336==(2:Int))) (.opt (qBB n y341 y342 y343 y344) fun r352=>(.done r352)) (.ask ((y336==(3:Int))) (.opt (qBB n y341 y342 y343 y344) fun r353=>(.ask (decide (r353.size+(⟨#[58]⟩:BA).size≤9223372036854775807)) (.opt (qBB n y345 y346 y347 y348) fun r354=>(.ask (decide ((r353++(⟨#[58]⟩:BA)).size+r354.size≤9223372036854775807)) (.done ((r353++(⟨#[58]⟩:BA))++r354)) .fail)) .fail)) (.ask ((y336==(4:Int))) (.ask (decide (0≤(0:Int)∧(0:Int)<y349.length)) (.opt (y349[((0:Int)).toNat]?) fun e355=>(.ask (decide (e355.length=1)) (.opt (zC .i64 e355 0) fun y356=>(.opt (rec x0 y356 (5:Int)) fun r357=>(.ask (decide ((⟨#[45]⟩:BA).size+r357.size≤9223372036854775807)) (.done ((⟨#[45]⟩:BA)++r357)) .fail))) .fail)) .fail) (.ask ((y336==(5:Int))) (.opt (qDz n y337) fun r358=>(.ask (decide (0≤(0:Int)∧(0:Int)<y349.length)) (.opt (y349[((0:Int)).toNat]?) fun e359=>(.ask (decide (e359.length=1)) (.opt (zC .i64 e359 0) fun y360=>(.ask (decide (0≤(1:Int)∧(1:Int)<y349.length)) (.opt (y349[((1:Int)).toNat]?) fun e361=>(.ask (decide (e361.length=1)) (.opt (zC .i64 e361 0) fun y362=>(.opt (rec x0 y360 r358) fun r363=>(.opt (qBa n y337) fun r364=>(.ask (decide (r363.size+r364.size≤9223372036854775807)) (.opt (rec x0 y362 (IntKind.i64.wrap (r358+(1:Int)))) fun r365=>(.ask (decide ((r363++r364).size+r365.size≤9223372036854775807)) (.ask ((decide (r358<x2))) (.ask (decide ((⟨#[40]⟩:BA).size+((r363++r364)++r365).size≤9223372036854775807)) (.ask (decide (((⟨#[40]⟩:BA)++((r363++r364)++r365)).size+(⟨#[41]⟩:BA).size≤9223372036854775807)) (.done (((⟨#[40]⟩:BA)++((r363++r364)++r365))++(⟨#[41]⟩:BA))) .fail) .fail) (.done ((r363++r364)++r365))) .fail)) .fail)))) .fail)) .fail)) .fail)) .fail)) (.opt (zD (qBg rec n) n (x0,(0:Nat),y349,(y349.length:Int),(0:Int),y336,y337,y338,y339,y340,y341,y342,y343,y344,y345,y346,y347,y348,y349,([]:RW))) fun r369=>(.opt (qCN n r369.2.2.1) fun r370=>(.ask (decide (r370.size+(⟨#[40]⟩:BA).size≤9223372036854775807)) (.ask (decide (r369.1=r369.2.2.2.2.2.2.2.2.2.2.2.2.2.2.2.length)) (.opt (qHH n r369.2.2.2.2.2.2.2.2.2.2.2.2.2.2.2 (⟨#[44]⟩:BA)) fun r371=>(.ask (zAv (⟨(.c (.p (.s r371))),[],[]⟩:Res)) (.ask (decide ((r370++(⟨#[40]⟩:BA)).size+r371.size≤9223372036854775807)) (.ask (decide (((r370++(⟨#[40]⟩:BA))++r371).size+(⟨#[41]⟩:BA).size≤9223372036854775807)) (.done (((r370++(⟨#[40]⟩:BA))++r371)++(⟨#[41]⟩:BA))) .fail) .fail) .fail)) .fail) .fail)))))))))))))))))))))) .fail)) .fail)
def qZ:Nat→RW→Int→Int→Option (BA)
 |0,_,_,_=>none
 |n+1,x0,x1,x2=>(qAr (qZ n) n x0 x1 x2).run
abbrev qHI (n:Nat) (ih:Ok (Rn n) qEf (qZ n)):List (Ent (Rn n)):= [en (qJ7 n),en (qHi n),en (qHk n),en ih,en (qLt n),en (qKb n),en (qKa n),en (qPT n)]
def qJI (n:Nat) (ih:Ok (Rn n) qEf (qZ n)):LEnt (KB 225) (Rn n) n:=lok (zK 225) 125 ⟨⟨[(0,aL),(7,(.c (.ptr 0 448 0 0 0))),(10,(.c (.own 0 5760 0 0))),(92,aL),(93,aI),(94,aI)],[(448,⟨0,14,162,(.box [qI,qI,qI,qI,qS,qI,qI,qB,qB,qI,qI,qB,qB,qL])⟩),(5760,⟨0,1,9,(.row [])⟩)],[]⟩,[(.exit 1,⟨[(7,(.c (.ptr 0 448 0 0 0))),(10,(.c (.own 0 5760 0 0)))],[(448,⟨0,14,162,(.box [qI,qI,qI,qI,qS,qI,qI,qB,qB,qI,qI,qB,qB,qL])⟩),(5760,⟨0,1,9,(.row [])⟩)],[]⟩)]⟩ (qBg (qZ n) n) (qHI n ih) [] fun _=>(by kernel_rfl)
theorem qEE:∀n,Ok (Rn n) qEf (qZ n)
 |0=>ok0 fun _=>rfl
 |n+1=>stO (T:=qAr (qZ n) n) (by kernel_rfl) (qHI n (qEE n)) [qJI n (qEE n)] (fun _=>(by kernel_rfl)) fun _=>(by kernel_rfl)
def qMV:Sg:=⟨199,[aL],[],⟨aS,[],[]⟩⟩
def qDO (n:Nat) (x0:RW):Tr (BA):=(.opt (qBx n x0) fun r334=>(.ask ((!r334)) (.done (⟨#[]⟩:BA)) (.opt (qZ n x0 (IntKind.i64.wrap ((x0.length:Int)-(1:Int))) (1:Int)) fun r372=>(.ask ((decide ((r372.size:Int)>(200:Int)))) (.done (⟨#[]⟩:BA)) (.done r372)))))
def qBy:Nat→RW→Option (BA)
 |0,_=>none
 |n+1,x0=>(qDO n x0).run
abbrev qMW (n:Nat):List (Ent (Rn n)):= [en (qHm n),en (qEE n)]
theorem qLd:∀n,Ok (Rn n) qMV (qBy n)
 |0=>ok0 fun _=>rfl
 |n+1=>stO (T:=qDO n) (by kernel_rfl) (qMW n) [] (fun _=>(by kernel_rfl)) fun _=>(by kernel_rfl)
def qPU:Sg:=⟨167,[aL],[],⟨(.tup [(false,[qS]),(false,[qB])]),[],[]⟩⟩
def qJm (n:Nat) (x0:RW):Tr (BA×Bool):=(.opt (qBy n x0) fun r373=>(.ask (decide ((⟨#[61]⟩:BA).size+r373.size≤9223372036854775807)) (.ask ((!(r373.toList==(⟨#[]⟩:BA).toList))) (.done (((⟨#[61]⟩:BA)++r373),(decide ((r373.size:Int)<(200:Int))))) (.done (((⟨#[61]⟩:BA)++r373),false))) .fail))
def qGF:Nat→RW→Option (BA×Bool)
 |0,_=>none
 |n+1,x0=>(qJm n x0).run
abbrev qPV (n:Nat):List (Ent (Rn n)):= [en (qLd n)]
theorem qON:∀n,Ok (Rn n) qPU (qGF n)
 |0=>ok0 fun _=>rfl
 |n+1=>stO (T:=qJm n) (by kernel_rfl) (qPV n) [] (fun _=>(by kernel_rfl)) fun _=>(by kernel_rfl)
def qEm:Sg:=⟨231,[aS,aS],[],⟨aS,[],[]⟩⟩
def qCd (n:Nat) (x0 x1:BA):Tr (BA):=(.opt (qAE n x0 x1) fun r378=>(.ask (r378) (.ask (decide (0≤(x1.size:Int)∧(x1.size:Int)≤(x0.size:Int)∧(x0.size:Int)≤x0.size)) (.done (x0.extract ((x1.size:Int)).toNat ((x0.size:Int)).toNat)) .fail) (.done x0)))
def qBW:Nat→BA→BA→Option (BA)
 |0,_,_=>none
 |n+1,x0,x1=>(qCd n x0 x1).run
abbrev qEn (n:Nat):List (Ent (Rn n)):= [en (qCc n)]
theorem qEg:∀n,Ok (Rn n) qEm (qBW n)
 |0=>ok0 fun _=>rfl
 |n+1=>stO (T:=qCd n) (by kernel_rfl) (qEn n) [] (fun _=>(by kernel_rfl)) fun _=>(by kernel_rfl)
def qKf:Sg:=⟨202,[aS,aS],[],⟨aS,[],[]⟩⟩
def qFw (n:Nat) (x0 x1:BA):Tr (BA):=(.opt (qBW n x0 x1) fun r379=>(.done r379))
def qDm:Nat→BA→BA→Option (BA)
 |0,_,_=>none
 |n+1,x0,x1=>(qFw n x0 x1).run
abbrev qKg (n:Nat):List (Ent (Rn n)):= [en (qEg n)]
theorem qJ8:∀n,Ok (Rn n) qKf (qDm n)
 |0=>ok0 fun _=>rfl
 |n+1=>stO (T:=qFw n) (by kernel_rfl) (qKg n) [] (fun _=>(by kernel_rfl)) fun _=>(by kernel_rfl)
def qKh:Sg:=⟨109,[aS,aS],[],⟨aS,[],[]⟩⟩
def qDn:Nat→BA→BA→Option ((BA))
 |0,_,_=>none
 |n+1,x0,x1=>zm x0 x1
theorem qJn:∀n,Ok (Rn n) qKh (qDn n)
 |0=>ok0 fun _=>rfl
 |n+1=>stL (by kernel_rfl) (fun a r e=>congrArg (Option.map fun r=>(qKh.Of r).v) e) rfl rfl rfl
def qPW:Sg:=⟨169,[aS],[],⟨aB,[],[]⟩⟩
def qJo (n:Nat) (x0:BA):Tr (Bool):=(.opt (qDm n x0 (⟨#[45]⟩:BA)) fun r380=>(.ask ((!(r380.toList==(⟨#[]⟩:BA).toList))) (.opt (qDn n r380 (⟨#[48,49,50,51,52,53,54,55,56,57]⟩:BA)) fun r381=>(.done (r381.toList==(⟨#[]⟩:BA).toList))) (.done false)))
def qET:Nat→BA→Option (Bool)
 |0,_=>none
 |n+1,x0=>(qJo n x0).run
abbrev qPX (n:Nat):List (Ent (Rn n)):= [en (qJ8 n),en (qJn n)]
theorem qOO:∀n,Ok (Rn n) qPW (qET n)
 |0=>ok0 fun _=>rfl
 |n+1=>stO (T:=qJo n) (by kernel_rfl) (qPX n) [] (fun _=>(by kernel_rfl)) fun _=>(by kernel_rfl)
def qQW:Sg:=⟨133,[aS],[],⟨(.tup [(false,[qS]),(false,[qB])]),[],[]⟩⟩
def qKi (n:Nat) (x0:BA):Tr (BA×Bool):=(.opt (qCx n x0 (200:Int)) fun r129=>(.ask ((!r129)) (.done ((⟨#[]⟩:BA),(x0.toList==(⟨#[]⟩:BA).toList))) (.ask ((x0.toList==(⟨#[]⟩:BA).toList)) (.done ((⟨#[]⟩:BA),(x0.toList==(⟨#[]⟩:BA).toList))) (.opt (qAK n x0 (⟨#[61]⟩:BA)) fun r130=>(.ask (r130.2) (.opt (qEe n r130.1) fun r333=>(.opt (qGF n r333.1) fun r374=>(.ask ((!r333.2)) (.done ((⟨#[]⟩:BA),false)) (.ask ((!r374.2)) (.done ((⟨#[]⟩:BA),false)) (.done (r374.1,true)))))) (.opt (qA3 n x0 (10:Int) (64:Int)) fun r375=>(.alt r375 (fun r376=>(.ask (true) (.opt (qET n x0) fun r382=>(.ask (r382) (.opt (qCy n r376) fun r383=>(.opt (qAX n r383.1 r383.2.1 r383.2.2) fun r384=>(.ask (r384) (.opt (qBH n r376) fun r385=>(.done (r385,true))) (.opt (qd n x0) fun r386=>(.ask (r386.2.2.2) (.done (x0,true)) (.ask (((x0.size:Int)==(200:Int))) (.done ((⟨#[]⟩:BA),false)) (.ask (decide ((⟨#[39]⟩:BA).size+x0.size≤9223372036854775807)) (.done (((⟨#[39]⟩:BA)++x0),true)) .fail))))))) (.opt (qd n x0) fun r387=>(.ask (r387.2.2.2) (.done (x0,true)) (.ask (((x0.size:Int)==(200:Int))) (.done ((⟨#[]⟩:BA),false)) (.ask (decide ((⟨#[39]⟩:BA).size+x0.size≤9223372036854775807)) (.done (((⟨#[39]⟩:BA)++x0),true)) .fail)))))) (.opt (qd n x0) fun r388=>(.ask (r388.2.2.2) (.done (x0,true)) (.ask (((x0.size:Int)==(200:Int))) (.done ((⟨#[]⟩:BA),false)) (.ask (decide ((⟨#[39]⟩:BA).size+x0.size≤9223372036854775807)) (.done (((⟨#[39]⟩:BA)++x0),true)) .fail)))))) (fun r377=>(.ask (false) (.opt (qET n x0) fun r389=>(.ask (r389) (.opt (qCy n r377) fun r390=>(.opt (qAX n r390.1 r390.2.1 r390.2.2) fun r391=>(.ask (r391) (.opt (qBH n r377) fun r392=>(.done (r392,true))) (.opt (qd n x0) fun r393=>(.ask (r393.2.2.2) (.done (x0,true)) (.ask (((x0.size:Int)==(200:Int))) (.done ((⟨#[]⟩:BA),false)) (.ask (decide ((⟨#[39]⟩:BA).size+x0.size≤9223372036854775807)) (.done (((⟨#[39]⟩:BA)++x0),true)) .fail))))))) (.opt (qd n x0) fun r394=>(.ask (r394.2.2.2) (.done (x0,true)) (.ask (((x0.size:Int)==(200:Int))) (.done ((⟨#[]⟩:BA),false)) (.ask (decide ((⟨#[39]⟩:BA).size+x0.size≤9223372036854775807)) (.done (((⟨#[39]⟩:BA)++x0),true)) .fail)))))) (.opt (qd n x0) fun r395=>(.ask (r395.2.2.2) (.done (x0,true)) (.ask (((x0.size:Int)==(200:Int))) (.done ((⟨#[]⟩:BA),false)) (.ask (decide ((⟨#[39]⟩:BA).size+x0.size≤9223372036854775807)) (.done (((⟨#[39]⟩:BA)++x0),true)) .fail)))))))))))))
def qHJ:Nat→BA→Option (BA×Bool)
 |0,_=>none
 |n+1,x0=>(qKi n x0).run
abbrev qQX (n:Nat):List (Ent (Rn n)):= [en (qG3 n),en (qCm n),en (qLc n),en (qON n),en2 (qEC n),en (qOO n),en (qKY n),en (qGD n),en (qGE n),en (qHj n)]
theorem qPY:∀n,Ok (Rn n) qQW (qHJ n)
 |0=>ok0 fun _=>rfl
 |n+1=>stO (T:=qKi n) (by kernel_rfl) (qQX n) [] (fun _=>(by kernel_rfl)) fun _=>(by kernel_rfl)
def qPZ:Sg:=⟨91,[aS],[],⟨aB,[],[]⟩⟩
def qJp (n:Nat) (x0:BA):Tr (Bool):=(.opt (qHJ n x0) fun r396=>(.ask (r396.2) (.ask ((!(x0.toList==(⟨#[]⟩:BA).toList))) (.done (r396.1.toList==x0.toList)) (.done false)) (.done false)))
def qDS:Nat→BA→Option (Bool)
 |0,_=>none
 |n+1,x0=>(qJp n x0).run
abbrev qPa (n:Nat):List (Ent (Rn n)):= [en (qPY n)]
theorem qOP:∀n,Ok (Rn n) qPZ (qDS n)
 |0=>ok0 fun _=>rfl
 |n+1=>stO (T:=qJp n) (by kernel_rfl) (qPa n) [] (fun _=>(by kernel_rfl)) fun _=>(by kernel_rfl)
def qQY:Sg:=⟨47,[aL],[],⟨aB,[],[]⟩⟩
def qFC (n:Nat) (v:RW×RW×Int×Int):Tr ((RW×RW×Int×Int)⊕((Bool)⊕(RW))):=(.ask ((decide (v.2.2.2<v.2.2.1))) (.ask (decide (0≤v.2.2.2∧v.2.2.2<v.2.1.length)) (.opt (v.2.1[(v.2.2.2).toNat]?) fun e103=>(.ask (decide (e103.length=3)) (.opt (zC .i64 e103 0) fun y104=>(.opt (zC .i64 e103 1) fun y105=>(.opt (zR e103 2) fun y106=>(.opt (qB1 n y104 y105) fun r107=>(.ask ((!r107)) (.done (.inr (.inl (false)))) (.ask ((decide (v.2.2.2>(0:Int)))) (.ask (decide (0≤(IntKind.i64.wrap (v.2.2.2-(1:Int)))∧(IntKind.i64.wrap (v.2.2.2-(1:Int)))<v.1.length)) (.opt (v.1[((IntKind.i64.wrap (v.2.2.2-(1:Int)))).toNat]?) fun e108=>(.ask (decide (e108.length=3)) (.opt (zC .i64 e108 0) fun y109=>(.opt (zC .i64 e108 1) fun y110=>(.opt (qBt n y109 y110 y104 y105) fun r111=>(.ask ((decide (r111≥(0:Int)))) (.done (.inr (.inl (false)))) (.opt (qDS n y106) fun r112=>(.ask ((!r112)) (.done (.inr (.inl (false)))) (.done (.inl (v.1,v.2.1,v.2.2.1,(IntKind.i64.wrap (v.2.2.2+(1:Int)))))))))))) .fail)) .fail) (.opt (qDS n y106) fun r113=>(.ask ((!r113)) (.done (.inr (.inl (false)))) (.done (.inl (v.1,v.2.1,v.2.2.1,(IntKind.i64.wrap (v.2.2.2+(1:Int)))))))))))))) .fail)) .fail) (.done (.inr (.inr (v.1)))))
def qKj (n:Nat) (x0:RW):Tr (Bool):=(.opt (zD (qFC n) n (x0,x0,(x0.length:Int),(0:Int))) fun r114=>(.alt r114 (fun r115=>(.done r115)) (fun r116=>(.done (decide ((r116.length:Int)≤(120:Int)))))))
def qDo:Nat→RW→Option (Bool)
 |0,_=>none
 |n+1,x0=>(qKj n x0).run
abbrev qKk (n:Nat):List (Ent (Rn n)):= [en (qFk n),en (qLU n),en (qOP n)]
def qND (n:Nat):LEnt (KB 47) (Rn n) n:=lok (zK 47) 13 ⟨⟨[(0,aL),(5,aL),(6,aI),(7,aI)],[],[]⟩,[(.ret,⟨[(2,aB)],[],[]⟩),(.exit 0,⟨[(0,aL)],[],[]⟩)]⟩ (qFC n) (qKk n) [] fun _=>(by kernel_rfl)
theorem qPb:∀n,Ok (Rn n) qQY (qDo n)
 |0=>ok0 fun _=>rfl
 |n+1=>stO (T:=qKj n) (by kernel_rfl) (qKk n) [qND n] (fun _=>(by kernel_rfl)) fun _=>(by kernel_rfl)
def qRX:Sg:=⟨69,[aS],[],⟨aB,[],[]⟩⟩
def qIJ (n:Nat) (x0:BA):Tr (Bool):=(.ask ((decide ((x0.size:Int)≥(1:Int)))) (.ask ((decide ((x0.size:Int)≤(12:Int)))) (.opt (qDn n x0 (⟨#[97,98,99,100,101,102,103,104,105,106,107,108,109,110,111,112,113,114,115,116,117,118,119,120,121,122]⟩:BA)) fun r104=>(.done (r104.toList==(⟨#[]⟩:BA).toList))) (.done false)) (.done false))
def qFl:Nat→BA→Option (Bool)
 |0,_=>none
 |n+1,x0=>(qIJ n x0).run
abbrev qRY (n:Nat):List (Ent (Rn n)):= [en (qJn n)]
theorem qQZ:∀n,Ok (Rn n) qRX (qFl n)
 |0=>ok0 fun _=>rfl
 |n+1=>stO (T:=qIJ n) (by kernel_rfl) (qRY n) [] (fun _=>(by kernel_rfl)) fun _=>(by kernel_rfl)
def qSZ:Sg:=⟨27,[(.agg [qI,qL,qL])],[],⟨aB,[],[]⟩⟩
def qEU (n:Nat) (v:RW×Int×Int×Int×RW×RW):Tr ((RW×Int×Int×Int×RW×RW)⊕((Bool)⊕(Int×RW×RW))):=(.ask ((decide (v.2.2.1<v.2.1))) (.ask (decide (0≤v.2.2.1∧v.2.2.1<v.1.length)) (.opt (v.1[(v.2.2.1).toNat]?) fun e87=>(.ask (decide (e87.length=3)) (.opt (zC .i64 e87 0) fun y88=>(.opt (zd e87 1) fun y89=>(.opt (zd e87 2) fun y90=>(.opt (qz n y88 (1:Int) (IntKind.i64.wrap (v.2.2.2.1-(1:Int)))) fun r91=>(.ask ((!r91)) (.done (.inr (.inl (false)))) (.ask ((decide (v.2.2.1>(0:Int)))) (.ask (decide (0≤(IntKind.i64.wrap (v.2.2.1-(1:Int)))∧(IntKind.i64.wrap (v.2.2.1-(1:Int)))<v.2.2.2.2.1.length)) (.opt (v.2.2.2.2.1[((IntKind.i64.wrap (v.2.2.1-(1:Int)))).toNat]?) fun e92=>(.ask (decide (e92.length=3)) (.opt (zC .i64 e92 0) fun y93=>(.ask ((decide (y93≥y88))) (.done (.inr (.inl (false)))) (.opt (qDE n v.2.2.2.1 v.2.2.2.2.1 v.2.2.2.2.2 y89 y88) fun r94=>(.ask ((!r94)) (.done (.inr (.inl (false)))) (.opt (qDo n y90) fun r95=>(.ask ((!r95)) (.done (.inr (.inl (false)))) (.done (.inl (v.1,v.2.1,(IntKind.i64.wrap (v.2.2.1+(1:Int))),v.2.2.2.1,v.2.2.2.2.1,v.2.2.2.2.2))))))))) .fail)) .fail) (.opt (qDE n v.2.2.2.1 v.2.2.2.2.1 v.2.2.2.2.2 y89 y88) fun r96=>(.ask ((!r96)) (.done (.inr (.inl (false)))) (.opt (qDo n y90) fun r97=>(.ask ((!r97)) (.done (.inr (.inl (false)))) (.done (.inl (v.1,v.2.1,(IntKind.i64.wrap (v.2.2.1+(1:Int))),v.2.2.2.1,v.2.2.2.2.1,v.2.2.2.2.2))))))))))))) .fail)) .fail) (.done (.inr (.inr ((v.2.2.2.1,v.2.2.2.2.1,v.2.2.2.2.2))))))
def qEV (n:Nat) (v:RW×Int×Int×Int×RW×RW):Tr ((RW×Int×Int×Int×RW×RW)⊕((Bool)⊕(Unit))):=(.ask ((decide (v.2.2.1<v.2.1))) (.ask (decide (0≤v.2.2.1∧v.2.2.1<v.1.length)) (.opt (v.1[(v.2.2.1).toNat]?) fun e101=>(.ask (decide (e101.length=2)) (.opt (zR e101 0) fun y102=>(.opt (zC .i64 e101 1) fun y103=>(.opt (qFl n y102) fun r104=>(.ask ((!r104)) (.done (.inr (.inl (false)))) (.ask ((decide (v.2.2.1>(0:Int)))) (.ask (decide (0≤(IntKind.i64.wrap (v.2.2.1-(1:Int)))∧(IntKind.i64.wrap (v.2.2.1-(1:Int)))<v.2.2.2.2.2.length)) (.opt (v.2.2.2.2.2[((IntKind.i64.wrap (v.2.2.1-(1:Int)))).toNat]?) fun e105=>(.ask (decide (e105.length=2)) (.opt (zR e105 0) fun y106=>(.ask ((!(Op.bytesLess y106.toList y102.toList))) (.done (.inr (.inl (false)))) (.opt (qBP n v.2.2.2.1 v.2.2.2.2.1 v.2.2.2.2.2 y103) fun r107=>(.ask ((decide (r107<(0:Int)))) (.done (.inr (.inl (false)))) (.done (.inl (v.1,v.2.1,(IntKind.i64.wrap (v.2.2.1+(1:Int))),v.2.2.2.1,v.2.2.2.2.1,v.2.2.2.2.2))))))) .fail)) .fail) (.opt (qBP n v.2.2.2.1 v.2.2.2.2.1 v.2.2.2.2.2 y103) fun r108=>(.ask ((decide (r108<(0:Int)))) (.done (.inr (.inl (false)))) (.done (.inl (v.1,v.2.1,(IntKind.i64.wrap (v.2.2.1+(1:Int))),v.2.2.2.1,v.2.2.2.2.1,v.2.2.2.2.2)))))))))) .fail)) .fail) (.done (.inr (.inr (())))))
def qJJ (n:Nat) (x0:Int) (x1 x2:RW):Tr (Bool):=(.opt (qz n x0 (2:Int) (1000000000:Int)) fun r84=>(.ask ((!r84)) (.done false) (.opt (qz n (x1.length:Int) (1:Int) (40:Int)) fun r85=>(.ask ((!r85)) (.done false) (.opt (qz n (x2.length:Int) (1:Int) (8:Int)) fun r86=>(.ask ((!r86)) (.done false) (.opt (zD (qEU n) n (x1,(x1.length:Int),(0:Int),x0,x1,x2)) fun r98=>(.alt r98 (fun r99=>(.done r99)) (fun r100=>(.opt (zD (qEV n) n (r100.2.2,(r100.2.2.length:Int),(0:Int),r100.1,r100.2.1,r100.2.2)) fun r109=>(.alt r109 (fun r110=>(.done r110)) (fun r111=>(.done true)))))))))))))
def qJK:Nat→Int→RW→RW→Option (Bool)
 |0,_,_,_=>none
 |n+1,x0,x1,x2=>(qJJ n x0 x1 x2).run
abbrev qJL (n:Nat):List (Ent (Rn n)):= [en (qDD n),en (qM8 n),en (qPb n),en (qQZ n),en (qGO n)]
def qPc (n:Nat):LEnt (KB 27) (Rn n) n:=lok (zK 27) 29 ⟨⟨[(1,(.c (.ptr 0 64 0 0 0))),(26,aL),(27,aI),(28,aI)],[(64,⟨0,3,50,(.box [qI,qL,qL])⟩)],[]⟩,[(.ret,⟨[(2,aB)],[],[]⟩),(.exit 0,⟨[(1,(.c (.ptr 0 64 0 0 0)))],[(64,⟨0,3,50,(.box [qI,qL,qL])⟩)],[]⟩)]⟩ (qEU n) (qJL n) [] fun _=>(by kernel_rfl)
def qPd (n:Nat):LEnt (KB 27) (Rn n) n:=lok (zK 27) 61 ⟨⟨[(1,(.c (.ptr 0 64 0 0 0))),(73,aL),(74,aI),(75,aI)],[(64,⟨0,3,50,(.box [qI,qL,qL])⟩)],[]⟩,[(.ret,⟨[(2,aB)],[],[]⟩),(.exit 2,⟨[],[],[]⟩)]⟩ (qEV n) (qJL n) [] fun _=>(by kernel_rfl)
theorem qRZ:∀n,Ok (Rn n) qSZ (qJK n)
 |0=>ok0 fun _=>rfl
 |n+1=>stO (T:=qJJ n) (by kernel_rfl) (qJL n) [qPc n,qPd n] (fun _=>(by kernel_rfl)) fun _=>(by kernel_rfl)
def qLe:Sg:=⟨115,[(.agg [qS,qI]),(.c (.rp [vS] 0))],[],⟨aB,[],[]⟩⟩
def qGV (n:Nat) (x0:BA) (x1:Int) (x2:BA):Tr (Bool):=(.opt (some x2:Option BA) fun y116=>(.done (x0.toList==y116.toList)))
def qGW:Nat→BA→Int→BA→Option (Bool)
 |0,_,_,_=>none
 |n+1,x0,x1,x2=>(qGV n x0 x1 x2).run
theorem qKl:∀n,Ok (Rn n) qLe (qGW n)
 |0=>ok0 fun _=>rfl
 |n+1=>stO (T:=qGV n) (by kernel_rfl) [] [] (fun _=>(by kernel_rfl)) fun _=>(by kernel_rfl)
def qBY:Sg:=⟨114,[aL,(.c (.fn 115 [(.rp [vS])]))],[],⟨aI,[],[]⟩⟩
def qm (n:Nat) (v:RW×BA×Int×Int):Tr ((RW×BA×Int×Int)⊕((Int)⊕(Unit))):=(.ask ((decide (v.2.2.2<v.2.2.1))) (.ask (decide (0≤v.2.2.2∧v.2.2.2<v.1.length)) (.opt (v.1[(v.2.2.2).toNat]?) fun e113=>(.ask (decide (e113.length=2)) (.opt (zR e113 0) fun y114=>(.opt (zC .i64 e113 1) fun y115=>(.opt (qGW n y114 y115 v.2.1) fun r116=>(.ask (r116) (.done (.inr (.inl (v.2.2.2)))) (.done (.inl (v.1,v.2.1,v.2.2.1,(IntKind.i64.wrap (v.2.2.2+(1:Int)))))))))) .fail)) .fail) (.done (.inr (.inr (())))))
def qp (n:Nat) (x0:RW) (x1:BA):Tr (Int):=(.opt (zD (qm n) n (x0,x1,(x0.length:Int),(0:Int))) fun r117=>(.alt r117 (fun r118=>(.done r118)) (fun r119=>(.done (-1:Int)))))
def qq:Nat→RW→BA→Option (Int)
 |0,_,_=>none
 |n+1,x0,x1=>(qp n x0 x1).run
abbrev qAV (n:Nat):List (Ent (Rn n)):= [en (qKl n)]
def qBS (n:Nat):LEnt (KB 114) (Rn n) n:=lok (zK 114) 13 ⟨⟨[(0,aL),(1,(.c (.fn 115 [(.rp [vS])]))),(7,aI),(8,aI)],[],[]⟩,[(.ret,⟨[(4,aI)],[],[]⟩),(.exit 0,⟨[],[],[]⟩)]⟩ (qm n) (qAV n) [] fun _=>(by kernel_rfl)
theorem qBX:∀n,Ok (Rn n) qBY (qq n)
 |0=>ok0 fun _=>rfl
 |n+1=>stO (T:=qp n) (by kernel_rfl) (qAV n) [qBS n] (fun _=>(by kernel_rfl)) fun _=>(by kernel_rfl)
def qNE:Sg:=⟨74,[(.agg [qI,qL,qL]),aS],[],⟨aI,[],[]⟩⟩
def qFD (n:Nat) (x0:Int) (x1 x2:RW) (x3:BA):Tr (Int):=(.opt (qq n x2 x3) fun r120=>(.done r120))
def qDa:Nat→Int→RW→RW→BA→Option (Int)
 |0,_,_,_,_=>none
 |n+1,x0,x1,x2,x3=>(qFD n x0 x1 x2 x3).run
abbrev qNF (n:Nat):List (Ent (Rn n)):= [en (qBX n)]
theorem qMX:∀n,Ok (Rn n) qNE (qDa n)
 |0=>ok0 fun _=>rfl
 |n+1=>stO (T:=qFD n) (by kernel_rfl) (qNF n) [] (fun _=>(by kernel_rfl)) fun _=>(by kernel_rfl)
def qRa:Sg:=⟨30,[(.agg [qI,qL,qL]),aS],[],⟨aI,[],[]⟩⟩
def qIK (n:Nat) (x0:Int) (x1 x2:RW) (x3:BA):Tr (Int):=(.opt (qJK n x0 x1 x2) fun r112=>(.ask ((!r112)) (.done (0:Int)) (.opt (qDa n x0 x1 x2 x3) fun r121=>(.ask ((decide (r121<(0:Int)))) (.done (0:Int)) (.opt (qDa n x0 x1 x2 x3) fun r122=>(.ask (decide (0≤r122∧r122<x2.length)) (.opt (x2[(r122).toNat]?) fun e123=>(.ask (decide (e123.length=2)) (.opt (zC .i64 e123 1) fun y124=>(.done y124)) .fail)) .fail))))))
def qIL:Nat→Int→RW→RW→BA→Option (Int)
 |0,_,_,_,_=>none
 |n+1,x0,x1,x2,x3=>(qIK n x0 x1 x2 x3).run
abbrev qRb (n:Nat):List (Ent (Rn n)):= [en (qRZ n),en (qMX n)]
theorem qQa:∀n,Ok (Rn n) qRa (qIL n)
 |0=>ok0 fun _=>rfl
 |n+1=>stO (T:=qIK n) (by kernel_rfl) (qRb n) [] (fun _=>(by kernel_rfl)) fun _=>(by kernel_rfl)
def qPe:Sg:=⟨154,[aL,aL],[],⟨aB,[],[]⟩⟩
def qCX (n:Nat) (v:RW×RW×Int):Tr ((RW×RW×Int)⊕((Bool)⊕(Unit))):=(.ask ((decide (v.2.2<(v.1.length:Int)))) (.ask (decide (0≤v.2.2∧v.2.2<v.1.length)) (.opt (v.1[(v.2.2).toNat]?) fun e135=>(.ask (decide (e135.length=1)) (.opt (zC .i64 e135 0) fun y136=>(.ask (decide (0≤v.2.2∧v.2.2<v.2.1.length)) (.opt (v.2.1[(v.2.2).toNat]?) fun e137=>(.ask (decide (e137.length=1)) (.opt (zC .i64 e137 0) fun y138=>(.ask ((y136 !=y138)) (.done (.inr (.inl (false)))) (.done (.inl (v.1,v.2.1,(IntKind.i64.wrap (v.2.2+(1:Int)))))))) .fail)) .fail)) .fail)) .fail) (.done (.inr (.inr (())))))
def qGG (n:Nat) (x0 x1:RW):Tr (Bool):=(.ask (((x0.length:Int) !=(x1.length:Int))) (.done false) (.opt (zD (qCX n) n (x0,x1,(0:Int))) fun r139=>(.alt r139 (fun r140=>(.done r140)) (fun r141=>(.done true)))))
def qEW:Nat→RW→RW→Option (Bool)
 |0,_,_=>none
 |n+1,x0,x1=>(qGG n x0 x1).run
def qMY (n:Nat):LEnt (KB 154) (Rn n) n:=lok (zK 154) 29 ⟨⟨[(0,aL),(1,aL),(5,aI)],[],[]⟩,[(.ret,⟨[(4,aB)],[],[]⟩),(.exit 0,⟨[],[],[]⟩)]⟩ (qCX n) [] [] fun _=>(by kernel_rfl)
theorem qOQ:∀n,Ok (Rn n) qPe (qEW n)
 |0=>ok0 fun _=>rfl
 |n+1=>stO (T:=qGG n) (by kernel_rfl) [] [qMY n] (fun _=>(by kernel_rfl)) fun _=>(by kernel_rfl)
def qSa:Sg:=⟨79,[(.agg [qI,qI]),(.agg [qI,qI])],[],⟨aB,[],[]⟩⟩
def qJM (n:Nat) (x0 x1 x2 x3:Int):Tr (Bool):=(.ask ((x0 !=x2)) (.done false) (.ask ((x1 !=x3)) (.done false) (.done true)))
def qJN:Nat→Int→Int→Int→Int→Option (Bool)
 |0,_,_,_,_=>none
 |n+1,x0,x1,x2,x3=>(qJM n x0 x1 x2 x3).run
theorem qRc:∀n,Ok (Rn n) qSa (qJN n)
 |0=>ok0 fun _=>rfl
 |n+1=>stO (T:=qJM n) (by kernel_rfl) [] [] (fun _=>(by kernel_rfl)) fun _=>(by kernel_rfl)
def qRd:Sg:=⟨49,[(.agg [qI,qI,qS]),(.agg [qI,qI,qS])],[],⟨aB,[],[]⟩⟩
def qIM (n:Nat) (x0 x1:Int) (x2:BA) (x3 x4:Int) (x5:BA):Tr (Bool):=(.opt (qJN n x0 x1 x3 x4) fun r151=>(.ask ((!r151)) (.done false) (.ask ((!(x2.toList==x5.toList))) (.done false) (.done true))))
def qFm:Nat→Int→Int→BA→Int→Int→BA→Option (Bool)
 |0,_,_,_,_,_,_=>none
 |n+1,x0,x1,x2,x3,x4,x5=>(qIM n x0 x1 x2 x3 x4 x5).run
abbrev qRe (n:Nat):List (Ent (Rn n)):= [en (qRc n)]
theorem qQb:∀n,Ok (Rn n) qRd (qFm n)
 |0=>ok0 fun _=>rfl
 |n+1=>stO (T:=qIM n) (by kernel_rfl) (qRe n) [] (fun _=>(by kernel_rfl)) fun _=>(by kernel_rfl)
def qQc:Sg:=⟨16,[aL,aL],[],⟨aB,[],[]⟩⟩
def qCr (n:Nat) (v:RW×RW×Int):Tr ((RW×RW×Int)⊕((Bool)⊕(Unit))):=(.ask ((decide (v.2.2<(v.1.length:Int)))) (.ask (decide (0≤v.2.2∧v.2.2<v.1.length)) (.opt (v.1[(v.2.2).toNat]?) fun e143=>(.ask (decide (e143.length=3)) (.opt (zC .i64 e143 0) fun y144=>(.opt (zC .i64 e143 1) fun y145=>(.opt (zR e143 2) fun y146=>(.ask (decide (0≤v.2.2∧v.2.2<v.2.1.length)) (.opt (v.2.1[(v.2.2).toNat]?) fun e147=>(.ask (decide (e147.length=3)) (.opt (zC .i64 e147 0) fun y148=>(.opt (zC .i64 e147 1) fun y149=>(.opt (zR e147 2) fun y150=>(.opt (qFm n y144 y145 y146 y148 y149 y150) fun r151=>(.ask ((!r151)) (.done (.inr (.inl (false)))) (.done (.inl (v.1,v.2.1,(IntKind.i64.wrap (v.2.2+(1:Int))))))))))) .fail)) .fail)))) .fail)) .fail) (.done (.inr (.inr (())))))
def qHK (n:Nat) (x0 x1:RW):Tr (Bool):=(.ask (((x0.length:Int) !=(x1.length:Int))) (.done false) (.opt (zD (qCr n) n (x0,x1,(0:Int))) fun r152=>(.alt r152 (fun r153=>(.done r153)) (fun r154=>(.done true)))))
def qFE:Nat→RW→RW→Option (Bool)
 |0,_,_=>none
 |n+1,x0,x1=>(qHK n x0 x1).run
abbrev qKm (n:Nat):List (Ent (Rn n)):= [en (qQb n)]
def qNG (n:Nat):LEnt (KB 16) (Rn n) n:=lok (zK 16) 29 ⟨⟨[(0,aL),(1,aL),(5,aI)],[],[]⟩,[(.ret,⟨[(4,aB)],[],[]⟩),(.exit 0,⟨[],[],[]⟩)]⟩ (qCr n) (qKm n) [] fun _=>(by kernel_rfl)
theorem qPf:∀n,Ok (Rn n) qQc (qFE n)
 |0=>ok0 fun _=>rfl
 |n+1=>stO (T:=qHK n) (by kernel_rfl) (qKm n) [qNG n] (fun _=>(by kernel_rfl)) fun _=>(by kernel_rfl)
def qOR:Sg:=⟨112,[(.agg [qI,qL,qL]),(.agg [qI,qL,qL])],[],⟨aB,[],[]⟩⟩
def qFY (n:Nat) (x0:Int) (x1 x2:RW) (x3:Int) (x4 x5:RW):Tr (Bool):=(.ask ((x0 !=x3)) (.done false) (.opt (qEW n x1 x4) fun r142=>(.ask ((!r142)) (.done false) (.opt (qFE n x2 x5) fun r155=>(.ask ((!r155)) (.done false) (.done true))))))
def qD0:Nat→Int→RW→RW→Int→RW→RW→Option (Bool)
 |0,_,_,_,_,_,_=>none
 |n+1,x0,x1,x2,x3,x4,x5=>(qFY n x0 x1 x2 x3 x4 x5).run
abbrev qOS (n:Nat):List (Ent (Rn n)):= [en (qOQ n),en (qPf n)]
theorem qNH:∀n,Ok (Rn n) qOR (qD0 n)
 |0=>ok0 fun _=>rfl
 |n+1=>stO (T:=qFY n) (by kernel_rfl) (qOS n) [] (fun _=>(by kernel_rfl)) fun _=>(by kernel_rfl)
def qNI:Sg:=⟨71,[aL,aL],[],⟨aB,[],[]⟩⟩
def qB7 (n:Nat) (v:RW×RW×Int):Tr ((RW×RW×Int)⊕((Bool)⊕(Unit))):=(.ask ((decide (v.2.2<(v.1.length:Int)))) (.ask (decide (0≤v.2.2∧v.2.2<v.1.length)) (.opt (v.1[(v.2.2).toNat]?) fun e127=>(.ask (decide (e127.length=3)) (.opt (zC .i64 e127 0) fun y128=>(.opt (zd e127 1) fun y129=>(.opt (zd e127 2) fun y130=>(.ask (decide (0≤v.2.2∧v.2.2<v.2.1.length)) (.opt (v.2.1[(v.2.2).toNat]?) fun e131=>(.ask (decide (e131.length=3)) (.opt (zC .i64 e131 0) fun y132=>(.opt (zd e131 1) fun y133=>(.opt (zd e131 2) fun y134=>(.opt (qD0 n y128 y129 y130 y132 y133 y134) fun r135=>(.ask ((!r135)) (.done (.inr (.inl (false)))) (.done (.inl (v.1,v.2.1,(IntKind.i64.wrap (v.2.2+(1:Int))))))))))) .fail)) .fail)))) .fail)) .fail) (.done (.inr (.inr (())))))
def qFF (n:Nat) (x0 x1:RW):Tr (Bool):=(.ask (((x0.length:Int) !=(x1.length:Int))) (.done false) (.opt (zD (qB7 n) n (x0,x1,(0:Int))) fun r136=>(.alt r136 (fun r137=>(.done r137)) (fun r138=>(.done true)))))
def qDb:Nat→RW→RW→Option (Bool)
 |0,_,_=>none
 |n+1,x0,x1=>(qFF n x0 x1).run
abbrev qHn (n:Nat):List (Ent (Rn n)):= [en (qNH n)]
def qKn (n:Nat):LEnt (KB 71) (Rn n) n:=lok (zK 71) 29 ⟨⟨[(0,aL),(1,aL),(5,aI)],[],[]⟩,[(.ret,⟨[(4,aB)],[],[]⟩),(.exit 0,⟨[],[],[]⟩)]⟩ (qB7 n) (qHn n) [] fun _=>(by kernel_rfl)
theorem qMZ:∀n,Ok (Rn n) qNI (qDb n)
 |0=>ok0 fun _=>rfl
 |n+1=>stO (T:=qFF n) (by kernel_rfl) (qHn n) [qKn n] (fun _=>(by kernel_rfl)) fun _=>(by kernel_rfl)
def qPg:Sg:=⟨113,[(.agg [qS,qI]),(.agg [qS,qI])],[],⟨aB,[],[]⟩⟩
def qGH (n:Nat) (x0:BA) (x1:Int) (x2:BA) (x3:Int):Tr (Bool):=(.ask ((!(x0.toList==x2.toList))) (.done false) (.ask ((x1 !=x3)) (.done false) (.done true)))
def qEX:Nat→BA→Int→BA→Int→Option (Bool)
 |0,_,_,_,_=>none
 |n+1,x0,x1,x2,x3=>(qGH n x0 x1 x2 x3).run
theorem qOT:∀n,Ok (Rn n) qPg (qEX n)
 |0=>ok0 fun _=>rfl
 |n+1=>stO (T:=qGH n) (by kernel_rfl) [] [] (fun _=>(by kernel_rfl)) fun _=>(by kernel_rfl)
def qOU:Sg:=⟨72,[aL,aL],[],⟨aB,[],[]⟩⟩
def qCH (n:Nat) (v:RW×RW×Int):Tr ((RW×RW×Int)⊕((Bool)⊕(Unit))):=(.ask ((decide (v.2.2<(v.1.length:Int)))) (.ask (decide (0≤v.2.2∧v.2.2<v.1.length)) (.opt (v.1[(v.2.2).toNat]?) fun e140=>(.ask (decide (e140.length=2)) (.opt (zR e140 0) fun y141=>(.opt (zC .i64 e140 1) fun y142=>(.ask (decide (0≤v.2.2∧v.2.2<v.2.1.length)) (.opt (v.2.1[(v.2.2).toNat]?) fun e143=>(.ask (decide (e143.length=2)) (.opt (zR e143 0) fun y144=>(.opt (zC .i64 e143 1) fun y145=>(.opt (qEX n y141 y142 y144 y145) fun r146=>(.ask ((!r146)) (.done (.inr (.inl (false)))) (.done (.inl (v.1,v.2.1,(IntKind.i64.wrap (v.2.2+(1:Int)))))))))) .fail)) .fail))) .fail)) .fail) (.done (.inr (.inr (())))))
def qFZ (n:Nat) (x0 x1:RW):Tr (Bool):=(.ask (((x0.length:Int) !=(x1.length:Int))) (.done false) (.opt (zD (qCH n) n (x0,x1,(0:Int))) fun r147=>(.alt r147 (fun r148=>(.done r148)) (fun r149=>(.done true)))))
def qD1:Nat→RW→RW→Option (Bool)
 |0,_,_=>none
 |n+1,x0,x1=>(qFZ n x0 x1).run
abbrev qIk (n:Nat):List (Ent (Rn n)):= [en (qOT n)]
def qLf (n:Nat):LEnt (KB 72) (Rn n) n:=lok (zK 72) 29 ⟨⟨[(0,aL),(1,aL),(5,aI)],[],[]⟩,[(.ret,⟨[(4,aB)],[],[]⟩),(.exit 0,⟨[],[],[]⟩)]⟩ (qCH n) (qIk n) [] fun _=>(by kernel_rfl)
theorem qNJ:∀n,Ok (Rn n) qOU (qD1 n)
 |0=>ok0 fun _=>rfl
 |n+1=>stO (T:=qFZ n) (by kernel_rfl) (qIk n) [qLf n] (fun _=>(by kernel_rfl)) fun _=>(by kernel_rfl)
def qSb:Sg:=⟨28,[(.agg [qI,qL,qL]),(.agg [qI,qL,qL])],[],⟨aB,[],[]⟩⟩
def qJO (n:Nat) (x0:Int) (x1 x2:RW) (x3:Int) (x4 x5:RW):Tr (Bool):=(.ask ((x0 !=x3)) (.done false) (.opt (qDb n x1 x4) fun r139=>(.ask ((!r139)) (.done false) (.opt (qD1 n x2 x5) fun r150=>(.ask ((!r150)) (.done false) (.done true))))))
def qJP:Nat→Int→RW→RW→Int→RW→RW→Option (Bool)
 |0,_,_,_,_,_,_=>none
 |n+1,x0,x1,x2,x3,x4,x5=>(qJO n x0 x1 x2 x3 x4 x5).run
abbrev qSc (n:Nat):List (Ent (Rn n)):= [en (qMZ n),en (qNJ n)]
theorem qRf:∀n,Ok (Rn n) qSb (qJP n)
 |0=>ok0 fun _=>rfl
 |n+1=>stO (T:=qJO n) (by kernel_rfl) (qSc n) [] (fun _=>(by kernel_rfl)) fun _=>(by kernel_rfl)
def qKo:Sg:=⟨7,[(.agg [qI,qL,qL]),aS],[],⟨aB,[],[]⟩⟩
def qFx (n:Nat) (x0:Int) (x1 x2:RW) (x3:BA):Tr (Bool):=(.ask ((decide ((x3.size:Int)>(1048576:Int)))) (.done true) (.opt (qGb n x0 x1 x2 (1048576:Int)) fun r18=>(.ask ((decide (r18<(0:Int)))) (.done true) (.opt (qEs n x0 x1 x2) fun r34=>(.opt (qIA n r34.1 r34.2.1 r34.2.2 x3) fun r82=>(.opt (qEs n x0 x1 x2) fun r83=>(.opt (qIL n r83.1 r83.2.1 r83.2.2 x3) fun r125=>(.ask ((r125 !=r82)) (.done false) (.opt (qEs n x0 x1 x2) fun r126=>(.opt (qJP n r83.1 r83.2.1 r83.2.2 r126.1 r126.2.1 r126.2.2) fun r151=>(.ask ((!r151)) (.done false) (.done true))))))))))))
def qFy:Nat→Int→RW→RW→BA→Option (Bool)
 |0,_,_,_,_=>none
 |n+1,x0,x1,x2,x3=>(qFx n x0 x1 x2 x3).run
abbrev qKp (n:Nat):List (Ent (Rn n)):= [en (qRA n),en (qRE n),en (qQL n),en (qQa n),en (qRf n)]
theorem qJ9:∀n,Ok (Rn n) qKo (qFy n)
 |0=>ok0 fun _=>rfl
 |n+1=>stO (T:=qFx n) (by kernel_rfl) (qKp n) [] (fun _=>(by kernel_rfl)) fun _=>(by kernel_rfl)
end
end Go.Proofs.YtkkkfjgagjdcoaaGreatDoor.KFnExactHeadOf

