import Derived.Test.YthhngmnbcmkhpaaGreatDoorKFnExactInputOf
import Derived.Test.YthhngmnbcmkhpaaGreatDoorE33
import Derived.KernelRfl
namespace Go.Proofs.YthhngmnbcmkhpaaGreatDoor.KFnExactInputOf
open Go.Eng
set_option linter.unusedVariables false
set_option maxRecDepth 100000
def lib:FuncId→List AV→Option AV:=zA6 59 zAl (zA6 61 zAr (zA6 90 zAs (zA6 101 zAf (zA6 104 zBO (zA6 121 zBN (zA6 122 zAk (zA6 186 zBV (zIG))))))))
abbrev ED:=List AV→List Go.Eng.Frame→Tr Res
abbrev FR:=List Go.Eng.Frame
abbrev RW:=List (List PV)
abbrev BA:=ByteArray
abbrev ci (x:Int):AV:= .c (.p (.i .i64 x))
abbrev cs (x:ByteArray):AV:= .c (.p (.s x))
abbrev cb (x:Bool):AV:= .c (.p (.b x))
abbrev vi (x:Int):CV:= .p (.i .i64 x)
abbrev vs (x:ByteArray):CV:= .p (.s x)
abbrev vb (x:Bool):CV:= .p (.b x)
theorem lt1 {c:KCode} {run:zAJ} {N:Nat} {x:Nat×List Nat×List (Ex×List Nat)×KCode} {q:St→Tr (Ex×St)} (h:zAj c= [x]) (hq:zAX run N x q):zAK (zN [(x.1,q)]) run N c:=zCt fun y hy=>by
 rw [h] at hy
 obtain rfl:=List.mem_singleton.1 hy
 exact ⟨q,fun st=>by simp [zN],hq⟩
abbrev Rn (n:Nat):=zBq KP lib n
abbrev RK (n:Nat) (f:FuncId) (c:ED):Prop:=∀ar up r,(c ar up).run=some r→zBq KP lib n f ar up=some r
def qJL (x0:BA):List AV:= [(cs x0)]
def qJM (x0:BA):FR:= []
def qOQ (r:Bool):Res:=⟨(cb r),[],[]⟩
abbrev qMs (n:Nat):zX:=zd []
def qJN (v:BA×Int):St:=⟨[(0,(cs v.1)),(3,(ci v.2))],[],[]⟩
def qBJ (n:Nat) (v:BA×Int):Tr ((BA×Int)⊕((Bool)⊕(BA))):=(.ask ((decide (v.2<(v.1.size:Int)))) (.ask (decide (0≤v.2)) (.opt (v.1.toList[(v.2).toNat]?) fun c1=>(.ask ((decide ((c1.toNat:Int)<(32:Int)))) (.done (.inr (.inl (false)))) (.ask (decide (0≤v.2)) (.opt (v.1.toList[(v.2).toNat]?) fun c2=>(.ask ((decide ((c2.toNat:Int)>(126:Int)))) (.done (.inr (.inl (false)))) (.done (.inl (v.1,(IntKind.i64.wrap (v.2+(1:Int)))))))) .fail))) .fail) (.done (.inr (.inr (v.1)))))
def qJO:((Bool)⊕(BA))→Ex×St:=fun| .inl r=>(.ret,⟨[(2,(cb r))],[],[]⟩)| .inr r=>(fun r=>((.exit 0),⟨[(0,(cs r))],[],[]⟩)) r
def qYO:((Bool)⊕(BA))→Tr (Ex×St):=fun r=> .alt r (fun r=> .done (qJO (.inl r))) (fun r=> .done (qJO (.inr r)))
def qOR:zw→Option (BA×Int)
 |([[[.s w0]],[[.i w1]]],[],[])=>some (w0,w1)
 |_=>none
abbrev qOS (n:Nat):St→Tr (Ex×St):=zp (qJN (⟨#[]⟩,0)) qOR (qBJ n) qYO n
abbrev qTS (n:Nat):za:=zN [(13,qOS n)]
def qOT (n:Nat) (x0:BA):Tr (Bool):=(.opt (zL (qBJ n) n (x0,(0:Int))) fun r3=>(.alt r3 (fun r4=>(.done r4)) (fun r5=>(.done (decide ((r5.size:Int)≤(200:Int)))))))
def qC1:Nat→BA→Option (Bool)
 |0,_=>none
 |n+1,x0=>(qOT n x0).run
theorem qbQ (n:Nat) (x0:BA):ze (qMs n) (qTS n) qFu (qJL x0) (qJM x0)=(qOT n x0).bind fun r=> .done (qOQ r):=by kernel_rfl
theorem qTT (n:Nat):zW (qMs n) (Rn n):=zG
theorem qYP (n:Nat) (v:BA×Int):(zf (qMs n) (zN []) qID (qJN v) []).bind (zx [0,3] [(.ret,[2]),((.exit 0),[0])])=(qBJ n v).bind (zAQ qJN qJO):=by
 obtain ⟨w0,w1⟩:=v
 kernel_rfl
theorem qYQ (n:Nat):zAX (Rn n) n (13,[0,3],[(.ret,[2]),((.exit 0),[0])],qID) (qOS n):=fun st e s h=>
 zh (qTT n) (zI rfl) (qYP n) (fun r=>by
  rcases r with r|r<;>(intro h;cases h)) (fun r y h=>by
  rcases r with r|r<;>(cases h;rfl)) (fun hs v h=>by
  unfold qOR at h
  split at h<;>cases h
  rfl) h
theorem qbR (n:Nat):zAK (qTS n) (Rn n) n qFu.body:=lt1 rfl (qYQ n)
theorem qbS:∀(n:Nat) (x0:BA) r,qC1 n x0=some r→Rn n 32 (qJL x0) (qJM x0)=some (qOQ r)
 |0,x0,r,h=>by cases h
 |n+1,x0,r,h=>zH (kf:=qFu) rfl (qTT n) (qbR n) (qbQ n x0) h
def qTU (n:Nat):zS→Option (Bool)
 |([[[.s x0]]],[])=>qC1 n x0
 |_=>none
def qJP (n:Nat) (d:ED):ED:=zR (qJL (⟨#[]⟩)) (qJM (⟨#[]⟩)) (qTU n) qOQ d
theorem qMt (n:Nat) {d:ED} (hd:RK n 32 d):RK n 32 (qJP n d):=
 zF (fun hs r h=>by unfold qTU at h;split at h;exact ⟨qJL _,qJM _,rfl,rfl,qbS n _ r h⟩;cases h) hd
def qEj (x0:BA) (x1:Int) (x2:Bool) (x3:Nat) (x4:RW):List AV:= [(.c (.ptr 0 0 0 0 0))]
def qEk (x0:BA) (x1:Int) (x2:Bool) (x3:Nat) (x4:RW):FR:= [[(0,⟨0,4,50,(.box [(vs x0),(vi x1),(vb x2),(.own 0 1 1 x3)])⟩),(1,⟨1,14,64,(.row x4)⟩)]]
def qIK (r:BA×Int×Bool×Nat×RW):Res:=⟨(.tup []),[[(0,⟨0,4,50,(.box [(vs r.1),(vi r.2.1),(vb r.2.2.1),(.own 0 1 1 r.2.2.2.1)])⟩),(1,⟨1,14,64,(.row r.2.2.2.2)⟩)]],[]⟩
abbrev qHB (n:Nat):zX:=zd []
def qF4 (v:BA×Int×Bool×Nat×RW):St:=⟨[(0,(.c (.ptr 0 0 0 0 0)))],[],[[(0,⟨0,4,50,(.box [(vs v.1),(vi v.2.1),(vb v.2.2.1),(.own 0 1 1 v.2.2.2.1)])⟩),(1,⟨1,14,64,(.row v.2.2.2.2)⟩)]]⟩
def qDZ (n:Nat) (v:BA×Int×Bool×Nat×RW):Tr ((BA×Int×Bool×Nat×RW)⊕((BA×Int×Bool×Nat×RW))):=(.ask ((decide (v.2.1<(v.1.size:Int)))) (.ask (decide (0≤v.2.1)) (.opt (v.1.toList[(v.2.1).toNat]?) fun c9=>(.ask (((c9.toNat:Int)==(32:Int))) (.done (.inl (v.1,(IntKind.i64.wrap (v.2.1+(1:Int))),v.2.2.1,v.2.2.2.1,v.2.2.2.2))) (.done (.inr ((v.1,v.2.1,v.2.2.1,v.2.2.2.1,v.2.2.2.2)))))) .fail) (.done (.inr ((v.1,v.2.1,v.2.2.1,v.2.2.2.1,v.2.2.2.2)))))
def qMI:(BA×Int×Bool×Nat×RW)→Ex×St:=fun r=>((.exit 0),⟨[],[],[[(0,⟨0,4,50,(.box [(vs r.1),(vi r.2.1),(vb r.2.2.1),(.own 0 1 1 r.2.2.2.1)])⟩),(1,⟨1,14,64,(.row r.2.2.2.2)⟩)]]⟩)
def qUV:(BA×Int×Bool×Nat×RW)→Tr (Ex×St):=fun r=> .done (qMI r)
def qKg:zw→Option (BA×Int×Bool×Nat×RW)
 |([[[]]],[],[[[[.s w0],[.i w1],[.b w2],[.n w3]],[[.r w4]]]])=>some (w0,w1,w2,w3,w4)
 |_=>none
abbrev qKh (n:Nat):St→Tr (Ex×St):=zp (qF4 (⟨#[]⟩,0,false,0,[])) qKg (qDZ n) qUV n
abbrev qNH (n:Nat):za:=zN [(1,qKh n)]
def qOU (n:Nat) (x0:BA) (x1:Int) (x2:Bool) (x3:Nat) (x4:RW):Tr (BA×Int×Bool×Nat×RW):=(.opt (zL (qDZ n) n (x0,x1,x2,x3,x4)) fun r10=>(.done (r10.1,r10.2.1,r10.2.2.1,r10.2.2.2.1,r10.2.2.2.2)))
def qBU:Nat→BA→Int→Bool→Nat→RW→Option (BA×Int×Bool×Nat×RW)
 |0,_,_,_,_,_=>none
 |n+1,x0,x1,x2,x3,x4=>(qOU n x0 x1 x2 x3 x4).run
theorem qWn (n:Nat) (x0:BA) (x1:Int) (x2:Bool) (x3:Nat) (x4:RW):ze (qHB n) (qNH n) qCw (qEj x0 x1 x2 x3 x4) (qEk x0 x1 x2 x3 x4)=(qOU n x0 x1 x2 x3 x4).bind fun r=> .done (qIK r):=by kernel_rfl
theorem qNI (n:Nat):zW (qHB n) (Rn n):=zG
theorem qUW (n:Nat) (v:BA×Int×Bool×Nat×RW):(zf (qHB n) (zN []) qFa (qF4 v) []).bind (zx [0] [(.ret,[]),((.exit 0),[])])=(qDZ n v).bind (zAQ qF4 qMI):=by
 obtain ⟨w0,w1,w2,w3,w4⟩:=v
 kernel_rfl
theorem qUX (n:Nat):zAX (Rn n) n (1,[0],[(.ret,[]),((.exit 0),[])],qFa) (qKh n):=fun st e s h=>
 zh (qNI n) (zI rfl) (qUW n) (fun r h=>by cases h) (fun r y h=>by cases h;rfl) (fun hs v h=>by
  unfold qKg at h
  split at h<;>cases h
  rfl) h
theorem qWo (n:Nat):zAK (qNH n) (Rn n) n qCw.body:=lt1 rfl (qUX n)
theorem qWp:∀(n:Nat) (x0:BA) (x1:Int) (x2:Bool) (x3:Nat) (x4:RW) r,qBU n x0 x1 x2 x3 x4=some r→Rn n 34 (qEj x0 x1 x2 x3 x4) (qEk x0 x1 x2 x3 x4)=some (qIK r)
 |0,x0,x1,x2,x3,x4,r,h=>by cases h
 |n+1,x0,x1,x2,x3,x4,r,h=>zH (kf:=qCw) rfl (qNI n) (qWo n) (qWn n x0 x1 x2 x3 x4) h
def qNJ (n:Nat):zS→Option (BA×Int×Bool×Nat×RW)
 |([[[]]],[[[[.s x0],[.i x1],[.b x2],[.n x3]],[[.r x4]]]])=>qBU n x0 x1 x2 x3 x4
 |_=>none
def qEl (n:Nat) (d:ED):ED:=zR (qEj (⟨#[]⟩) (0) (false) (0) ([])) (qEk (⟨#[]⟩) (0) (false) (0) ([])) (qNJ n) qIK d
theorem qHC (n:Nat) {d:ED} (hd:RK n 34 d):RK n 34 (qEl n d):=
 zF (fun hs r h=>by unfold qNJ at h;split at h;exact ⟨qEj _ _ _ _ _,qEk _ _ _ _ _,rfl,rfl,qWp n _ _ _ _ _ r h⟩;cases h) hd
def qJQ (x0 x1:BA) (x2:Int) (x3:Bool) (x4:Nat) (x5:RW):List AV:= [(.c (.ptr 0 0 0 0 0)),(cs x0)]
def qJR (x0 x1:BA) (x2:Int) (x3:Bool) (x4:Nat) (x5:RW):FR:= [[(0,⟨0,4,50,(.box [(vs x1),(vi x2),(vb x3),(.own 0 1 1 x4)])⟩),(1,⟨1,14,64,(.row x5)⟩)]]
def qOV (r:Bool×BA×Int×Bool×Nat×RW):Res:=⟨(cb r.1),[[(0,⟨0,4,50,(.box [(vs r.2.1),(vi r.2.2.1),(vb r.2.2.2.1),(.own 0 1 1 r.2.2.2.2.1)])⟩),(1,⟨1,14,64,(.row r.2.2.2.2.2)⟩)]],[]⟩
abbrev qTV (n:Nat):zX:=zd [(34,qEl n (zD))]
abbrev qbT (n:Nat):za:=zN []
def qUy (n:Nat) (x0 x1:BA) (x2:Int) (x3:Bool) (x4:Nat) (x5:RW):Tr (Bool×BA×Int×Bool×Nat×RW):=(.opt (qBU n x1 x2 x3 x4 x5) fun r11=>(.ask (r11.2.2.1) (.done (false,r11.1,r11.2.1,r11.2.2.1,r11.2.2.2.1,r11.2.2.2.2)) (.ask ((decide ((IntKind.i64.wrap (r11.2.1+(x0.size:Int)))>(r11.1.size:Int)))) (.done (false,r11.1,r11.2.1,r11.2.2.1,r11.2.2.2.1,r11.2.2.2.2)) (.ask (decide (0≤r11.2.1∧r11.2.1≤(IntKind.i64.wrap (r11.2.1+(x0.size:Int)))∧(IntKind.i64.wrap (r11.2.1+(x0.size:Int)))≤r11.1.size)) (.ask ((!((r11.1.extract (r11.2.1).toNat ((IntKind.i64.wrap (r11.2.1+(x0.size:Int)))).toNat).toList==x0.toList))) (.done (false,r11.1,r11.2.1,r11.2.2.1,r11.2.2.2.1,r11.2.2.2.2)) (.done (true,r11.1,(IntKind.i64.wrap (r11.2.1+(x0.size:Int))),r11.2.2.1,r11.2.2.2.1,r11.2.2.2.2))) .fail))))
def q8:Nat→BA→BA→Int→Bool→Nat→RW→Option (Bool×BA×Int×Bool×Nat×RW)
 |0,_,_,_,_,_,_=>none
 |n+1,x0,x1,x2,x3,x4,x5=>(qUy n x0 x1 x2 x3 x4 x5).run
theorem qbU (n:Nat) (x0 x1:BA) (x2:Int) (x3:Bool) (x4:Nat) (x5:RW):ze (qTV n) (qbT n) qJI (qJQ x0 x1 x2 x3 x4 x5) (qJR x0 x1 x2 x3 x4 x5)=(qUy n x0 x1 x2 x3 x4 x5).bind fun r=> .done (qOV r):=by kernel_rfl
theorem qbV (n:Nat):zW (qTV n) (Rn n):=zA (qHC n (zB)) (zG)
theorem qbW:∀(n:Nat) (x0 x1:BA) (x2:Int) (x3:Bool) (x4:Nat) (x5:RW) r,q8 n x0 x1 x2 x3 x4 x5=some r→Rn n 128 (qJQ x0 x1 x2 x3 x4 x5) (qJR x0 x1 x2 x3 x4 x5)=some (qOV r)
 |0,x0,x1,x2,x3,x4,x5,r,h=>by cases h
 |n+1,x0,x1,x2,x3,x4,x5,r,h=>zH (kf:=qJI) rfl (qbV n) (zI rfl) (qbU n x0 x1 x2 x3 x4 x5) h
def qTW (n:Nat):zS→Option (Bool×BA×Int×Bool×Nat×RW)
 |([[[]],[[.s x0]]],[[[[.s x1],[.i x2],[.b x3],[.n x4]],[[.r x5]]]])=>q8 n x0 x1 x2 x3 x4 x5
 |_=>none
def qF5 (n:Nat) (d:ED):ED:=zR (qJQ (⟨#[]⟩) (⟨#[]⟩) (0) (false) (0) ([])) (qJR (⟨#[]⟩) (⟨#[]⟩) (0) (false) (0) ([])) (qTW n) qOV d
theorem qHv (n:Nat) {d:ED} (hd:RK n 128 d):RK n 128 (qF5 n d):=
 zF (fun hs r h=>by unfold qTW at h;split at h;exact ⟨qJQ _ _ _ _ _ _,qJR _ _ _ _ _ _,rfl,rfl,qbW n _ _ _ _ _ _ r h⟩;cases h) hd
def qP0 (x0 x1 x2:Int):List AV:= [(ci x0),(ci x1),(ci x2)]
def qP1 (x0 x1 x2:Int):FR:= []
def qUz (r:Bool):Res:=⟨(cb r),[],[]⟩
abbrev qYz (n:Nat):zX:=zd []
abbrev qeo (n:Nat):za:=zN []
def qP2 (n:Nat) (x0 x1 x2:Int):Tr (Bool):=(.ask ((decide (x0≥x1))) (.done (decide (x0≤x2))) (.done false))
def qBK:Nat→Int→Int→Int→Option (Bool)
 |0,_,_,_=>none
 |n+1,x0,x1,x2=>(qP2 n x0 x1 x2).run
theorem qep (n:Nat) (x0 x1 x2:Int):ze (qYz n) (qeo n) qPy (qP0 x0 x1 x2) (qP1 x0 x1 x2)=(qP2 n x0 x1 x2).bind fun r=> .done (qUz r):=by kernel_rfl
theorem qeq (n:Nat):zW (qYz n) (Rn n):=zG
theorem qer:∀(n:Nat) (x0 x1 x2:Int) r,qBK n x0 x1 x2=some r→Rn n 53 (qP0 x0 x1 x2) (qP1 x0 x1 x2)=some (qUz r)
 |0,x0,x1,x2,r,h=>by cases h
 |n+1,x0,x1,x2,r,h=>zH (kf:=qPy) rfl (qeq n) (zI rfl) (qep n x0 x1 x2) h
def qY0 (n:Nat):zS→Option (Bool)
 |([[[.i x0]],[[.i x1]],[[.i x2]]],[])=>qBK n x0 x1 x2
 |_=>none
def qIo (n:Nat) (d:ED):ED:=zR (qP0 (0) (0) (0)) (qP1 (0) (0) (0)) (qY0 n) qUz d
theorem qJS (n:Nat) {d:ED} (hd:RK n 53 d):RK n 53 (qIo n d):=
 zF (fun hs r h=>by unfold qY0 at h;split at h;exact ⟨qP0 _ _ _,qP1 _ _ _,rfl,rfl,qer n _ _ _ r h⟩;cases h) hd
def qJT (x0 x1:Int) (x2:BA):List AV:= [(.agg [(vi x0),(vi x1),(vs x2)])]
def qJU (x0 x1:Int) (x2:BA):FR:= []
def qOW (r:Bool):Res:=⟨(cb r),[],[]⟩
abbrev qTX (n:Nat):zX:=zd [(53,qIo n (zD)),(32,qJP n (zD))]
abbrev qbX (n:Nat):za:=zN []
def qOX (n:Nat) (x0 x1:Int) (x2:BA):Tr (Bool):=(.ask ((x0==(0:Int))) (.ask ((x1==(0:Int))) (.done (x2.toList==(⟨#[]⟩:BA).toList)) (.done false)) (.ask ((x0==(1:Int))) (.opt (qBK n x1 (-1000000000000000:Int) (1000000000000000:Int)) fun r14=>(.ask (r14) (.done (x2.toList==(⟨#[]⟩:BA).toList)) (.done false))) (.ask ((x0==(2:Int))) (.ask ((x1==(0:Int))) (.opt (qC1 n x2) fun r15=>(.done r15)) (.done false)) (.ask ((x0==(3:Int))) (.opt (qBK n x1 (0:Int) (1:Int)) fun r16=>(.ask (r16) (.done (x2.toList==(⟨#[]⟩:BA).toList)) (.done false))) (.ask ((x0==(4:Int))) (.opt (qBK n x1 (1:Int) (5:Int)) fun r17=>(.ask (r17) (.done (x2.toList==(⟨#[]⟩:BA).toList)) (.done false))) (.done false))))))
def qT:Nat→Int→Int→BA→Option (Bool)
 |0,_,_,_=>none
 |n+1,x0,x1,x2=>(qOX n x0 x1 x2).run
theorem qbY (n:Nat) (x0 x1:Int) (x2:BA):ze (qTX n) (qbX n) qJG (qJT x0 x1 x2) (qJU x0 x1 x2)=(qOX n x0 x1 x2).bind fun r=> .done (qOW r):=by kernel_rfl
theorem qbZ (n:Nat):zW (qTX n) (Rn n):=zA (qJS n (zB)) (zA (qMt n (zB)) (zG))
theorem qba:∀(n:Nat) (x0 x1:Int) (x2:BA) r,qT n x0 x1 x2=some r→Rn n 111 (qJT x0 x1 x2) (qJU x0 x1 x2)=some (qOW r)
 |0,x0,x1,x2,r,h=>by cases h
 |n+1,x0,x1,x2,r,h=>zH (kf:=qJG) rfl (qbZ n) (zI rfl) (qbY n x0 x1 x2) h
def qTY (n:Nat):zS→Option (Bool)
 |([[[.i x0],[.i x1],[.s x2]]],[])=>qT n x0 x1 x2
 |_=>none
def qF6 (n:Nat) (d:ED):ED:=zR (qJT (0) (0) (⟨#[]⟩)) (qJU (0) (0) (⟨#[]⟩)) (qTY n) qOW d
theorem qHw (n:Nat) {d:ED} (hd:RK n 111 d):RK n 111 (qF6 n d):=
 zF (fun hs r h=>by unfold qTY at h;split at h;exact ⟨qJT _ _ _,qJU _ _ _,rfl,rfl,qba n _ _ _ r h⟩;cases h) hd
def qN6 (x0 x1:Int):List AV:= [(.agg [(vi x0),(vi x1)])]
def qN7 (x0 x1:Int):FR:= []
def qSo (r:Bool):Res:=⟨(cb r),[],[]⟩
abbrev qXn (n:Nat):zX:=zd [(53,qIo n (zD))]
abbrev qdw (n:Nat):za:=zN []
def qSp (n:Nat) (x0 x1:Int):Tr (Bool):=(.opt (qBK n x0 (1:Int) (52:Int)) fun r19=>(.ask (r19) (.opt (qBK n x1 (1:Int) (99:Int)) fun r20=>(.done r20)) (.done false)))
def qAR:Nat→Int→Int→Option (Bool)
 |0,_,_=>none
 |n+1,x0,x1=>(qSp n x0 x1).run
theorem qdx (n:Nat) (x0 x1:Int):ze (qXn n) (qdw n) qN3 (qN6 x0 x1) (qN7 x0 x1)=(qSp n x0 x1).bind fun r=> .done (qSo r):=by kernel_rfl
theorem qdy (n:Nat):zW (qXn n) (Rn n):=zA (qJS n (zB)) (zG)
theorem qdz:∀(n:Nat) (x0 x1:Int) r,qAR n x0 x1=some r→Rn n 74 (qN6 x0 x1) (qN7 x0 x1)=some (qSo r)
 |0,x0,x1,r,h=>by cases h
 |n+1,x0,x1,r,h=>zH (kf:=qN3) rfl (qdy n) (zI rfl) (qdx n x0 x1) h
def qXo (n:Nat):zS→Option (Bool)
 |([[[.i x0],[.i x1]]],[])=>qAR n x0 x1
 |_=>none
def qJV (n:Nat) (d:ED):ED:=zR (qN6 (0) (0)) (qN7 (0) (0)) (qXo n) qSo d
theorem qLq (n:Nat) {d:ED} (hd:RK n 74 d):RK n 74 (qJV n d):=
 zF (fun hs r h=>by unfold qXo at h;split at h;exact ⟨qN6 _ _,qN7 _ _,rfl,rfl,qdz n _ _ r h⟩;cases h) hd
def qLr (x0 x1 x2 x3:Int):List AV:= [(.agg [(vi x0),(vi x1),(vi x2),(vi x3)])]
def qLs (x0 x1 x2 x3:Int):FR:= []
def qQ7 (r:Bool):Res:=⟨(cb r),[],[]⟩
abbrev qU0 (n:Nat):zX:=zd [(74,qJV n (zD))]
abbrev qce (n:Nat):za:=zN []
def qQ8 (n:Nat) (x0 x1 x2 x3:Int):Tr (Bool):=(.opt (qAR n x0 x1) fun r22=>(.ask (r22) (.opt (qAR n x2 x3) fun r23=>(.ask (r23) (.ask ((decide (x0≤x2))) (.done (decide (x1≤x3))) (.done false)) (.done false))) (.done false)))
def qHe:Nat→Int→Int→Int→Int→Option (Bool)
 |0,_,_,_,_=>none
 |n+1,x0,x1,x2,x3=>(qQ8 n x0 x1 x2 x3).run
theorem qcf (n:Nat) (x0 x1 x2 x3:Int):ze (qU0 n) (qce n) qLl (qLr x0 x1 x2 x3) (qLs x0 x1 x2 x3)=(qQ8 n x0 x1 x2 x3).bind fun r=> .done (qQ7 r):=by kernel_rfl
theorem qcg (n:Nat):zW (qU0 n) (Rn n):=zA (qLq n (zB)) (zG)
theorem qch:∀(n:Nat) (x0 x1 x2 x3:Int) r,qHe n x0 x1 x2 x3=some r→Rn n 112 (qLr x0 x1 x2 x3) (qLs x0 x1 x2 x3)=some (qQ7 r)
 |0,x0,x1,x2,x3,r,h=>by cases h
 |n+1,x0,x1,x2,x3,r,h=>zH (kf:=qLl) rfl (qcg n) (zI rfl) (qcf n x0 x1 x2 x3) h
def qU1 (n:Nat):zS→Option (Bool)
 |([[[.i x0],[.i x1],[.i x2],[.i x3]]],[])=>qHe n x0 x1 x2 x3
 |_=>none
def qXp (n:Nat) (d:ED):ED:=zR (qLr (0) (0) (0) (0)) (qLs (0) (0) (0) (0)) (qU1 n) qQ7 d
theorem qci (n:Nat) {d:ED} (hd:RK n 112 d):RK n 112 (qXp n d):=
 zF (fun hs r h=>by unfold qU1 at h;split at h;exact ⟨qLr _ _ _ _,qLs _ _ _ _,rfl,rfl,qch n _ _ _ _ r h⟩;cases h) hd
def qLt (x0 x1:Int):List AV:= [(ci x0),(ci x1)]
def qLu (x0 x1:Int):FR:= []
def qQ9 (r:Bool):Res:=⟨(cb r),[],[]⟩
abbrev qU2 (n:Nat):zX:=zd []
abbrev qcj (n:Nat):za:=zN []
def qRA (n:Nat) (x0 x1:Int):Tr (Bool):=(.ask ((x0==(1:Int))) (.ask ((decide (x1≥(1:Int)))) (.done (decide (x1≤(10:Int)))) (.done false)) (.ask ((x0==(2:Int))) (.ask ((decide (x1≥(1:Int)))) (.done (decide (x1≤(10:Int)))) (.done false)) (.ask ((x0==(3:Int))) (.ask ((decide (x1≥(1:Int)))) (.done (decide (x1≤(10:Int)))) (.done false)) (.ask ((x0==(4:Int))) (.ask ((decide (x1≥(1:Int)))) (.done (decide (x1≤(10:Int)))) (.done false)) (.ask ((x0==(6:Int))) (.ask ((decide (x1≥(1:Int)))) (.done (decide (x1≤(10:Int)))) (.done false)) (.ask ((x0==(7:Int))) (.ask ((decide (x1≥(1:Int)))) (.done (decide (x1≤(10:Int)))) (.done false)) (.ask ((x0==(5:Int))) (.ask ((x1==(2:Int))) (.done true) (.done (x1==(3:Int)))) (.ask ((x0==(8:Int))) (.done (x1==(1:Int))) (.ask ((x0==(9:Int))) (.done (x1==(1:Int))) (.ask ((x0==(10:Int))) (.done (x1==(1:Int))) (.done false)))))))))))
def qHf:Nat→Int→Int→Option (Bool)
 |0,_,_=>none
 |n+1,x0,x1=>(qRA n x0 x1).run
theorem qck (n:Nat) (x0 x1:Int):ze (qU2 n) (qcj n) qLm (qLt x0 x1) (qLu x0 x1)=(qRA n x0 x1).bind fun r=> .done (qQ9 r):=by kernel_rfl
theorem qcl (n:Nat):zW (qU2 n) (Rn n):=zG
theorem qcm:∀(n:Nat) (x0 x1:Int) r,qHf n x0 x1=some r→Rn n 113 (qLt x0 x1) (qLu x0 x1)=some (qQ9 r)
 |0,x0,x1,r,h=>by cases h
 |n+1,x0,x1,r,h=>zH (kf:=qLm) rfl (qcl n) (zI rfl) (qck n x0 x1) h
def qU3 (n:Nat):zS→Option (Bool)
 |([[[.i x0]],[[.i x1]]],[])=>qHf n x0 x1
 |_=>none
def qXq (n:Nat) (d:ED):ED:=zR (qLt (0) (0)) (qLu (0) (0)) (qU3 n) qQ9 d
theorem qcn (n:Nat) {d:ED} (hd:RK n 113 d):RK n 113 (qXq n d):=
 zF (fun hs r h=>by unfold qU3 at h;split at h;exact ⟨qLt _ _,qLu _ _,rfl,rfl,qcm n _ _ r h⟩;cases h) hd
def qHx (x0 x1 x2 x3:Int) (x4:BA) (x5 x6:Int) (x7 x8:Bool) (x9 x10:Int) (x11 x12:Bool) (x13:RW):List AV:= [(.agg [(vi x0),(vi x1),(vi x2),(vi x3),(vs x4),(vi x5),(vi x6),(vb x7),(vb x8),(vi x9),(vi x10),(vb x11),(vb x12),(.p (.ls x13))])]
def qHy (x0 x1 x2 x3:Int) (x4:BA) (x5 x6:Int) (x7 x8:Bool) (x9 x10:Int) (x11 x12:Bool) (x13:RW):FR:= []
def qMu (r:Bool):Res:=⟨(cb r),[],[]⟩
abbrev qRs (n:Nat):zX:=zd [(111,qF6 n (zD)),(74,qJV n (zD)),(112,qXp n (zD)),(53,qIo n (zD)),(113,qXq n (zD))]
abbrev qaQ (n:Nat):za:=zN []
def qMv (n:Nat) (x0 x1 x2 x3:Int) (x4:BA) (x5 x6:Int) (x7 x8:Bool) (x9 x10:Int) (x11 x12:Bool) (x13:RW):Tr (Bool):=(.ask ((x0==(1:Int))) (.ask ((x1==(0:Int))) (.ask (((x5==(0:Int))&&((x6==(0:Int))&&((x7==false)&&((x8==false)&&true))))) (.ask (((x9==(0:Int))&&((x10==(0:Int))&&((x11==false)&&((x12==false)&&true))))) (.ask (((x13.length:Int)==(0:Int))) (.opt (qT n x2 x3 x4) fun r18=>(.ask (r18) (.ask ((x2 !=(0:Int))) (.ask ((x2 !=(1:Int))) (.done true) (.done (decide (x3≥(0:Int))))) (.done false)) (.done false))) (.done false)) (.done false)) (.done false)) (.done false)) (.ask ((x0==(2:Int))) (.ask ((x1==(0:Int))) (.ask (((x2==(0:Int))&&((x3==(0:Int))&&((x4.toList==(⟨#[]⟩:BA).toList)&&true)))) (.ask (((x9==(0:Int))&&((x10==(0:Int))&&((x11==false)&&((x12==false)&&true))))) (.ask (((x13.length:Int)==(0:Int))) (.opt (qAR n x5 x6) fun r21=>(.done r21)) (.done false)) (.done false)) (.done false)) (.done false)) (.ask ((x0==(3:Int))) (.ask ((x1==(0:Int))) (.ask (((x2==(0:Int))&&((x3==(0:Int))&&((x4.toList==(⟨#[]⟩:BA).toList)&&true)))) (.ask (((x13.length:Int)==(0:Int))) (.opt (qHe n x5 x6 x9 x10) fun r24=>(.done r24)) (.done false)) (.done false)) (.done false)) (.ask ((x0==(4:Int))) (.ask ((x1==(0:Int))) (.ask (((x2==(0:Int))&&((x3==(0:Int))&&((x4.toList==(⟨#[]⟩:BA).toList)&&true)))) (.ask (((x5==(0:Int))&&((x6==(0:Int))&&((x7==false)&&((x8==false)&&true))))) (.ask (((x9==(0:Int))&&((x10==(0:Int))&&((x11==false)&&((x12==false)&&true))))) (.done ((x13.length:Int)==(1:Int))) (.done false)) (.done false)) (.done false)) (.done false)) (.ask ((x0==(5:Int))) (.opt (qBK n x1 (1:Int) (11:Int)) fun r25=>(.ask (r25) (.ask (((x2==(0:Int))&&((x3==(0:Int))&&((x4.toList==(⟨#[]⟩:BA).toList)&&true)))) (.ask (((x5==(0:Int))&&((x6==(0:Int))&&((x7==false)&&((x8==false)&&true))))) (.ask (((x9==(0:Int))&&((x10==(0:Int))&&((x11==false)&&((x12==false)&&true))))) (.done ((x13.length:Int)==(2:Int))) (.done false)) (.done false)) (.done false)) (.done false))) (.ask ((x0==(6:Int))) (.opt (qHf n x1 (x13.length:Int)) fun r26=>(.ask (r26) (.ask (((x2==(0:Int))&&((x3==(0:Int))&&((x4.toList==(⟨#[]⟩:BA).toList)&&true)))) (.ask (((x5==(0:Int))&&((x6==(0:Int))&&((x7==false)&&((x8==false)&&true))))) (.done ((x9==(0:Int))&&((x10==(0:Int))&&((x11==false)&&((x12==false)&&true))))) (.done false)) (.done false)) (.done false))) (.done false)))))))
def qBt:Nat→Int→Int→Int→Int→BA→Int→Int→Bool→Bool→Int→Int→Bool→Bool→RW→Option (Bool)
 |0,_,_,_,_,_,_,_,_,_,_,_,_,_,_=>none
 |n+1,x0,x1,x2,x3,x4,x5,x6,x7,x8,x9,x10,x11,x12,x13=>(qMv n x0 x1 x2 x3 x4 x5 x6 x7 x8 x9 x10 x11 x12 x13).run
theorem qaR (n:Nat) (x0 x1 x2 x3:Int) (x4:BA) (x5 x6:Int) (x7 x8:Bool) (x9 x10:Int) (x11 x12:Bool) (x13:RW):ze (qRs n) (qaQ n) qHq (qHx x0 x1 x2 x3 x4 x5 x6 x7 x8 x9 x10 x11 x12 x13) (qHy x0 x1 x2 x3 x4 x5 x6 x7 x8 x9 x10 x11 x12 x13)=(qMv n x0 x1 x2 x3 x4 x5 x6 x7 x8 x9 x10 x11 x12 x13).bind fun r=> .done (qMu r):=by kernel_rfl
theorem qaS (n:Nat):zW (qRs n) (Rn n):=zA (qHw n (zB)) (zA (qLq n (zB)) (zA (qci n (zB)) (zA (qJS n (zB)) (zA (qcn n (zB)) (zG)))))
theorem qaT:∀(n:Nat) (x0 x1 x2 x3:Int) (x4:BA) (x5 x6:Int) (x7 x8:Bool) (x9 x10:Int) (x11 x12:Bool) (x13:RW) r,qBt n x0 x1 x2 x3 x4 x5 x6 x7 x8 x9 x10 x11 x12 x13=some r→Rn n 52 (qHx x0 x1 x2 x3 x4 x5 x6 x7 x8 x9 x10 x11 x12 x13) (qHy x0 x1 x2 x3 x4 x5 x6 x7 x8 x9 x10 x11 x12 x13)=some (qMu r)
 |0,x0,x1,x2,x3,x4,x5,x6,x7,x8,x9,x10,x11,x12,x13,r,h=>by cases h
 |n+1,x0,x1,x2,x3,x4,x5,x6,x7,x8,x9,x10,x11,x12,x13,r,h=>zH (kf:=qHq) rfl (qaS n) (zI rfl) (qaR n x0 x1 x2 x3 x4 x5 x6 x7 x8 x9 x10 x11 x12 x13) h
def qRt (n:Nat):zS→Option (Bool)
 |([[[.i x0],[.i x1],[.i x2],[.i x3],[.s x4],[.i x5],[.i x6],[.b x7],[.b x8],[.i x9],[.i x10],[.b x11],[.b x12],[.r x13]]],[])=>qBt n x0 x1 x2 x3 x4 x5 x6 x7 x8 x9 x10 x11 x12 x13
 |_=>none
def qMw (n:Nat) (d:ED):ED:=zR (qHx (0) (0) (0) (0) (⟨#[]⟩) (0) (0) (false) (false) (0) (0) (false) (false) ([])) (qHy (0) (0) (0) (0) (⟨#[]⟩) (0) (0) (false) (false) (0) (0) (false) (false) ([])) (qRt n) qMu d
theorem qRu (n:Nat) {d:ED} (hd:RK n 52 d):RK n 52 (qMw n d):=
 zF (fun hs r h=>by unfold qRt at h;split at h;exact ⟨qHx _ _ _ _ _ _ _ _ _ _ _ _ _ _,qHy _ _ _ _ _ _ _ _ _ _ _ _ _ _,rfl,rfl,qaT n _ _ _ _ _ _ _ _ _ _ _ _ _ _ r h⟩;cases h) hd
def qHz (x0 x1 x2 x3:Int) (x4:BA) (x5 x6:Int) (x7 x8:Bool) (x9 x10:Int) (x11 x12:Bool) (x13:RW) (x14:BA) (x15:Int) (x16:Bool) (x17:Nat) (x18:RW):List AV:= [(.c (.ptr 0 0 0 0 0)),(.agg [(vi x0),(vi x1),(vi x2),(vi x3),(vs x4),(vi x5),(vi x6),(vb x7),(vb x8),(vi x9),(vi x10),(vb x11),(vb x12),(.p (.ls x13))])]
def qH0 (x0 x1 x2 x3:Int) (x4:BA) (x5 x6:Int) (x7 x8:Bool) (x9 x10:Int) (x11 x12:Bool) (x13:RW) (x14:BA) (x15:Int) (x16:Bool) (x17:Nat) (x18:RW):FR:= [[(0,⟨0,4,50,(.box [(vs x14),(vi x15),(vb x16),(.own 0 1 1 x17)])⟩),(1,⟨1,14,64,(.row x18)⟩)]]
def qMx (r:Int×BA×Int×Bool×Nat×RW):Res:=⟨(ci r.1),[[(0,⟨0,4,50,(.box [(vs r.2.1),(vi r.2.2.1),(vb r.2.2.2.1),(.own 0 1 1 r.2.2.2.2.1)])⟩),(1,⟨1,14,64,(.row r.2.2.2.2.2)⟩)]],[]⟩
abbrev qRv (n:Nat):zX:=zd [(52,qMw n (zD))]
abbrev qaU (n:Nat):za:=zN []
def qTZ (n:Nat) (x0 x1 x2 x3:Int) (x4:BA) (x5 x6:Int) (x7 x8:Bool) (x9 x10:Int) (x11 x12:Bool) (x13:RW) (x14:BA) (x15:Int) (x16:Bool) (x17:Nat) (x18:RW):Tr (Int×BA×Int×Bool×Nat×RW):=(.ask (decide (1=([[(.i .i64 x0),(.i .i64 x1),(.i .i64 x2),(.i .i64 x3),(.s x4),(.i .i64 x5),(.i .i64 x6),(.b x7),(.b x8),(.i .i64 x9),(.i .i64 x10),(.b x11),(.b x12),(.ls x13)]]:RW).length)) (.ask (decide (x17=x18.length∧0<14∧0<120∧(x17+([[(.i .i64 x0),(.i .i64 x1),(.i .i64 x2),(.i .i64 x3),(.s x4),(.i .i64 x5),(.i .i64 x6),(.b x7),(.b x8),(.i .i64 x9),(.i .i64 x10),(.b x11),(.b x12),(.ls x13)]]:RW).length)*120≤140737488355328∧([[(.i .i64 x0),(.i .i64 x1),(.i .i64 x2),(.i .i64 x3),(.s x4),(.i .i64 x5),(.i .i64 x6),(.b x7),(.b x8),(.i .i64 x9),(.i .i64 x10),(.b x11),(.b x12),(.ls x13)]]:RW).all (fun e=>e.length==14)=true)) (.ask ((decide ((((x17+1):Nat):Int)>(60:Int)))) (.done ((IntKind.i64.wrap ((((x17+1):Nat):Int)-(1:Int))),x14,x15,true,(x17+1),(x18++([[(.i .i64 x0),(.i .i64 x1),(.i .i64 x2),(.i .i64 x3),(.s x4),(.i .i64 x5),(.i .i64 x6),(.b x7),(.b x8),(.i .i64 x9),(.i .i64 x10),(.b x11),(.b x12),(.ls x13)]]:RW)))) (.opt (qBt n x0 x1 x2 x3 x4 x5 x6 x7 x8 x9 x10 x11 x12 x13) fun r27=>(.ask ((!r27)) (.done ((IntKind.i64.wrap ((((x17+1):Nat):Int)-(1:Int))),x14,x15,true,(x17+1),(x18++([[(.i .i64 x0),(.i .i64 x1),(.i .i64 x2),(.i .i64 x3),(.s x4),(.i .i64 x5),(.i .i64 x6),(.b x7),(.b x8),(.i .i64 x9),(.i .i64 x10),(.b x11),(.b x12),(.ls x13)]]:RW)))) (.done ((IntKind.i64.wrap ((((x17+1):Nat):Int)-(1:Int))),x14,x15,x16,(x17+1),(x18++([[(.i .i64 x0),(.i .i64 x1),(.i .i64 x2),(.i .i64 x3),(.s x4),(.i .i64 x5),(.i .i64 x6),(.b x7),(.b x8),(.i .i64 x9),(.i .i64 x10),(.b x11),(.b x12),(.ls x13)]]:RW))))))) .fail) .fail)
def qm:Nat→Int→Int→Int→Int→BA→Int→Int→Bool→Bool→Int→Int→Bool→Bool→RW→BA→Int→Bool→Nat→RW→Option (Int×BA×Int×Bool×Nat×RW)
 |0,_,_,_,_,_,_,_,_,_,_,_,_,_,_,_,_,_,_,_=>none
 |n+1,x0,x1,x2,x3,x4,x5,x6,x7,x8,x9,x10,x11,x12,x13,x14,x15,x16,x17,x18=>(qTZ n x0 x1 x2 x3 x4 x5 x6 x7 x8 x9 x10 x11 x12 x13 x14 x15 x16 x17 x18).run
theorem qaV (n:Nat) (x0 x1 x2 x3:Int) (x4:BA) (x5 x6:Int) (x7 x8:Bool) (x9 x10:Int) (x11 x12:Bool) (x13:RW) (x14:BA) (x15:Int) (x16:Bool) (x17:Nat) (x18:RW):ze (qRv n) (qaU n) qHt (qHz x0 x1 x2 x3 x4 x5 x6 x7 x8 x9 x10 x11 x12 x13 x14 x15 x16 x17 x18) (qH0 x0 x1 x2 x3 x4 x5 x6 x7 x8 x9 x10 x11 x12 x13 x14 x15 x16 x17 x18)=(qTZ n x0 x1 x2 x3 x4 x5 x6 x7 x8 x9 x10 x11 x12 x13 x14 x15 x16 x17 x18).bind fun r=> .done (qMx r):=by kernel_rfl
theorem qaW (n:Nat):zW (qRv n) (Rn n):=zA (qRu n (zB)) (zG)
theorem qaX:∀(n:Nat) (x0 x1 x2 x3:Int) (x4:BA) (x5 x6:Int) (x7 x8:Bool) (x9 x10:Int) (x11 x12:Bool) (x13:RW) (x14:BA) (x15:Int) (x16:Bool) (x17:Nat) (x18:RW) r,qm n x0 x1 x2 x3 x4 x5 x6 x7 x8 x9 x10 x11 x12 x13 x14 x15 x16 x17 x18=some r→Rn n 83 (qHz x0 x1 x2 x3 x4 x5 x6 x7 x8 x9 x10 x11 x12 x13 x14 x15 x16 x17 x18) (qH0 x0 x1 x2 x3 x4 x5 x6 x7 x8 x9 x10 x11 x12 x13 x14 x15 x16 x17 x18)=some (qMx r)
 |0,x0,x1,x2,x3,x4,x5,x6,x7,x8,x9,x10,x11,x12,x13,x14,x15,x16,x17,x18,r,h=>by cases h
 |n+1,x0,x1,x2,x3,x4,x5,x6,x7,x8,x9,x10,x11,x12,x13,x14,x15,x16,x17,x18,r,h=>zH (kf:=qHt) rfl (qaW n) (zI rfl) (qaV n x0 x1 x2 x3 x4 x5 x6 x7 x8 x9 x10 x11 x12 x13 x14 x15 x16 x17 x18) h
def qRw (n:Nat):zS→Option (Int×BA×Int×Bool×Nat×RW)
 |([[[]],[[.i x0],[.i x1],[.i x2],[.i x3],[.s x4],[.i x5],[.i x6],[.b x7],[.b x8],[.i x9],[.i x10],[.b x11],[.b x12],[.r x13]]],[[[[.s x14],[.i x15],[.b x16],[.n x17]],[[.r x18]]]])=>qm n x0 x1 x2 x3 x4 x5 x6 x7 x8 x9 x10 x11 x12 x13 x14 x15 x16 x17 x18
 |_=>none
def qDU (n:Nat) (d:ED):ED:=zR (qHz (0) (0) (0) (0) (⟨#[]⟩) (0) (0) (false) (false) (0) (0) (false) (false) ([]) (⟨#[]⟩) (0) (false) (0) ([])) (qH0 (0) (0) (0) (0) (⟨#[]⟩) (0) (0) (false) (false) (0) (0) (false) (false) ([]) (⟨#[]⟩) (0) (false) (0) ([])) (qRw n) qMx d
theorem qEO (n:Nat) {d:ED} (hd:RK n 83 d):RK n 83 (qDU n d):=
 zF (fun hs r h=>by unfold qRw at h;split at h;exact ⟨qHz _ _ _ _ _ _ _ _ _ _ _ _ _ _ _ _ _ _ _,qH0 _ _ _ _ _ _ _ _ _ _ _ _ _ _ _ _ _ _ _,rfl,rfl,qaX n _ _ _ _ _ _ _ _ _ _ _ _ _ _ _ _ _ _ _ r h⟩;cases h) hd
def qGX (x0:BA) (x1:Int) (x2:Bool) (x3:Nat) (x4:RW):List AV:= [(.c (.ptr 0 0 0 0 0))]
def qGY (x0:BA) (x1:Int) (x2:Bool) (x3:Nat) (x4:RW):FR:= [[(0,⟨0,4,50,(.box [(vs x0),(vi x1),(vb x2),(.own 0 1 1 x3)])⟩),(1,⟨1,14,64,(.row x4)⟩)]]
def qK4 (r:Int×BA×Int×Bool×Nat×RW):Res:=⟨(ci r.1),[[(0,⟨0,4,50,(.box [(vs r.2.1),(vi r.2.2.1),(vb r.2.2.2.1),(.own 0 1 1 r.2.2.2.2.1)])⟩),(1,⟨1,14,64,(.row r.2.2.2.2.2)⟩)]],[]⟩
abbrev qJW (n:Nat):zX:=zd [(83,qDU n (zD))]
def qHD (v:BA×BA×Int×Bool×Nat×RW):St:=⟨[(0,(.c (.ptr 0 0 0 0 0))),(3,(cs v.1))],[],[[(0,⟨0,4,50,(.box [(vs v.2.1),(vi v.2.2.1),(vb v.2.2.2.1),(.own 0 1 1 v.2.2.2.2.1)])⟩),(1,⟨1,14,64,(.row v.2.2.2.2.2)⟩)]]⟩
def qD3 (n:Nat) (v:BA×BA×Int×Bool×Nat×RW):Tr ((BA×BA×Int×Bool×Nat×RW)⊕((Int×BA×Int×Bool×Nat×RW)⊕(BA×Int×Bool×Nat×RW))):=(.ask ((decide (v.2.2.1<(v.2.1.size:Int)))) (.ask (decide (0≤v.2.2.1)) (.opt (v.2.1.toList[(v.2.2.1).toNat]?) fun c33=>(.ask (((c33.toNat:Int) !=(34:Int))) (.ask (decide (0≤v.2.2.1∧v.2.2.1≤(IntKind.i64.wrap (v.2.2.1+(1:Int)))∧(IntKind.i64.wrap (v.2.2.1+(1:Int)))≤v.2.1.size)) (.ask (decide (v.1.size+(v.2.1.extract (v.2.2.1).toNat ((IntKind.i64.wrap (v.2.2.1+(1:Int)))).toNat).size≤9223372036854775807)) (.done (.inl ((v.1++(v.2.1.extract (v.2.2.1).toNat ((IntKind.i64.wrap (v.2.2.1+(1:Int)))).toNat)),v.2.1,(IntKind.i64.wrap (v.2.2.1+(1:Int))),v.2.2.2.1,v.2.2.2.2.1,v.2.2.2.2.2))) .fail) .fail) (.ask ((decide ((IntKind.i64.wrap (v.2.2.1+(1:Int)))≥(v.2.1.size:Int)))) (.opt (qm n (1:Int) (0:Int) (2:Int) (0:Int) v.1 (0:Int) (0:Int) false false (0:Int) (0:Int) false false ([]:RW) v.2.1 (IntKind.i64.wrap (v.2.2.1+(1:Int))) v.2.2.2.1 v.2.2.2.2.1 v.2.2.2.2.2) fun r34=>(.done (.inr (.inl ((r34.1,r34.2.1,r34.2.2.1,r34.2.2.2.1,r34.2.2.2.2.1,r34.2.2.2.2.2)))))) (.ask (decide (0≤(IntKind.i64.wrap (v.2.2.1+(1:Int))))) (.opt (v.2.1.toList[((IntKind.i64.wrap (v.2.2.1+(1:Int)))).toNat]?) fun c35=>(.ask (((c35.toNat:Int) !=(34:Int))) (.opt (qm n (1:Int) (0:Int) (2:Int) (0:Int) v.1 (0:Int) (0:Int) false false (0:Int) (0:Int) false false ([]:RW) v.2.1 (IntKind.i64.wrap (v.2.2.1+(1:Int))) v.2.2.2.1 v.2.2.2.2.1 v.2.2.2.2.2) fun r36=>(.done (.inr (.inl ((r36.1,r36.2.1,r36.2.2.1,r36.2.2.2.1,r36.2.2.2.2.1,r36.2.2.2.2.2)))))) (.ask (decide (v.1.size+(⟨#[34]⟩:BA).size≤9223372036854775807)) (.done (.inl ((v.1++(⟨#[34]⟩:BA)),v.2.1,(IntKind.i64.wrap ((IntKind.i64.wrap (v.2.2.1+(1:Int)))+(1:Int))),v.2.2.2.1,v.2.2.2.2.1,v.2.2.2.2.2))) .fail))) .fail)))) .fail) (.done (.inr (.inr ((v.2.1,v.2.2.1,v.2.2.2.1,v.2.2.2.2.1,v.2.2.2.2.2))))))
def qHE:((Int×BA×Int×Bool×Nat×RW)⊕(BA×Int×Bool×Nat×RW))→Ex×St:=fun| .inl r=>(.ret,⟨[(2,(ci r.1))],[],[[(0,⟨0,4,50,(.box [(vs r.2.1),(vi r.2.2.1),(vb r.2.2.2.1),(.own 0 1 1 r.2.2.2.2.1)])⟩),(1,⟨1,14,64,(.row r.2.2.2.2.2)⟩)]]⟩)| .inr r=>(fun r=>((.exit 0),⟨[(0,(.c (.ptr 0 0 0 0 0)))],[],[[(0,⟨0,4,50,(.box [(vs r.1),(vi r.2.1),(vb r.2.2.1),(.own 0 1 1 r.2.2.2.1)])⟩),(1,⟨1,14,64,(.row r.2.2.2.2)⟩)]]⟩)) r
def qU4:((Int×BA×Int×Bool×Nat×RW)⊕(BA×Int×Bool×Nat×RW))→Tr (Ex×St):=fun r=> .alt r (fun r=> .done (qHE (.inl r))) (fun r=> .done (qHE (.inr r)))
def qMJ:zw→Option (BA×BA×Int×Bool×Nat×RW)
 |([[[]],[[.s w0]]],[],[[[[.s w1],[.i w2],[.b w3],[.n w4]],[[.r w5]]]])=>some (w0,w1,w2,w3,w4,w5)
 |_=>none
abbrev qMK (n:Nat):St→Tr (Ex×St):=zp (qHD (⟨#[]⟩,⟨#[]⟩,0,false,0,[])) qMJ (qD3 n) qU4 n
abbrev qP3 (n:Nat):za:=zN [(14,qMK n)]
def qRx (n:Nat) (x0:BA) (x1:Int) (x2:Bool) (x3:Nat) (x4:RW):Tr (Int×BA×Int×Bool×Nat×RW):=(.opt (zL (qD3 n) n ((⟨#[]⟩:BA),x0,x1,x2,x3,x4)) fun r37=>(.alt r37 (fun r38=>(.done (r38.1,r38.2.1,r38.2.2.1,r38.2.2.2.1,r38.2.2.2.2.1,r38.2.2.2.2.2))) (fun r39=>(.done ((0:Int),r39.1,r39.2.1,true,r39.2.2.2.1,r39.2.2.2.2)))))
def qGZ:Nat→BA→Int→Bool→Nat→RW→Option (Int×BA×Int×Bool×Nat×RW)
 |0,_,_,_,_,_=>none
 |n+1,x0,x1,x2,x3,x4=>(qRx n x0 x1 x2 x3 x4).run
theorem qY1 (n:Nat) (x0:BA) (x1:Int) (x2:Bool) (x3:Nat) (x4:RW):ze (qJW n) (qP3 n) qEK (qGX x0 x1 x2 x3 x4) (qGY x0 x1 x2 x3 x4)=(qRx n x0 x1 x2 x3 x4).bind fun r=> .done (qK4 r):=by kernel_rfl
theorem qP4 (n:Nat):zW (qJW n) (Rn n):=zA (qEO n (zB)) (zG)
theorem qU5 (n:Nat) (v:BA×BA×Int×Bool×Nat×RW):(zf (qJW n) (zN []) qFx (qHD v) []).bind (zx [0,3] [(.ret,[2]),((.exit 0),[0])])=(qD3 n v).bind (zAQ qHD qHE):=by
 obtain ⟨w0,w1,w2,w3,w4,w5⟩:=v
 kernel_rfl
theorem qU6 (n:Nat):zAX (Rn n) n (14,[0,3],[(.ret,[2]),((.exit 0),[0])],qFx) (qMK n):=fun st e s h=>
 zh (qP4 n) (zI rfl) (qU5 n) (fun r=>by
  rcases r with r|r<;>(intro h;cases h)) (fun r y h=>by
  rcases r with r|r<;>(cases h;rfl)) (fun hs v h=>by
  unfold qMJ at h
  split at h<;>cases h
  rfl) h
theorem qY2 (n:Nat):zAK (qP3 n) (Rn n) n qEK.body:=lt1 rfl (qU6 n)
theorem qY3:∀(n:Nat) (x0:BA) (x1:Int) (x2:Bool) (x3:Nat) (x4:RW) r,qGZ n x0 x1 x2 x3 x4=some r→Rn n 129 (qGX x0 x1 x2 x3 x4) (qGY x0 x1 x2 x3 x4)=some (qK4 r)
 |0,x0,x1,x2,x3,x4,r,h=>by cases h
 |n+1,x0,x1,x2,x3,x4,r,h=>zH (kf:=qEK) rfl (qP4 n) (qY2 n) (qY1 n x0 x1 x2 x3 x4) h
def qP5 (n:Nat):zS→Option (Int×BA×Int×Bool×Nat×RW)
 |([[[]]],[[[[.s x0],[.i x1],[.b x2],[.n x3]],[[.r x4]]]])=>qGZ n x0 x1 x2 x3 x4
 |_=>none
def qRy (n:Nat) (d:ED):ED:=zR (qGX (⟨#[]⟩) (0) (false) (0) ([])) (qGY (⟨#[]⟩) (0) (false) (0) ([])) (qP5 n) qK4 d
theorem qY4 (n:Nat) {d:ED} (hd:RK n 129 d):RK n 129 (qRy n d):=
 zF (fun hs r h=>by unfold qP5 at h;split at h;exact ⟨qGX _ _ _ _ _,qGY _ _ _ _ _,rfl,rfl,qY3 n _ _ _ _ _ r h⟩;cases h) hd
def qLv (x0:Int):List AV:= [(ci x0)]
def qLw (x0:Int):FR:= []
def qRB (r:BA):Res:=⟨(cs r),[],[]⟩
abbrev qU7 (n:Nat):zX:=zd []
abbrev qco (n:Nat):za:=zN []
def qRC (n:Nat) (x0:Int):Tr (BA):=(.ask (decide (6=([[(.s (⟨#[]⟩:BA))],[(.s (⟨#[35,68,73,86,33]⟩:BA))],[(.s (⟨#[35,84,89,80,69,33]⟩:BA))],[(.s (⟨#[35,82,69,70,33]⟩:BA))],[(.s (⟨#[35,79,86,69,82,33]⟩:BA))],[(.s (⟨#[35,67,89,67,76,69,33]⟩:BA))]]:RW).length∧0≤x0∧x0<((6:Nat):Int))) (.opt (([[(.s (⟨#[]⟩:BA))],[(.s (⟨#[35,68,73,86,33]⟩:BA))],[(.s (⟨#[35,84,89,80,69,33]⟩:BA))],[(.s (⟨#[35,82,69,70,33]⟩:BA))],[(.s (⟨#[35,79,86,69,82,33]⟩:BA))],[(.s (⟨#[35,67,89,67,76,69,33]⟩:BA))]]:RW)[(x0).toNat]?) fun e42=>(.opt (zAv e42 0) fun y43=>(.done y43))) .fail)
def qBO:Nat→Int→Option (BA)
 |0,_=>none
 |n+1,x0=>(qRC n x0).run
theorem qcp (n:Nat) (x0:Int):ze (qU7 n) (qco n) qLo (qLv x0) (qLw x0)=(qRC n x0).bind fun r=> .done (qRB r):=by kernel_rfl
theorem qcq (n:Nat):zW (qU7 n) (Rn n):=zG
theorem qcr:∀(n:Nat) (x0:Int) r,qBO n x0=some r→Rn n 116 (qLv x0) (qLw x0)=some (qRB r)
 |0,x0,r,h=>by cases h
 |n+1,x0,r,h=>zH (kf:=qLo) rfl (qcq n) (zI rfl) (qcp n x0) h
def qU8 (n:Nat):zS→Option (BA)
 |([[[.i x0]]],[])=>qBO n x0
 |_=>none
def qLx (n:Nat) (d:ED):ED:=zR (qLv (0)) (qLw (0)) (qU8 n) qRB d
theorem qOY (n:Nat) {d:ED} (hd:RK n 116 d):RK n 116 (qLx n d):=
 zF (fun hs r h=>by unfold qU8 at h;split at h;exact ⟨qLv _,qLw _,rfl,rfl,qcr n _ r h⟩;cases h) hd
def qJX (x0:Int):List AV:= [(ci x0)]
def qJY (x0:Int):FR:= []
def qOZ (r:Int×Int×BA):Res:=⟨(.agg [(vi r.1),(vi r.2.1),(vs r.2.2)]),[],[]⟩
abbrev qTa (n:Nat):zX:=zd []
abbrev qbb (n:Nat):za:=zN []
def qOa (n:Nat) (x0:Int):Tr (Int×Int×BA):=(.done ((4:Int),x0,(⟨#[]⟩:BA)))
def qC2:Nat→Int→Option (Int×Int×BA)
 |0,_=>none
 |n+1,x0=>(qOa n x0).run
theorem qbc (n:Nat) (x0:Int):ze (qTa n) (qbb n) qJJ (qJX x0) (qJY x0)=(qOa n x0).bind fun r=> .done (qOZ r):=by kernel_rfl
theorem qbd (n:Nat):zW (qTa n) (Rn n):=zG
theorem qbe:∀(n:Nat) (x0:Int) r,qC2 n x0=some r→Rn n 130 (qJX x0) (qJY x0)=some (qOZ r)
 |0,x0,r,h=>by cases h
 |n+1,x0,r,h=>zH (kf:=qJJ) rfl (qbd n) (zI rfl) (qbc n x0) h
def qTb (n:Nat):zS→Option (Int×Int×BA)
 |([[[.i x0]]],[])=>qC2 n x0
 |_=>none
def qU9 (n:Nat) (d:ED):ED:=zR (qJX (0)) (qJY (0)) (qTb n) qOZ d
theorem qbf (n:Nat) {d:ED} (hd:RK n 130 d):RK n 130 (qU9 n d):=
 zF (fun hs r h=>by unfold qTb at h;split at h;exact ⟨qJX _,qJY _,rfl,rfl,qbe n _ r h⟩;cases h) hd
def qGa (x0:BA) (x1:Int) (x2:Bool) (x3:Nat) (x4:RW):List AV:= [(.c (.ptr 0 0 0 0 0))]
def qGb (x0:BA) (x1:Int) (x2:Bool) (x3:Nat) (x4:RW):FR:= [[(0,⟨0,4,50,(.box [(vs x0),(vi x1),(vb x2),(.own 0 1 1 x3)])⟩),(1,⟨1,14,64,(.row x4)⟩)]]
def qK5 (r:BA×BA×Int×Bool×Nat×RW):Res:=⟨(cs r.1),[[(0,⟨0,4,50,(.box [(vs r.2.1),(vi r.2.2.1),(vb r.2.2.2.1),(.own 0 1 1 r.2.2.2.2.1)])⟩),(1,⟨1,14,64,(.row r.2.2.2.2.2)⟩)]],[]⟩
abbrev qJZ (n:Nat):zX:=zd []
def qHF (v:Int×BA×Int×Bool×Nat×RW):St:=⟨[(0,(.c (.ptr 0 0 0 0 0))),(3,(ci v.1))],[],[[(0,⟨0,4,50,(.box [(vs v.2.1),(vi v.2.2.1),(vb v.2.2.2.1),(.own 0 1 1 v.2.2.2.2.1)])⟩),(1,⟨1,14,64,(.row v.2.2.2.2.2)⟩)]]⟩
def qBq (n:Nat) (v:Int×BA×Int×Bool×Nat×RW):Tr ((Int×BA×Int×Bool×Nat×RW)⊕((Int×BA×Int×Bool×Nat×RW))):=(.ask ((decide (v.2.2.1<(v.2.1.size:Int)))) (.ask (decide (0≤v.2.2.1)) (.opt (v.2.1.toList[(v.2.2.1).toNat]?) fun c48=>(.ask ((decide ((c48.toNat:Int)≥(65:Int)))) (.ask (decide (0≤v.2.2.1)) (.opt (v.2.1.toList[(v.2.2.1).toNat]?) fun c49=>(.ask ((decide ((c49.toNat:Int)≤(90:Int)))) (.done (.inl (v.1,v.2.1,(IntKind.i64.wrap (v.2.2.1+(1:Int))),v.2.2.2.1,v.2.2.2.2.1,v.2.2.2.2.2))) (.ask (decide (0≤v.2.2.1)) (.opt (v.2.1.toList[(v.2.2.1).toNat]?) fun c50=>(.ask ((decide ((c50.toNat:Int)≥(48:Int)))) (.ask (decide (0≤v.2.2.1)) (.opt (v.2.1.toList[(v.2.2.1).toNat]?) fun c51=>(.ask ((decide ((c51.toNat:Int)≤(57:Int)))) (.done (.inl (v.1,v.2.1,(IntKind.i64.wrap (v.2.2.1+(1:Int))),v.2.2.2.1,v.2.2.2.2.1,v.2.2.2.2.2))) (.ask (decide (0≤v.2.2.1)) (.opt (v.2.1.toList[(v.2.2.1).toNat]?) fun c52=>(.ask (((c52.toNat:Int)==(36:Int))) (.done (.inl (v.1,v.2.1,(IntKind.i64.wrap (v.2.2.1+(1:Int))),v.2.2.2.1,v.2.2.2.2.1,v.2.2.2.2.2))) (.done (.inr ((v.1,v.2.1,v.2.2.1,v.2.2.2.1,v.2.2.2.2.1,v.2.2.2.2.2)))))) .fail))) .fail) (.ask (decide (0≤v.2.2.1)) (.opt (v.2.1.toList[(v.2.2.1).toNat]?) fun c53=>(.ask (((c53.toNat:Int)==(36:Int))) (.done (.inl (v.1,v.2.1,(IntKind.i64.wrap (v.2.2.1+(1:Int))),v.2.2.2.1,v.2.2.2.2.1,v.2.2.2.2.2))) (.done (.inr ((v.1,v.2.1,v.2.2.1,v.2.2.2.1,v.2.2.2.2.1,v.2.2.2.2.2)))))) .fail))) .fail))) .fail) (.ask (decide (0≤v.2.2.1)) (.opt (v.2.1.toList[(v.2.2.1).toNat]?) fun c54=>(.ask ((decide ((c54.toNat:Int)≥(48:Int)))) (.ask (decide (0≤v.2.2.1)) (.opt (v.2.1.toList[(v.2.2.1).toNat]?) fun c55=>(.ask ((decide ((c55.toNat:Int)≤(57:Int)))) (.done (.inl (v.1,v.2.1,(IntKind.i64.wrap (v.2.2.1+(1:Int))),v.2.2.2.1,v.2.2.2.2.1,v.2.2.2.2.2))) (.ask (decide (0≤v.2.2.1)) (.opt (v.2.1.toList[(v.2.2.1).toNat]?) fun c56=>(.ask (((c56.toNat:Int)==(36:Int))) (.done (.inl (v.1,v.2.1,(IntKind.i64.wrap (v.2.2.1+(1:Int))),v.2.2.2.1,v.2.2.2.2.1,v.2.2.2.2.2))) (.done (.inr ((v.1,v.2.1,v.2.2.1,v.2.2.2.1,v.2.2.2.2.1,v.2.2.2.2.2)))))) .fail))) .fail) (.ask (decide (0≤v.2.2.1)) (.opt (v.2.1.toList[(v.2.2.1).toNat]?) fun c57=>(.ask (((c57.toNat:Int)==(36:Int))) (.done (.inl (v.1,v.2.1,(IntKind.i64.wrap (v.2.2.1+(1:Int))),v.2.2.2.1,v.2.2.2.2.1,v.2.2.2.2.2))) (.done (.inr ((v.1,v.2.1,v.2.2.1,v.2.2.2.1,v.2.2.2.2.1,v.2.2.2.2.2)))))) .fail))) .fail))) .fail) (.done (.inr ((v.1,v.2.1,v.2.2.1,v.2.2.2.1,v.2.2.2.2.1,v.2.2.2.2.2)))))
def qNK:(Int×BA×Int×Bool×Nat×RW)→Ex×St:=fun r=>((.exit 0),⟨[(0,(.c (.ptr 0 0 0 0 0))),(3,(ci r.1))],[],[[(0,⟨0,4,50,(.box [(vs r.2.1),(vi r.2.2.1),(vb r.2.2.2.1),(.own 0 1 1 r.2.2.2.2.1)])⟩),(1,⟨1,14,64,(.row r.2.2.2.2.2)⟩)]]⟩)
def qVA:(Int×BA×Int×Bool×Nat×RW)→Tr (Ex×St):=fun r=> .done (qNK r)
def qML:zw→Option (Int×BA×Int×Bool×Nat×RW)
 |([[[]],[[.i w0]]],[],[[[[.s w1],[.i w2],[.b w3],[.n w4]],[[.r w5]]]])=>some (w0,w1,w2,w3,w4,w5)
 |_=>none
abbrev qMM (n:Nat):St→Tr (Ex×St):=zp (qHF (0,⟨#[]⟩,0,false,0,[])) qML (qBq n) qVA n
abbrev qP6 (n:Nat):za:=zN [(14,qMM n)]
def qRz (n:Nat) (x0:BA) (x1:Int) (x2:Bool) (x3:Nat) (x4:RW):Tr (BA×BA×Int×Bool×Nat×RW):=(.opt (zL (qBq n) n (x1,x0,x1,x2,x3,x4)) fun r58=>(.ask (decide (0≤r58.1∧r58.1≤r58.2.2.1∧r58.2.2.1≤r58.2.1.size)) (.done ((r58.2.1.extract (r58.1).toNat (r58.2.2.1).toNat),r58.2.1,r58.2.2.1,r58.2.2.2.1,r58.2.2.2.2.1,r58.2.2.2.2.2)) .fail))
def qCt:Nat→BA→Int→Bool→Nat→RW→Option (BA×BA×Int×Bool×Nat×RW)
 |0,_,_,_,_,_=>none
 |n+1,x0,x1,x2,x3,x4=>(qRz n x0 x1 x2 x3 x4).run
theorem qY5 (n:Nat) (x0:BA) (x1:Int) (x2:Bool) (x3:Nat) (x4:RW):ze (qJZ n) (qP6 n) qEL (qGa x0 x1 x2 x3 x4) (qGb x0 x1 x2 x3 x4)=(qRz n x0 x1 x2 x3 x4).bind fun r=> .done (qK5 r):=by kernel_rfl
theorem qP7 (n:Nat):zW (qJZ n) (Rn n):=zG
theorem qVB (n:Nat) (v:Int×BA×Int×Bool×Nat×RW):(zf (qJZ n) (zN []) qFy (qHF v) []).bind (zx [0,3] [(.ret,[2]),((.exit 0),[0,3])])=(qBq n v).bind (zAQ qHF qNK):=by
 obtain ⟨w0,w1,w2,w3,w4,w5⟩:=v
 kernel_rfl
theorem qVC (n:Nat):zAX (Rn n) n (14,[0,3],[(.ret,[2]),((.exit 0),[0,3])],qFy) (qMM n):=fun st e s h=>
 zh (qP7 n) (zI rfl) (qVB n) (fun r h=>by cases h) (fun r y h=>by cases h;rfl) (fun hs v h=>by
  unfold qML at h
  split at h<;>cases h
  rfl) h
theorem qY6 (n:Nat):zAK (qP6 n) (Rn n) n qEL.body:=lt1 rfl (qVC n)
theorem qY7:∀(n:Nat) (x0:BA) (x1:Int) (x2:Bool) (x3:Nat) (x4:RW) r,qCt n x0 x1 x2 x3 x4=some r→Rn n 131 (qGa x0 x1 x2 x3 x4) (qGb x0 x1 x2 x3 x4)=some (qK5 r)
 |0,x0,x1,x2,x3,x4,r,h=>by cases h
 |n+1,x0,x1,x2,x3,x4,r,h=>zH (kf:=qEL) rfl (qP7 n) (qY6 n) (qY5 n x0 x1 x2 x3 x4) h
def qP8 (n:Nat):zS→Option (BA×BA×Int×Bool×Nat×RW)
 |([[[]]],[[[[.s x0],[.i x1],[.b x2],[.n x3]],[[.r x4]]]])=>qCt n x0 x1 x2 x3 x4
 |_=>none
def qK6 (n:Nat) (d:ED):ED:=zR (qGa (⟨#[]⟩) (0) (false) (0) ([])) (qGb (⟨#[]⟩) (0) (false) (0) ([])) (qP8 n) qK5 d
theorem qP9 (n:Nat) {d:ED} (hd:RK n 131 d):RK n 131 (qK6 n d):=
 zF (fun hs r h=>by unfold qP8 at h;split at h;exact ⟨qGa _ _ _ _ _,qGb _ _ _ _ _,rfl,rfl,qY7 n _ _ _ _ _ r h⟩;cases h) hd
def qQA (x0:Int):List AV:= [(ci x0)]
def qQB (x0:Int):FR:= []
def qVD (r:BA):Res:=⟨(cs r),[],[]⟩
abbrev qY8 (n:Nat):zX:=zd []
abbrev qes (n:Nat):za:=zN []
def qVE (n:Nat) (x0:Int):Tr (BA):=(.ask (decide (11=([[(.s (⟨#[]⟩:BA))],[(.s (⟨#[83,85,77]⟩:BA))],[(.s (⟨#[77,73,78]⟩:BA))],[(.s (⟨#[77,65,88]⟩:BA))],[(.s (⟨#[67,79,85,78,84]⟩:BA))],[(.s (⟨#[73,70]⟩:BA))],[(.s (⟨#[65,78,68]⟩:BA))],[(.s (⟨#[79,82]⟩:BA))],[(.s (⟨#[78,79,84]⟩:BA))],[(.s (⟨#[65,66,83]⟩:BA))],[(.s (⟨#[76,69,78]⟩:BA))]]:RW).length∧0≤x0∧x0<((11:Nat):Int))) (.opt (([[(.s (⟨#[]⟩:BA))],[(.s (⟨#[83,85,77]⟩:BA))],[(.s (⟨#[77,73,78]⟩:BA))],[(.s (⟨#[77,65,88]⟩:BA))],[(.s (⟨#[67,79,85,78,84]⟩:BA))],[(.s (⟨#[73,70]⟩:BA))],[(.s (⟨#[65,78,68]⟩:BA))],[(.s (⟨#[79,82]⟩:BA))],[(.s (⟨#[78,79,84]⟩:BA))],[(.s (⟨#[65,66,83]⟩:BA))],[(.s (⟨#[76,69,78]⟩:BA))]]:RW)[(x0).toNat]?) fun e60=>(.opt (zAv e60 0) fun y61=>(.done y61))) .fail)
def qCp:Nat→Int→Option (BA)
 |0,_=>none
 |n+1,x0=>(qVE n x0).run
theorem qet (n:Nat) (x0:Int):ze (qY8 n) (qes n) qPz (qQA x0) (qQB x0)=(qVE n x0).bind fun r=> .done (qVD r):=by kernel_rfl
theorem qeu (n:Nat):zW (qY8 n) (Rn n):=zG
theorem qev:∀(n:Nat) (x0:Int) r,qCp n x0=some r→Rn n 110 (qQA x0) (qQB x0)=some (qVD r)
 |0,x0,r,h=>by cases h
 |n+1,x0,r,h=>zH (kf:=qPz) rfl (qeu n) (zI rfl) (qet n x0) h
def qY9 (n:Nat):zS→Option (BA)
 |([[[.i x0]]],[])=>qCp n x0
 |_=>none
def qVF (n:Nat) (d:ED):ED:=zR (qQA (0)) (qQB (0)) (qY9 n) qVD d
theorem qZA (n:Nat) {d:ED} (hd:RK n 110 d):RK n 110 (qVF n d):=
 zF (fun hs r h=>by unfold qY9 at h;split at h;exact ⟨qQA _,qQB _,rfl,rfl,qev n _ r h⟩;cases h) hd
def qJa (x0:Int):List AV:= [(ci x0)]
def qJb (x0:Int):FR:= []
def qOb (r:BA):Res:=⟨(cs r),[],[]⟩
abbrev qMy (n:Nat):zX:=zd [(53,qIo n (zD))]
def qJc (v:Int×BA):St:=⟨[(0,(ci v.1)),(3,(cs v.2))],[],[]⟩
def qBL (n:Nat) (v:Int×BA):Tr ((Int×BA)⊕((BA))):=(.ask ((decide (v.1>(0:Int)))) (.ask (decide (1=([[(.i .u8 (IntKind.u8.wrap (IntKind.i64.wrap ((65:Int)+(Int.tmod (IntKind.i64.wrap (v.1-(1:Int))) (26:Int))))))]]:RW).length)) (.opt (bytesOf ([[(.i .u8 (IntKind.u8.wrap (IntKind.i64.wrap ((65:Int)+(Int.tmod (IntKind.i64.wrap (v.1-(1:Int))) (26:Int))))))]]:RW)) fun l71=>(.ask (decide ((⟨l71.toArray⟩:BA).size+v.2.size≤9223372036854775807)) (.done (.inl ((IntKind.i64.wrap (Int.tdiv (IntKind.i64.wrap (v.1-(1:Int))) (26:Int))),((⟨l71.toArray⟩:BA)++v.2)))) .fail)) .fail) (.done (.inr (v.2))))
def qQC:(BA)→Ex×St:=fun r=>((.exit 0),⟨[(3,(cs r))],[],[]⟩)
def qYR:(BA)→Tr (Ex×St):=fun r=> .done (qQC r)
def qOc:zw→Option (Int×BA)
 |([[[.i w0]],[[.s w1]]],[],[])=>some (w0,w1)
 |_=>none
abbrev qOd (n:Nat):St→Tr (Ex×St):=zp (qJc (0,⟨#[]⟩)) qOc (qBL n) qYR n
abbrev qTc (n:Nat):za:=zN [(30,qOd n)]
def qJd (n:Nat) (x0:Int):Tr (BA):=(.opt (qBK n x0 (1:Int) (52:Int)) fun r70=>(.ask ((!r70)) (.done (⟨#[]⟩:BA)) (.opt (zL (qBL n) n (x0,(⟨#[]⟩:BA))) fun r72=>(.done r72))))
def qC3:Nat→Int→Option (BA)
 |0,_=>none
 |n+1,x0=>(qJd n x0).run
theorem qbg (n:Nat) (x0:Int):ze (qMy n) (qTc n) qF1 (qJa x0) (qJb x0)=(qJd n x0).bind fun r=> .done (qOb r):=by kernel_rfl
theorem qTd (n:Nat):zW (qMy n) (Rn n):=zA (qJS n (zB)) (zG)
theorem qYS (n:Nat) (v:Int×BA):(zf (qMy n) (zN []) qIH (qJc v) []).bind (zx [0,3] [(.ret,[2]),((.exit 0),[3])])=(qBL n v).bind (zAQ qJc qQC):=by
 obtain ⟨w0,w1⟩:=v
 kernel_rfl
theorem qYT (n:Nat):zAX (Rn n) n (30,[0,3],[(.ret,[2]),((.exit 0),[3])],qIH) (qOd n):=fun st e s h=>
 zh (qTd n) (zI rfl) (qYS n) (fun r h=>by cases h) (fun r y h=>by cases h;rfl) (fun hs v h=>by
  unfold qOc at h
  split at h<;>cases h
  rfl) h
theorem qbh (n:Nat):zAK (qTc n) (Rn n) n qF1.body:=lt1 rfl (qYT n)
theorem qbi:∀(n:Nat) (x0:Int) r,qC3 n x0=some r→Rn n 139 (qJa x0) (qJb x0)=some (qOb r)
 |0,x0,r,h=>by cases h
 |n+1,x0,r,h=>zH (kf:=qF1) rfl (qTd n) (qbh n) (qbg n x0) h
def qTe (n:Nat):zS→Option (BA)
 |([[[.i x0]]],[])=>qC3 n x0
 |_=>none
def qOe (n:Nat) (d:ED):ED:=zR (qJa (0)) (qJb (0)) (qTe n) qOb d
theorem qTf (n:Nat) {d:ED} (hd:RK n 139 d):RK n 139 (qOe n d):=
 zF (fun hs r h=>by unfold qTe at h;split at h;exact ⟨qJa _,qJb _,rfl,rfl,qbi n _ r h⟩;cases h) hd
def qJe (x0:BA):List AV:= [(cs x0)]
def qJf (x0:BA):FR:= []
def qOf (r:Int):Res:=⟨(ci r),[],[]⟩
abbrev qMz (n:Nat):zX:=zd [(139,qOe n (zD))]
def qJg (v:BA×Int):St:=⟨[(0,(cs v.1)),(3,(ci v.2))],[],[]⟩
def qCN (n:Nat) (v:BA×Int):Tr ((BA×Int)⊕((Int)⊕(Unit))):=(.ask ((decide (v.2≤(52:Int)))) (.opt (qC3 n v.2) fun r70=>(.ask ((r70.toList==v.1.toList)) (.done (.inr (.inl (v.2)))) (.done (.inl (v.1,(IntKind.i64.wrap (v.2+(1:Int)))))))) (.done (.inr (.inr (())))))
def qJh:((Int)⊕(Unit))→Ex×St:=fun| .inl r=>(.ret,⟨[(2,(ci r))],[],[]⟩)| .inr r=>(fun r=>((.exit 0),⟨[],[],[]⟩)) r
def qYU:((Int)⊕(Unit))→Tr (Ex×St):=fun r=> .alt r (fun r=> .done (qJh (.inl r))) (fun r=> .done (qJh (.inr r)))
def qOg:zw→Option (BA×Int)
 |([[[.s w0]],[[.i w1]]],[],[])=>some (w0,w1)
 |_=>none
abbrev qOh (n:Nat):St→Tr (Ex×St):=zp (qJg (⟨#[]⟩,0)) qOg (qCN n) qYU n
abbrev qTg (n:Nat):za:=zN [(13,qOh n)]
def qOi (n:Nat) (x0:BA):Tr (Int):=(.opt (zL (qCN n) n (x0,(1:Int))) fun r71=>(.alt r71 (fun r72=>(.done r72)) (fun r73=>(.done (0:Int)))))
def qCF:Nat→BA→Option (Int)
 |0,_=>none
 |n+1,x0=>(qOi n x0).run
theorem qbj (n:Nat) (x0:BA):ze (qMz n) (qTg n) qF2 (qJe x0) (qJf x0)=(qOi n x0).bind fun r=> .done (qOf r):=by kernel_rfl
theorem qTh (n:Nat):zW (qMz n) (Rn n):=zA (qTf n (zB)) (zG)
theorem qYV (n:Nat) (v:BA×Int):(zf (qMz n) (zN []) qII (qJg v) []).bind (zx [0,3] [(.ret,[2]),((.exit 0),[])])=(qCN n v).bind (zAQ qJg qJh):=by
 obtain ⟨w0,w1⟩:=v
 kernel_rfl
theorem qYW (n:Nat):zAX (Rn n) n (13,[0,3],[(.ret,[2]),((.exit 0),[])],qII) (qOh n):=fun st e s h=>
 zh (qTh n) (zI rfl) (qYV n) (fun r=>by
  rcases r with r|r<;>(intro h;cases h)) (fun r y h=>by
  rcases r with r|r<;>(cases h;rfl)) (fun hs v h=>by
  unfold qOg at h
  split at h<;>cases h
  rfl) h
theorem qbk (n:Nat):zAK (qTg n) (Rn n) n qF2.body:=lt1 rfl (qYW n)
theorem qbl:∀(n:Nat) (x0:BA) r,qCF n x0=some r→Rn n 160 (qJe x0) (qJf x0)=some (qOf r)
 |0,x0,r,h=>by cases h
 |n+1,x0,r,h=>zH (kf:=qF2) rfl (qTh n) (qbk n) (qbj n x0) h
def qTi (n:Nat):zS→Option (Int)
 |([[[.s x0]]],[])=>qCF n x0
 |_=>none
def qVG (n:Nat) (d:ED):ED:=zR (qJe (⟨#[]⟩)) (qJf (⟨#[]⟩)) (qTi n) qOf d
theorem qbm (n:Nat) {d:ED} (hd:RK n 160 d):RK n 160 (qVG n d):=
 zF (fun hs r h=>by unfold qTi at h;split at h;exact ⟨qJe _,qJf _,rfl,rfl,qbl n _ r h⟩;cases h) hd
def qN8 (x0:BA) (x1:Int):List AV:= [(cs x0),(ci x1)]
def qN9 (x0:BA) (x1:Int):FR:= []
def qSq (r:Int×Bool):Res:=⟨(.tup [(false,[(vi r.1)]),(false,[(vb r.2)])]),[],[]⟩
abbrev qRD (n:Nat):zX:=zd []
def qM0 (v:BA×Int×Int):St:=⟨[(0,(cs v.1)),(6,(ci v.2.1)),(7,(ci v.2.2))],[],[]⟩
def qBS (n:Nat) (v:BA×Int×Int):Tr ((BA×Int×Int)⊕((Int×Bool)⊕(Int))):=(.ask ((decide (v.2.2<(v.1.size:Int)))) (.ask (decide (0≤v.2.2)) (.opt (v.1.toList[(v.2.2).toNat]?) fun c77=>(.ask ((decide ((c77.toNat:Int)<(48:Int)))) (.done (.inr (.inl (((0:Int),false))))) (.ask (decide (0≤v.2.2)) (.opt (v.1.toList[(v.2.2).toNat]?) fun c78=>(.ask ((decide ((c78.toNat:Int)>(57:Int)))) (.done (.inr (.inl (((0:Int),false))))) (.ask (decide (0≤v.2.2)) (.opt (v.1.toList[(v.2.2).toNat]?) fun c79=>(.done (.inl (v.1,(IntKind.i64.wrap ((IntKind.i64.wrap (v.2.1*(10:Int)))+(IntKind.i64.wrap (IntKind.u8.wrap ((c79.toNat:Int)-(48:Int)))))),(IntKind.i64.wrap (v.2.2+(1:Int))))))) .fail))) .fail))) .fail) (.done (.inr (.inr (v.2.1)))))
def qM1:((Int×Bool)⊕(Int))→Ex×St:=fun| .inl r=>(.ret,⟨[(4,(ci r.1)),(5,(cb r.2))],[],[]⟩)| .inr r=>(fun r=>((.exit 0),⟨[(6,(ci r))],[],[]⟩)) r
def qaY:((Int×Bool)⊕(Int))→Tr (Ex×St):=fun r=> .alt r (fun r=> .done (qM1 (.inl r))) (fun r=> .done (qM1 (.inr r)))
def qR0:zw→Option (BA×Int×Int)
 |([[[.s w0]],[[.i w1]],[[.i w2]]],[],[])=>some (w0,w1,w2)
 |_=>none
abbrev qR1 (n:Nat):St→Tr (Ex×St):=zp (qM0 (⟨#[]⟩,0,0)) qR0 (qBS n) qaY n
abbrev qXr (n:Nat):za:=zN [(61,qR1 n)]
def qJi (n:Nat) (x0:BA) (x1:Int):Tr (Int×Bool):=(.ask ((decide ((x0.size:Int)<(1:Int)))) (.done ((0:Int),false)) (.ask ((decide ((x0.size:Int)>x1))) (.done ((0:Int),false)) (.ask (decide (0≤(0:Int))) (.opt (x0.toList[((0:Int)).toNat]?) fun c76=>(.ask (((c76.toNat:Int)==(48:Int))) (.ask ((decide ((x0.size:Int)>(1:Int)))) (.done ((0:Int),false)) (.opt (zL (qBS n) n (x0,(0:Int),(0:Int))) fun r80=>(.alt r80 (fun r81=>(.done (r81.1,r81.2))) (fun r82=>(.done (r82,true)))))) (.opt (zL (qBS n) n (x0,(0:Int),(0:Int))) fun r83=>(.alt r83 (fun r84=>(.done (r84.1,r84.2))) (fun r85=>(.done (r85,true))))))) .fail)))
def qn:Nat→BA→Int→Option (Int×Bool)
 |0,_,_=>none
 |n+1,x0,x1=>(qJi n x0 x1).run
theorem qd0 (n:Nat) (x0:BA) (x1:Int):ze (qRD n) (qXr n) qJH (qN8 x0 x1) (qN9 x0 x1)=(qJi n x0 x1).bind fun r=> .done (qSq r):=by kernel_rfl
theorem qXs (n:Nat):zW (qRD n) (Rn n):=zG
theorem qaZ (n:Nat) (v:BA×Int×Int):(zf (qRD n) (zN []) qK3 (qM0 v) []).bind (zx [0,6,7] [(.ret,[4,5]),((.exit 0),[6])])=(qBS n v).bind (zAQ qM0 qM1):=by
 obtain ⟨w0,w1,w2⟩:=v
 kernel_rfl
theorem qaa (n:Nat):zAX (Rn n) n (61,[0,6,7],[(.ret,[4,5]),((.exit 0),[6])],qK3) (qR1 n):=fun st e s h=>
 zh (qXs n) (zI rfl) (qaZ n) (fun r=>by
  rcases r with r|r<;>(intro h;cases h)) (fun r y h=>by
  rcases r with r|r<;>(cases h;rfl)) (fun hs v h=>by
  unfold qR0 at h
  split at h<;>cases h
  rfl) h
theorem qd1 (n:Nat):zAK (qXr n) (Rn n) n qJH.body:=lt1 rfl (qaa n)
theorem qd2:∀(n:Nat) (x0:BA) (x1:Int) r,qn n x0 x1=some r→Rn n 114 (qN8 x0 x1) (qN9 x0 x1)=some (qSq r)
 |0,x0,x1,r,h=>by cases h
 |n+1,x0,x1,r,h=>zH (kf:=qJH) rfl (qXs n) (qd1 n) (qd0 n x0 x1) h
def qXt (n:Nat):zS→Option (Int×Bool)
 |([[[.s x0]],[[.i x1]]],[])=>qn n x0 x1
 |_=>none
def qOA (n:Nat) (d:ED):ED:=zR (qN8 (⟨#[]⟩) (0)) (qN9 (⟨#[]⟩) (0)) (qXt n) qSq d
theorem qRE (n:Nat) {d:ED} (hd:RK n 114 d):RK n 114 (qOA n d):=
 zF (fun hs r h=>by unfold qXt at h;split at h;exact ⟨qN8 _ _,qN9 _ _,rfl,rfl,qd2 n _ _ r h⟩;cases h) hd
def qGc (x0:BA):List AV:= [(cs x0)]
def qGd (x0:BA):FR:= []
def qK7 (r:Int×Int×Bool×Bool×Bool):Res:=⟨(.tup [(true,[(vi r.1),(vi r.2.1),(vb r.2.2.1),(vb r.2.2.2.1)]),(false,[(vb r.2.2.2.2)])]),[],[]⟩
abbrev qJj (n:Nat):zX:=zd [(160,qVG n (zD)),(114,qOA n (zD)),(74,qJV n (zD))]
def qHG (v:BA×Int×Int×Int×Bool×Bool×Int×Int×Bool×Bool):St:=⟨[(0,(cs v.1)),(2,(.c (.ptr 0 128 0 0 0))),(4,(.c (.ptr 0 256 0 0 0))),(5,(ci v.2.1))],[(128,⟨0,4,61,(.box [(vi v.2.2.1),(vi v.2.2.2.1),(vb v.2.2.2.2.1),(vb v.2.2.2.2.2.1)])⟩),(256,⟨0,4,61,(.box [(vi v.2.2.2.2.2.2.1),(vi v.2.2.2.2.2.2.2.1),(vb v.2.2.2.2.2.2.2.2.1),(vb v.2.2.2.2.2.2.2.2.2)])⟩)],[]⟩
def qAF (n:Nat) (v:BA×Int×Int×Int×Bool×Bool×Int×Int×Bool×Bool):Tr ((BA×Int×Int×Int×Bool×Bool×Int×Int×Bool×Bool)⊕((BA×Int×Int×Int×Bool×Bool×Int×Int×Bool×Bool))):=(.ask ((decide (v.2.1<(v.1.size:Int)))) (.ask (decide (0≤v.2.1)) (.opt (v.1.toList[(v.2.1).toNat]?) fun c67=>(.ask ((decide ((c67.toNat:Int)≥(65:Int)))) (.ask (decide (0≤v.2.1)) (.opt (v.1.toList[(v.2.1).toNat]?) fun c68=>(.ask ((decide ((c68.toNat:Int)≤(90:Int)))) (.done (.inl (v.1,(IntKind.i64.wrap (v.2.1+(1:Int))),v.2.2.1,v.2.2.2.1,v.2.2.2.2.1,v.2.2.2.2.2.1,v.2.2.2.2.2.2.1,v.2.2.2.2.2.2.2.1,v.2.2.2.2.2.2.2.2.1,v.2.2.2.2.2.2.2.2.2))) (.done (.inr ((v.1,v.2.1,v.2.2.1,v.2.2.2.1,v.2.2.2.2.1,v.2.2.2.2.2.1,v.2.2.2.2.2.2.1,v.2.2.2.2.2.2.2.1,v.2.2.2.2.2.2.2.2.1,v.2.2.2.2.2.2.2.2.2)))))) .fail) (.done (.inr ((v.1,v.2.1,v.2.2.1,v.2.2.2.1,v.2.2.2.2.1,v.2.2.2.2.2.1,v.2.2.2.2.2.2.1,v.2.2.2.2.2.2.2.1,v.2.2.2.2.2.2.2.2.1,v.2.2.2.2.2.2.2.2.2)))))) .fail) (.done (.inr ((v.1,v.2.1,v.2.2.1,v.2.2.2.1,v.2.2.2.2.1,v.2.2.2.2.2.1,v.2.2.2.2.2.2.1,v.2.2.2.2.2.2.2.1,v.2.2.2.2.2.2.2.2.1,v.2.2.2.2.2.2.2.2.2)))))
def qNL:(BA×Int×Int×Int×Bool×Bool×Int×Int×Bool×Bool)→Ex×St:=fun r=>((.exit 0),⟨[(0,(cs r.1)),(2,(.c (.ptr 0 128 0 0 0))),(4,(.c (.ptr 0 256 0 0 0))),(5,(ci r.2.1))],[(128,⟨0,4,61,(.box [(vi r.2.2.1),(vi r.2.2.2.1),(vb r.2.2.2.2.1),(vb r.2.2.2.2.2.1)])⟩),(256,⟨0,4,61,(.box [(vi r.2.2.2.2.2.2.1),(vi r.2.2.2.2.2.2.2.1),(vb r.2.2.2.2.2.2.2.2.1),(vb r.2.2.2.2.2.2.2.2.2)])⟩)],[]⟩)
def qVH:(BA×Int×Int×Int×Bool×Bool×Int×Int×Bool×Bool)→Tr (Ex×St):=fun r=> .done (qNL r)
def qMN:zw→Option (BA×Int×Int×Int×Bool×Bool×Int×Int×Bool×Bool)
 |([[[.s w0]],[[]],[[]],[[.i w1]]],[[[.i w2],[.i w3],[.b w4],[.b w5]],[[.i w6],[.i w7],[.b w8],[.b w9]]],[])=>some (w0,w1,w2,w3,w4,w5,w6,w7,w8,w9)
 |_=>none
abbrev qMO (n:Nat):St→Tr (Ex×St):=zp (qHG (⟨#[]⟩,0,0,0,false,false,0,0,false,false)) qMN (qAF n) qVH n
abbrev qQD (n:Nat):za:=zN [(62,qMO n)]
def qCu (n:Nat) (x0:BA):Tr (Int×Int×Bool×Bool×Bool):=(.ask ((decide ((x0.size:Int)>(0:Int)))) (.ask (decide (0≤(0:Int))) (.opt (x0.toList[((0:Int)).toNat]?) fun c66=>(.ask (((c66.toNat:Int)==(36:Int))) (.ask (decide (0≤(1:Int)∧(1:Int)≤(x0.size:Int)∧(x0.size:Int)≤x0.size)) (.opt (zL (qAF n) n ((x0.extract ((1:Int)).toNat ((x0.size:Int)).toNat),(0:Int),(0:Int),(0:Int),false,false,(0:Int),(0:Int),true,false)) fun r69=>(.ask (decide (0≤(0:Int)∧(0:Int)≤r69.2.1∧r69.2.1≤r69.1.size)) (.opt (qCF n (r69.1.extract ((0:Int)).toNat (r69.2.1).toNat)) fun r74=>(.ask (decide (0≤r69.2.1∧r69.2.1≤(r69.1.size:Int)∧(r69.1.size:Int)≤r69.1.size)) (.ask ((decide (((r69.1.extract (r69.2.1).toNat ((r69.1.size:Int)).toNat).size:Int)>(0:Int)))) (.ask (decide (0≤(0:Int))) (.opt ((r69.1.extract (r69.2.1).toNat ((r69.1.size:Int)).toNat).toList[((0:Int)).toNat]?) fun c75=>(.ask (((c75.toNat:Int)==(36:Int))) (.ask (decide (0≤(1:Int)∧(1:Int)≤((r69.1.extract (r69.2.1).toNat ((r69.1.size:Int)).toNat).size:Int)∧((r69.1.extract (r69.2.1).toNat ((r69.1.size:Int)).toNat).size:Int)≤(r69.1.extract (r69.2.1).toNat ((r69.1.size:Int)).toNat).size)) (.opt (qn n ((r69.1.extract (r69.2.1).toNat ((r69.1.size:Int)).toNat).extract ((1:Int)).toNat (((r69.1.extract (r69.2.1).toNat ((r69.1.size:Int)).toNat).size:Int)).toNat) (2:Int)) fun r86=>(.ask ((!r86.2)) (.done ((0:Int),(0:Int),false,false,false)) (.opt (qAR n r74 r86.1) fun r87=>(.ask ((!r87)) (.done ((0:Int),(0:Int),false,false,false)) (.done (r74,r86.1,r69.2.2.2.2.2.2.2.2.1,true,true)))))) .fail) (.opt (qn n (r69.1.extract (r69.2.1).toNat ((r69.1.size:Int)).toNat) (2:Int)) fun r88=>(.ask ((!r88.2)) (.done ((0:Int),(0:Int),false,false,false)) (.opt (qAR n r74 r88.1) fun r89=>(.ask ((!r89)) (.done ((0:Int),(0:Int),false,false,false)) (.done (r74,r88.1,r69.2.2.2.2.2.2.2.2.1,r69.2.2.2.2.2.2.2.2.2,true)))))))) .fail) (.opt (qn n (r69.1.extract (r69.2.1).toNat ((r69.1.size:Int)).toNat) (2:Int)) fun r90=>(.ask ((!r90.2)) (.done ((0:Int),(0:Int),false,false,false)) (.opt (qAR n r74 r90.1) fun r91=>(.ask ((!r91)) (.done ((0:Int),(0:Int),false,false,false)) (.done (r74,r90.1,r69.2.2.2.2.2.2.2.2.1,r69.2.2.2.2.2.2.2.2.2,true))))))) .fail)) .fail)) .fail) (.opt (zL (qAF n) n (x0,(0:Int),(0:Int),(0:Int),false,false,(0:Int),(0:Int),false,false)) fun r92=>(.ask (decide (0≤(0:Int)∧(0:Int)≤r92.2.1∧r92.2.1≤r92.1.size)) (.opt (qCF n (r92.1.extract ((0:Int)).toNat (r92.2.1).toNat)) fun r93=>(.ask (decide (0≤r92.2.1∧r92.2.1≤(r92.1.size:Int)∧(r92.1.size:Int)≤r92.1.size)) (.ask ((decide (((r92.1.extract (r92.2.1).toNat ((r92.1.size:Int)).toNat).size:Int)>(0:Int)))) (.ask (decide (0≤(0:Int))) (.opt ((r92.1.extract (r92.2.1).toNat ((r92.1.size:Int)).toNat).toList[((0:Int)).toNat]?) fun c94=>(.ask (((c94.toNat:Int)==(36:Int))) (.ask (decide (0≤(1:Int)∧(1:Int)≤((r92.1.extract (r92.2.1).toNat ((r92.1.size:Int)).toNat).size:Int)∧((r92.1.extract (r92.2.1).toNat ((r92.1.size:Int)).toNat).size:Int)≤(r92.1.extract (r92.2.1).toNat ((r92.1.size:Int)).toNat).size)) (.opt (qn n ((r92.1.extract (r92.2.1).toNat ((r92.1.size:Int)).toNat).extract ((1:Int)).toNat (((r92.1.extract (r92.2.1).toNat ((r92.1.size:Int)).toNat).size:Int)).toNat) (2:Int)) fun r95=>(.ask ((!r95.2)) (.done ((0:Int),(0:Int),false,false,false)) (.opt (qAR n r93 r95.1) fun r96=>(.ask ((!r96)) (.done ((0:Int),(0:Int),false,false,false)) (.done (r93,r95.1,r92.2.2.2.2.2.2.2.2.1,true,true)))))) .fail) (.opt (qn n (r92.1.extract (r92.2.1).toNat ((r92.1.size:Int)).toNat) (2:Int)) fun r97=>(.ask ((!r97.2)) (.done ((0:Int),(0:Int),false,false,false)) (.opt (qAR n r93 r97.1) fun r98=>(.ask ((!r98)) (.done ((0:Int),(0:Int),false,false,false)) (.done (r93,r97.1,r92.2.2.2.2.2.2.2.2.1,r92.2.2.2.2.2.2.2.2.2,true)))))))) .fail) (.opt (qn n (r92.1.extract (r92.2.1).toNat ((r92.1.size:Int)).toNat) (2:Int)) fun r99=>(.ask ((!r99.2)) (.done ((0:Int),(0:Int),false,false,false)) (.opt (qAR n r93 r99.1) fun r100=>(.ask ((!r100)) (.done ((0:Int),(0:Int),false,false,false)) (.done (r93,r99.1,r92.2.2.2.2.2.2.2.2.1,r92.2.2.2.2.2.2.2.2.2,true))))))) .fail)) .fail)))) .fail) (.opt (zL (qAF n) n (x0,(0:Int),(0:Int),(0:Int),false,false,(0:Int),(0:Int),false,false)) fun r101=>(.ask (decide (0≤(0:Int)∧(0:Int)≤r101.2.1∧r101.2.1≤r101.1.size)) (.opt (qCF n (r101.1.extract ((0:Int)).toNat (r101.2.1).toNat)) fun r102=>(.ask (decide (0≤r101.2.1∧r101.2.1≤(r101.1.size:Int)∧(r101.1.size:Int)≤r101.1.size)) (.ask ((decide (((r101.1.extract (r101.2.1).toNat ((r101.1.size:Int)).toNat).size:Int)>(0:Int)))) (.ask (decide (0≤(0:Int))) (.opt ((r101.1.extract (r101.2.1).toNat ((r101.1.size:Int)).toNat).toList[((0:Int)).toNat]?) fun qhi=>(.ask (((qhi.toNat:Int)==(36:Int))) (.ask (decide (0≤(1:Int)∧(1:Int)≤((r101.1.extract (r101.2.1).toNat ((r101.1.size:Int)).toNat).size:Int)∧((r101.1.extract (r101.2.1).toNat ((r101.1.size:Int)).toNat).size:Int)≤(r101.1.extract (r101.2.1).toNat ((r101.1.size:Int)).toNat).size)) (.opt (qn n ((r101.1.extract (r101.2.1).toNat ((r101.1.size:Int)).toNat).extract ((1:Int)).toNat (((r101.1.extract (r101.2.1).toNat ((r101.1.size:Int)).toNat).size:Int)).toNat) (2:Int)) fun r104=>(.ask ((!r104.2)) (.done ((0:Int),(0:Int),false,false,false)) (.opt (qAR n r102 r104.1) fun r105=>(.ask ((!r105)) (.done ((0:Int),(0:Int),false,false,false)) (.done (r102,r104.1,r101.2.2.2.2.2.2.2.2.1,true,true)))))) .fail) (.opt (qn n (r101.1.extract (r101.2.1).toNat ((r101.1.size:Int)).toNat) (2:Int)) fun r106=>(.ask ((!r106.2)) (.done ((0:Int),(0:Int),false,false,false)) (.opt (qAR n r102 r106.1) fun r107=>(.ask ((!r107)) (.done ((0:Int),(0:Int),false,false,false)) (.done (r102,r106.1,r101.2.2.2.2.2.2.2.2.1,r101.2.2.2.2.2.2.2.2.2,true)))))))) .fail) (.opt (qn n (r101.1.extract (r101.2.1).toNat ((r101.1.size:Int)).toNat) (2:Int)) fun r108=>(.ask ((!r108.2)) (.done ((0:Int),(0:Int),false,false,false)) (.opt (qAR n r102 r108.1) fun r109=>(.ask ((!r109)) (.done ((0:Int),(0:Int),false,false,false)) (.done (r102,r108.1,r101.2.2.2.2.2.2.2.2.1,r101.2.2.2.2.2.2.2.2.2,true))))))) .fail)) .fail)))
def qAj:Nat→BA→Option (Int×Int×Bool×Bool×Bool)
 |0,_=>none
 |n+1,x0=>(qCu n x0).run
theorem qZB (n:Nat) (x0:BA):ze (qJj n) (qQD n) qEN (qGc x0) (qGd x0)=(qCu n x0).bind fun r=> .done (qK7 r):=by kernel_rfl
theorem qQE (n:Nat):zW (qJj n) (Rn n):=zA (qbm n (zB)) (zA (qRE n (zB)) (zA (qLq n (zB)) (zG)))
theorem qVI (n:Nat) (v:BA×Int×Int×Int×Bool×Bool×Int×Int×Bool×Bool):(zf (qJj n) (zN []) qF0 (qHG v) []).bind (zx [0,2,4,5] [(.ret,[2,3]),((.exit 0),[0,2,4,5])])=(qAF n v).bind (zAQ qHG qNL):=by
 obtain ⟨w0,w1,w2,w3,w4,w5,w6,w7,w8,w9⟩:=v
 kernel_rfl
theorem qVJ (n:Nat):zAX (Rn n) n (62,[0,2,4,5],[(.ret,[2,3]),((.exit 0),[0,2,4,5])],qF0) (qMO n):=fun st e s h=>
 zh (qQE n) (zI rfl) (qVI n) (fun r h=>by cases h) (fun r y h=>by cases h;rfl) (fun hs v h=>by
  unfold qMN at h
  split at h<;>cases h
  rfl) h
theorem qZC (n:Nat):zAK (qQD n) (Rn n) n qEN.body:=lt1 rfl (qVJ n)
theorem qZD:∀(n:Nat) (x0:BA) r,qAj n x0=some r→Rn n 133 (qGc x0) (qGd x0)=some (qK7 r)
 |0,x0,r,h=>by cases h
 |n+1,x0,r,h=>zH (kf:=qEN) rfl (qQE n) (qZC n) (qZB n x0) h
def qQF (n:Nat):zS→Option (Int×Int×Bool×Bool×Bool)
 |([[[.s x0]]],[])=>qAj n x0
 |_=>none
def qK8 (n:Nat) (d:ED):ED:=zR (qGc (⟨#[]⟩)) (qGd (⟨#[]⟩)) (qQF n) qK7 d
theorem qQG (n:Nat) {d:ED} (hd:RK n 133 d):RK n 133 (qK8 n d):=
 zF (fun hs r h=>by unfold qQF at h;split at h;exact ⟨qGc _,qGd _,rfl,rfl,qZD n _ r h⟩;cases h) hd
def qGe (x0:BA):List AV:= [(cs x0)]
def qGf (x0:BA):FR:= []
def qK9 (r:Int×Int×BA×Bool):Res:=⟨(.tup [(true,[(vi r.1),(vi r.2.1),(vs r.2.2.1)]),(false,[(vb r.2.2.2)])]),[],[]⟩
abbrev qJk (n:Nat):zX:=zd [(111,qF6 n (zD)),(116,qLx n (zD)),(114,qOA n (zD))]
def qEm (v:BA×Int×Int×Int×BA×Int×Int×BA):St:=⟨[(0,(cs v.1)),(2,(.c (.ptr 0 128 0 0 0))),(4,(.c (.ptr 0 256 0 0 0))),(5,(ci v.2.1))],[(128,⟨0,3,37,(.box [(vi v.2.2.1),(vi v.2.2.2.1),(vs v.2.2.2.2.1)])⟩),(256,⟨0,3,37,(.box [(vi v.2.2.2.2.2.1),(vi v.2.2.2.2.2.2.1),(vs v.2.2.2.2.2.2.2)])⟩)],[]⟩
def qBD (n:Nat) (v:BA×Int×Int×Int×BA×Int×Int×BA):Tr ((BA×Int×Int×Int×BA×Int×Int×BA)⊕((Int×Int×BA×Int×Int×BA))):=(.ask ((decide (v.2.1≤(5:Int)))) (.opt (qBO n v.2.1) fun r73=>(.ask ((r73.toList==v.1.toList)) (.done (.inl (v.1,(IntKind.i64.wrap (v.2.1+(1:Int))),v.2.2.1,v.2.2.2.1,v.2.2.2.2.1,v.2.2.2.2.2.1,v.2.1,v.2.2.2.2.2.2.2))) (.done (.inl (v.1,(IntKind.i64.wrap (v.2.1+(1:Int))),v.2.2.1,v.2.2.2.1,v.2.2.2.2.1,v.2.2.2.2.2.1,v.2.2.2.2.2.2.1,v.2.2.2.2.2.2.2))))) (.done (.inr ((v.2.2.1,v.2.2.2.1,v.2.2.2.2.1,v.2.2.2.2.2.1,v.2.2.2.2.2.2.1,v.2.2.2.2.2.2.2)))))
def qJl:(Int×Int×BA×Int×Int×BA)→Ex×St:=fun r=>((.exit 1),⟨[(2,(.c (.ptr 0 128 0 0 0))),(4,(.c (.ptr 0 256 0 0 0)))],[(128,⟨0,3,37,(.box [(vi r.1),(vi r.2.1),(vs r.2.2.1)])⟩),(256,⟨0,3,37,(.box [(vi r.2.2.2.1),(vi r.2.2.2.2.1),(vs r.2.2.2.2.2)])⟩)],[]⟩)
def qR2:(Int×Int×BA×Int×Int×BA)→Tr (Ex×St):=fun r=> .done (qJl r)
def qIp:zw→Option (BA×Int×Int×Int×BA×Int×Int×BA)
 |([[[.s w0]],[[]],[[]],[[.i w1]]],[[[.i w2],[.i w3],[.s w4]],[[.i w5],[.i w6],[.s w7]]],[])=>some (w0,w1,w2,w3,w4,w5,w6,w7)
 |_=>none
abbrev qIq (n:Nat):St→Tr (Ex×St):=zp (qEm (⟨#[]⟩,0,0,0,⟨#[]⟩,0,0,⟨#[]⟩)) qIp (qBD n) qR2 n
abbrev qQH (n:Nat):za:=zN [(15355,qIq n)]
def qBE (n:Nat) (x0:BA):Tr (Int×Int×BA×Bool):=(.ask ((x0.toList==(⟨#[]⟩:BA).toList)) (.done ((0:Int),(0:Int),(⟨#[]⟩:BA),true)) (.ask (decide (0≤(0:Int))) (.opt (x0.toList[((0:Int)).toNat]?) fun c66=>(.ask (((c66.toNat:Int)==(39:Int))) (.ask (decide (0≤(1:Int)∧(1:Int)≤(x0.size:Int)∧(x0.size:Int)≤x0.size)) (.opt (qT n (2:Int) (0:Int) (x0.extract ((1:Int)).toNat ((x0.size:Int)).toNat)) fun r67=>(.ask ((!r67)) (.done ((0:Int),(0:Int),(⟨#[]⟩:BA),false)) (.done ((2:Int),(0:Int),(x0.extract ((1:Int)).toNat ((x0.size:Int)).toNat),true)))) .fail) (.ask ((x0.toList==(⟨#[84,82,85,69]⟩:BA).toList)) (.ask ((x0.toList==(⟨#[84,82,85,69]⟩:BA).toList)) (.opt (qT n (3:Int) (1:Int) (⟨#[]⟩:BA)) fun r68=>(.ask ((!r68)) (.done ((0:Int),(0:Int),(⟨#[]⟩:BA),false)) (.done ((3:Int),(1:Int),(⟨#[]⟩:BA),true)))) (.opt (qT n (3:Int) (0:Int) (⟨#[]⟩:BA)) fun r69=>(.ask ((!r69)) (.done ((0:Int),(0:Int),(⟨#[]⟩:BA),false)) (.done ((3:Int),(0:Int),(⟨#[]⟩:BA),true))))) (.ask ((x0.toList==(⟨#[70,65,76,83,69]⟩:BA).toList)) (.ask ((x0.toList==(⟨#[84,82,85,69]⟩:BA).toList)) (.opt (qT n (3:Int) (1:Int) (⟨#[]⟩:BA)) fun r70=>(.ask ((!r70)) (.done ((0:Int),(0:Int),(⟨#[]⟩:BA),false)) (.done ((3:Int),(1:Int),(⟨#[]⟩:BA),true)))) (.opt (qT n (3:Int) (0:Int) (⟨#[]⟩:BA)) fun r71=>(.ask ((!r71)) (.done ((0:Int),(0:Int),(⟨#[]⟩:BA),false)) (.done ((3:Int),(0:Int),(⟨#[]⟩:BA),true))))) (.ask (decide (0≤(0:Int))) (.opt (x0.toList[((0:Int)).toNat]?) fun c72=>(.ask (((c72.toNat:Int)==(35:Int))) (.opt (zL (qBD n) n (x0,(1:Int),(0:Int),(0:Int),(⟨#[]⟩:BA),(4:Int),(0:Int),(⟨#[]⟩:BA))) fun r74=>(.opt (qT n r74.2.2.2.1 r74.2.2.2.2.1 r74.2.2.2.2.2) fun r75=>(.ask ((!r75)) (.done ((0:Int),(0:Int),(⟨#[]⟩:BA),false)) (.done (r74.2.2.2.1,r74.2.2.2.2.1,r74.2.2.2.2.2,true))))) (.ask (decide (0≤(0:Int))) (.opt (x0.toList[((0:Int)).toNat]?) fun c76=>(.ask (((c76.toNat:Int)==(45:Int))) (.ask (decide (0≤(1:Int)∧(1:Int)≤(x0.size:Int)∧(x0.size:Int)≤x0.size)) (.opt (qn n (x0.extract ((1:Int)).toNat ((x0.size:Int)).toNat) (16:Int)) fun r77=>(.ask ((!r77.2)) (.done ((0:Int),(0:Int),(⟨#[]⟩:BA),false)) (.ask (((c76.toNat:Int)==(45:Int))) (.ask ((r77.1==(0:Int))) (.done ((0:Int),(0:Int),(⟨#[]⟩:BA),false)) (.ask (((c76.toNat:Int)==(45:Int))) (.opt (qT n (1:Int) (IntKind.i64.wrap (0-r77.1)) (⟨#[]⟩:BA)) fun r78=>(.ask ((!r78)) (.done ((0:Int),(0:Int),(⟨#[]⟩:BA),false)) (.done ((1:Int),(IntKind.i64.wrap (0-r77.1)),(⟨#[]⟩:BA),true)))) (.opt (qT n (1:Int) r77.1 (⟨#[]⟩:BA)) fun r79=>(.ask ((!r79)) (.done ((0:Int),(0:Int),(⟨#[]⟩:BA),false)) (.done ((1:Int),r77.1,(⟨#[]⟩:BA),true)))))) (.ask (((c76.toNat:Int)==(45:Int))) (.opt (qT n (1:Int) (IntKind.i64.wrap (0-r77.1)) (⟨#[]⟩:BA)) fun r80=>(.ask ((!r80)) (.done ((0:Int),(0:Int),(⟨#[]⟩:BA),false)) (.done ((1:Int),(IntKind.i64.wrap (0-r77.1)),(⟨#[]⟩:BA),true)))) (.opt (qT n (1:Int) r77.1 (⟨#[]⟩:BA)) fun r81=>(.ask ((!r81)) (.done ((0:Int),(0:Int),(⟨#[]⟩:BA),false)) (.done ((1:Int),r77.1,(⟨#[]⟩:BA),true)))))))) .fail) (.opt (qn n x0 (16:Int)) fun r82=>(.ask ((!r82.2)) (.done ((0:Int),(0:Int),(⟨#[]⟩:BA),false)) (.ask (((c76.toNat:Int)==(45:Int))) (.ask ((r82.1==(0:Int))) (.done ((0:Int),(0:Int),(⟨#[]⟩:BA),false)) (.ask (((c76.toNat:Int)==(45:Int))) (.opt (qT n (1:Int) (IntKind.i64.wrap (0-r82.1)) (⟨#[]⟩:BA)) fun r83=>(.ask ((!r83)) (.done ((0:Int),(0:Int),(⟨#[]⟩:BA),false)) (.done ((1:Int),(IntKind.i64.wrap (0-r82.1)),(⟨#[]⟩:BA),true)))) (.opt (qT n (1:Int) r82.1 (⟨#[]⟩:BA)) fun r84=>(.ask ((!r84)) (.done ((0:Int),(0:Int),(⟨#[]⟩:BA),false)) (.done ((1:Int),r82.1,(⟨#[]⟩:BA),true)))))) (.ask (((c76.toNat:Int)==(45:Int))) (.opt (qT n (1:Int) (IntKind.i64.wrap (0-r82.1)) (⟨#[]⟩:BA)) fun r85=>(.ask ((!r85)) (.done ((0:Int),(0:Int),(⟨#[]⟩:BA),false)) (.done ((1:Int),(IntKind.i64.wrap (0-r82.1)),(⟨#[]⟩:BA),true)))) (.opt (qT n (1:Int) r82.1 (⟨#[]⟩:BA)) fun r86=>(.ask ((!r86)) (.done ((0:Int),(0:Int),(⟨#[]⟩:BA),false)) (.done ((1:Int),r82.1,(⟨#[]⟩:BA),true)))))))))) .fail))) .fail))))) .fail))
def qAD:Nat→BA→Option (Int×Int×BA×Bool)
 |0,_=>none
 |n+1,x0=>(qBE n x0).run
theorem qZE (n:Nat) (x0:BA):ze (qJk n) (qQH n) qEJ (qGe x0) (qGf x0)=(qBE n x0).bind fun r=> .done (qK9 r):=by kernel_rfl
theorem qQI (n:Nat):zW (qJk n) (Rn n):=zA (qHw n (zB)) (zA (qOY n (zB)) (zA (qRE n (zB)) (zG)))
theorem qR3 (n:Nat) (v:BA×Int×Int×Int×BA×Int×Int×BA):(zf (qJk n) (zN []) qEI (qEm v) []).bind (zx [0,2,4,5] [(.ret,[2,3]),((.exit 1),[2,4]),((.exit 0),[2,4])])=(qBD n v).bind (zAQ qEm qJl):=by
 obtain ⟨w0,w1,w2,w3,w4,w5,w6,w7⟩:=v
 kernel_rfl
theorem qR4 (n:Nat):zAX (Rn n) n (15355,[0,2,4,5],[(.ret,[2,3]),((.exit 1),[2,4]),((.exit 0),[2,4])],qEI) (qIq n):=fun st e s h=>
 zh (qQI n) (zI rfl) (qR3 n) (fun r h=>by cases h) (fun r y h=>by cases h;rfl) (fun hs v h=>by
  unfold qIp at h
  split at h<;>cases h
  rfl) h
theorem qZF (n:Nat):zAK (qQH n) (Rn n) n qEJ.body:=lt1 rfl (qR4 n)
theorem qZG:∀(n:Nat) (x0:BA) r,qAD n x0=some r→Rn n 58 (qGe x0) (qGf x0)=some (qK9 r)
 |0,x0,r,h=>by cases h
 |n+1,x0,r,h=>zH (kf:=qEJ) rfl (qQI n) (qZF n) (qZE n x0) h
def qQJ (n:Nat):zS→Option (Int×Int×BA×Bool)
 |([[[.s x0]]],[])=>qAD n x0
 |_=>none
def qLA (n:Nat) (d:ED):ED:=zR (qGe (⟨#[]⟩)) (qGf (⟨#[]⟩)) (qQJ n) qK9 d
theorem qQK (n:Nat) {d:ED} (hd:RK n 58 d):RK n 58 (qLA n d):=
 zF (fun hs r h=>by unfold qQJ at h;split at h;exact ⟨qGe _,qGf _,rfl,rfl,qZG n _ r h⟩;cases h) hd
def qJm (x0:Int):List AV:= [(ci x0)]
def qJn (x0:Int):FR:= []
def qOj (r:Int):Res:=⟨(ci r),[],[]⟩
abbrev qTj (n:Nat):zX:=zd []
abbrev qbn (n:Nat):za:=zN []
def qOk (n:Nat) (x0:Int):Tr (Int):=(.ask ((decide (x0≥(6:Int)))) (.done (1:Int)) (.ask ((x0==(5:Int))) (.done (2:Int)) (.ask ((decide (x0≥(3:Int)))) (.done (4:Int)) (.done (3:Int)))))
def qCG:Nat→Int→Option (Int)
 |0,_=>none
 |n+1,x0=>(qOk n x0).run
theorem qbo (n:Nat) (x0:Int):ze (qTj n) (qbn n) qJF (qJm x0) (qJn x0)=(qOk n x0).bind fun r=> .done (qOj r):=by kernel_rfl
theorem qbp (n:Nat):zW (qTj n) (Rn n):=zG
theorem qbq:∀(n:Nat) (x0:Int) r,qCG n x0=some r→Rn n 109 (qJm x0) (qJn x0)=some (qOj r)
 |0,x0,r,h=>by cases h
 |n+1,x0,r,h=>zH (kf:=qJF) rfl (qbp n) (zI rfl) (qbo n x0) h
def qTk (n:Nat):zS→Option (Int)
 |([[[.i x0]]],[])=>qCG n x0
 |_=>none
def qOl (n:Nat) (d:ED):ED:=zR (qJm (0)) (qJn (0)) (qTk n) qOj d
theorem qTl (n:Nat) {d:ED} (hd:RK n 109 d):RK n 109 (qOl n d):=
 zF (fun hs r h=>by unfold qTk at h;split at h;exact ⟨qJm _,qJn _,rfl,rfl,qbq n _ r h⟩;cases h) hd
def qLy (x0:Int):List AV:= [(ci x0)]
def qLz (x0:Int):FR:= []
def qRF (r:BA):Res:=⟨(cs r),[],[]⟩
abbrev qVK (n:Nat):zX:=zd []
abbrev qcs (n:Nat):za:=zN []
def qRG (n:Nat) (x0:Int):Tr (BA):=(.ask (decide (12=([[(.s (⟨#[]⟩:BA))],[(.s (⟨#[43]⟩:BA))],[(.s (⟨#[45]⟩:BA))],[(.s (⟨#[42]⟩:BA))],[(.s (⟨#[47]⟩:BA))],[(.s (⟨#[38]⟩:BA))],[(.s (⟨#[61]⟩:BA))],[(.s (⟨#[60,62]⟩:BA))],[(.s (⟨#[60]⟩:BA))],[(.s (⟨#[60,61]⟩:BA))],[(.s (⟨#[62]⟩:BA))],[(.s (⟨#[62,61]⟩:BA))]]:RW).length∧0≤x0∧x0<((12:Nat):Int))) (.opt (([[(.s (⟨#[]⟩:BA))],[(.s (⟨#[43]⟩:BA))],[(.s (⟨#[45]⟩:BA))],[(.s (⟨#[42]⟩:BA))],[(.s (⟨#[47]⟩:BA))],[(.s (⟨#[38]⟩:BA))],[(.s (⟨#[61]⟩:BA))],[(.s (⟨#[60,62]⟩:BA))],[(.s (⟨#[60]⟩:BA))],[(.s (⟨#[60,61]⟩:BA))],[(.s (⟨#[62]⟩:BA))],[(.s (⟨#[62,61]⟩:BA))]]:RW)[(x0).toNat]?) fun e100=>(.opt (zAv e100 0) fun y101=>(.done y101))) .fail)
def qCq:Nat→Int→Option (BA)
 |0,_=>none
 |n+1,x0=>(qRG n x0).run
theorem qct (n:Nat) (x0:Int):ze (qVK n) (qcs n) qLj (qLy x0) (qLz x0)=(qRG n x0).bind fun r=> .done (qRF r):=by kernel_rfl
theorem qcu (n:Nat):zW (qVK n) (Rn n):=zG
theorem qcv:∀(n:Nat) (x0:Int) r,qCq n x0=some r→Rn n 98 (qLy x0) (qLz x0)=some (qRF r)
 |0,x0,r,h=>by cases h
 |n+1,x0,r,h=>zH (kf:=qLj) rfl (qcu n) (zI rfl) (qct n x0) h
def qVL (n:Nat):zS→Option (BA)
 |([[[.i x0]]],[])=>qCq n x0
 |_=>none
def qRH (n:Nat) (d:ED):ED:=zR (qLy (0)) (qLz (0)) (qVL n) qRF d
theorem qVM (n:Nat) {d:ED} (hd:RK n 98 d):RK n 98 (qRH n d):=
 zF (fun hs r h=>by unfold qVL at h;split at h;exact ⟨qLy _,qLz _,rfl,rfl,qcv n _ r h⟩;cases h) hd
def qJo (x0:Int) (x1:BA) (x2:Int) (x3:Bool) (x4:Nat) (x5:RW):List AV:= [(.c (.ptr 0 0 0 0 0)),(ci x0)]
def qJp (x0:Int) (x1:BA) (x2:Int) (x3:Bool) (x4:Nat) (x5:RW):FR:= [[(0,⟨0,4,50,(.box [(vs x1),(vi x2),(vb x3),(.own 0 1 1 x4)])⟩),(1,⟨1,14,64,(.row x5)⟩)]]
def qOm (r:Int×BA×Int×Bool×Nat×RW):Res:=⟨(ci r.1),[[(0,⟨0,4,50,(.box [(vs r.2.1),(vi r.2.2.1),(vb r.2.2.2.1),(.own 0 1 1 r.2.2.2.2.1)])⟩),(1,⟨1,14,64,(.row r.2.2.2.2.2)⟩)]],[]⟩
abbrev qM2 (n:Nat):zX:=zd [(109,qOl n (zD)),(98,qRH n (zD)),(128,qF5 n (zD))]
def qJq (v:Int×Nat×Int×RW×BA×Int×Bool×Nat×RW):St:=⟨[(0,(.c (.ptr 0 0 0 0 0))),(1,(ci v.1)),(5,(.c (.own 1 448 0 v.2.1))),(6,(ci v.2.2.1))],[(448,⟨0,1,2,(.row v.2.2.2.1)⟩)],[[(0,⟨0,4,50,(.box [(vs v.2.2.2.2.1),(vi v.2.2.2.2.2.1),(vb v.2.2.2.2.2.2.1),(.own 0 1 1 v.2.2.2.2.2.2.2.1)])⟩),(1,⟨1,14,64,(.row v.2.2.2.2.2.2.2.2)⟩)]]⟩
def qFm (n:Nat) (v:Int×Nat×Int×RW×BA×Int×Bool×Nat×RW):Tr ((Int×Nat×Int×RW×BA×Int×Bool×Nat×RW)⊕((Int×BA×Int×Bool×Nat×RW)⊕(BA×Int×Bool×Nat×RW))):=(.ask ((decide (v.2.2.1<((v.2.1:Nat):Int)))) (.ask (decide (v.2.1=v.2.2.2.1.length∧0≤v.2.2.1∧v.2.2.1<((v.2.1:Nat):Int))) (.opt (v.2.2.2.1[(v.2.2.1).toNat]?) fun e95=>(.opt (zU .i64 e95 0) fun y96=>(.opt (qCG n y96) fun r97=>(.ask ((r97==v.1)) (.ask (decide (v.2.1=v.2.2.2.1.length∧0≤v.2.2.1∧v.2.2.1<((v.2.1:Nat):Int))) (.opt (v.2.2.2.1[(v.2.2.1).toNat]?) fun e98=>(.opt (zU .i64 e98 0) fun y99=>(.opt (qCq n y99) fun r100=>(.opt (q8 n r100 v.2.2.2.2.1 v.2.2.2.2.2.1 v.2.2.2.2.2.2.1 v.2.2.2.2.2.2.2.1 v.2.2.2.2.2.2.2.2) fun r101=>(.ask (r101.1) (.ask (decide (v.2.1=v.2.2.2.1.length∧0≤v.2.2.1∧v.2.2.1<((v.2.1:Nat):Int))) (.opt (v.2.2.2.1[(v.2.2.1).toNat]?) fun e102=>(.opt (zU .i64 e102 0) fun y103=>(.done (.inr (.inl ((y103,r101.2.1,r101.2.2.1,r101.2.2.2.1,r101.2.2.2.2.1,r101.2.2.2.2.2))))))) .fail) (.done (.inl (v.1,v.2.1,(IntKind.i64.wrap (v.2.2.1+(1:Int))),v.2.2.2.1,r101.2.1,r101.2.2.1,r101.2.2.2.1,r101.2.2.2.2.1,r101.2.2.2.2.2)))))))) .fail) (.done (.inl (v.1,v.2.1,(IntKind.i64.wrap (v.2.2.1+(1:Int))),v.2.2.2.1,v.2.2.2.2.1,v.2.2.2.2.2.1,v.2.2.2.2.2.2.1,v.2.2.2.2.2.2.2.1,v.2.2.2.2.2.2.2.2))))))) .fail) (.done (.inr (.inr ((v.2.2.2.2.1,v.2.2.2.2.2.1,v.2.2.2.2.2.2.1,v.2.2.2.2.2.2.2.1,v.2.2.2.2.2.2.2.2))))))
def qJr:((Int×BA×Int×Bool×Nat×RW)⊕(BA×Int×Bool×Nat×RW))→Ex×St:=fun| .inl r=>(.ret,⟨[(4,(ci r.1))],[],[[(0,⟨0,4,50,(.box [(vs r.2.1),(vi r.2.2.1),(vb r.2.2.2.1),(.own 0 1 1 r.2.2.2.2.1)])⟩),(1,⟨1,14,64,(.row r.2.2.2.2.2)⟩)]]⟩)| .inr r=>(fun r=>((.exit 0),⟨[],[],[[(0,⟨0,4,50,(.box [(vs r.1),(vi r.2.1),(vb r.2.2.1),(.own 0 1 1 r.2.2.2.1)])⟩),(1,⟨1,14,64,(.row r.2.2.2.2)⟩)]]⟩)) r
def qYX:((Int×BA×Int×Bool×Nat×RW)⊕(BA×Int×Bool×Nat×RW))→Tr (Ex×St):=fun r=> .alt r (fun r=> .done (qJr (.inl r))) (fun r=> .done (qJr (.inr r)))
def qOn:zw→Option (Int×Nat×Int×RW×BA×Int×Bool×Nat×RW)
 |([[[]],[[.i w0]],[[.n w1]],[[.i w2]]],[[[.r w3]]],[[[[.s w4],[.i w5],[.b w6],[.n w7]],[[.r w8]]]])=>some (w0,w1,w2,w3,w4,w5,w6,w7,w8)
 |_=>none
abbrev qOo (n:Nat):St→Tr (Ex×St):=zp (qJq (0,0,0,[],⟨#[]⟩,0,false,0,[])) qOn (qFm n) qYX n
abbrev qTm (n:Nat):za:=zN [(29,qOo n)]
def qVN (n:Nat) (x0:Int) (x1:BA) (x2:Int) (x3:Bool) (x4:Nat) (x5:RW):Tr (Int×BA×Int×Bool×Nat×RW):=(.opt (zL (qFm n) n (x0,(11:Nat),(0:Int),([[(.i .i64 (7:Int))],[(.i .i64 (9:Int))],[(.i .i64 (11:Int))],[(.i .i64 (6:Int))],[(.i .i64 (8:Int))],[(.i .i64 (10:Int))],[(.i .i64 (1:Int))],[(.i .i64 (2:Int))],[(.i .i64 (3:Int))],[(.i .i64 (4:Int))],[(.i .i64 (5:Int))]]:RW),x1,x2,x3,x4,x5)) fun r104=>(.alt r104 (fun r105=>(.done (r105.1,r105.2.1,r105.2.2.1,r105.2.2.2.1,r105.2.2.2.2.1,r105.2.2.2.2.2))) (fun r106=>(.done ((0:Int),r106.1,r106.2.1,r106.2.2.1,r106.2.2.2.1,r106.2.2.2.2)))))
def qF7:Nat→Int→BA→Int→Bool→Nat→RW→Option (Int×BA×Int×Bool×Nat×RW)
 |0,_,_,_,_,_,_=>none
 |n+1,x0,x1,x2,x3,x4,x5=>(qVN n x0 x1 x2 x3 x4 x5).run
theorem qbr (n:Nat) (x0:Int) (x1:BA) (x2:Int) (x3:Bool) (x4:Nat) (x5:RW):ze (qM2 n) (qTm n) qFv (qJo x0 x1 x2 x3 x4 x5) (qJp x0 x1 x2 x3 x4 x5)=(qVN n x0 x1 x2 x3 x4 x5).bind fun r=> .done (qOm r):=by kernel_rfl
theorem qTn (n:Nat):zW (qM2 n) (Rn n):=zA (qTl n (zB)) (zA (qVM n (zB)) (zA (qHv n (zB)) (zG)))
theorem qYY (n:Nat) (v:Int×Nat×Int×RW×BA×Int×Bool×Nat×RW):(zf (qM2 n) (zN []) qIF (qJq v) []).bind (zx [0,1,5,6] [(.ret,[4]),((.exit 0),[])])=(qFm n v).bind (zAQ qJq qJr):=by
 obtain ⟨w0,w1,w2,w3,w4,w5,w6,w7,w8⟩:=v
 kernel_rfl
theorem qYZ (n:Nat):zAX (Rn n) n (29,[0,1,5,6],[(.ret,[4]),((.exit 0),[])],qIF) (qOo n):=fun st e s h=>
 zh (qTn n) (zI rfl) (qYY n) (fun r=>by
  rcases r with r|r<;>(intro h;cases h)) (fun r y h=>by
  rcases r with r|r<;>(cases h;rfl)) (fun hs v h=>by
  unfold qOn at h
  split at h<;>cases h
  rfl) h
theorem qbs (n:Nat):zAK (qTm n) (Rn n) n qFv.body:=lt1 rfl (qYZ n)
theorem qbt:∀(n:Nat) (x0:Int) (x1:BA) (x2:Int) (x3:Bool) (x4:Nat) (x5:RW) r,qF7 n x0 x1 x2 x3 x4 x5=some r→Rn n 82 (qJo x0 x1 x2 x3 x4 x5) (qJp x0 x1 x2 x3 x4 x5)=some (qOm r)
 |0,x0,x1,x2,x3,x4,x5,r,h=>by cases h
 |n+1,x0,x1,x2,x3,x4,x5,r,h=>zH (kf:=qFv) rfl (qTn n) (qbs n) (qbr n x0 x1 x2 x3 x4 x5) h
def qTo (n:Nat):zS→Option (Int×BA×Int×Bool×Nat×RW)
 |([[[]],[[.i x0]]],[[[[.s x1],[.i x2],[.b x3],[.n x4]],[[.r x5]]]])=>qF7 n x0 x1 x2 x3 x4 x5
 |_=>none
def qVO (n:Nat) (d:ED):ED:=zR (qJo (0) (⟨#[]⟩) (0) (false) (0) ([])) (qJp (0) (⟨#[]⟩) (0) (false) (0) ([])) (qTo n) qOm d
theorem qbu (n:Nat) {d:ED} (hd:RK n 82 d):RK n 82 (qVO n d):=
 zF (fun hs r h=>by unfold qTo at h;split at h;exact ⟨qJo _ _ _ _ _ _,qJp _ _ _ _ _ _,rfl,rfl,qbt n _ _ _ _ _ _ r h⟩;cases h) hd
def qAp (x0:Int) (x1:BA) (x2:Int) (x3:Bool) (x4:Nat) (x5:RW):List AV:= [(.c (.ptr 0 0 0 0 0)),(ci x0)]
def qAq (x0:Int) (x1:BA) (x2:Int) (x3:Bool) (x4:Nat) (x5:RW):FR:= [[(0,⟨0,4,50,(.box [(vs x1),(vi x2),(vb x3),(.own 0 1 1 x4)])⟩),(1,⟨1,14,64,(.row x5)⟩)]]
def qCW (r:Int×BA×Int×Bool×Nat×RW):Res:=⟨(ci r.1),[[(0,⟨0,4,50,(.box [(vs r.2.1),(vi r.2.2.1),(vb r.2.2.2.1),(.own 0 1 1 r.2.2.2.2.1)])⟩),(1,⟨1,14,64,(.row r.2.2.2.2.2)⟩)]],[]⟩
def qH1 (x0:BA) (x1:Int) (x2:Bool) (x3:Nat) (x4:RW):List AV:= [(.c (.ptr 0 0 0 0 0))]
def qH2 (x0:BA) (x1:Int) (x2:Bool) (x3:Nat) (x4:RW):FR:= [[(0,⟨0,4,50,(.box [(vs x0),(vi x1),(vb x2),(.own 0 1 1 x3)])⟩),(1,⟨1,14,64,(.row x4)⟩)]]
def qM3 (r:Int×BA×Int×Bool×Nat×RW):Res:=⟨(ci r.1),[[(0,⟨0,4,50,(.box [(vs r.2.1),(vi r.2.2.1),(vb r.2.2.2.1),(.own 0 1 1 r.2.2.2.2.1)])⟩),(1,⟨1,14,64,(.row r.2.2.2.2.2)⟩)]],[]⟩
def qGg (x0:Int) (x1:BA) (x2:Int) (x3:Bool) (x4:Nat) (x5:RW):List AV:= [(.c (.ptr 0 0 0 0 0)),(ci x0)]
def qGh (x0:Int) (x1:BA) (x2:Int) (x3:Bool) (x4:Nat) (x5:RW):FR:= [[(0,⟨0,4,50,(.box [(vs x1),(vi x2),(vb x3),(.own 0 1 1 x4)])⟩),(1,⟨1,14,64,(.row x5)⟩)]]
def qLB (r:Int×BA×Int×Bool×Nat×RW):Res:=⟨(ci r.1),[[(0,⟨0,4,50,(.box [(vs r.2.1),(vi r.2.2.1),(vb r.2.2.2.1),(.own 0 1 1 r.2.2.2.2.1)])⟩),(1,⟨1,14,64,(.row r.2.2.2.2.2)⟩)]],[]⟩
def qH3 (x0:BA) (x1:Int) (x2:Bool) (x3:Nat) (x4:RW):List AV:= [(.c (.ptr 0 0 0 0 0))]
def qH4 (x0:BA) (x1:Int) (x2:Bool) (x3:Nat) (x4:RW):FR:= [[(0,⟨0,4,50,(.box [(vs x0),(vi x1),(vb x2),(.own 0 1 1 x3)])⟩),(1,⟨1,14,64,(.row x4)⟩)]]
def qM4 (r:Int×BA×Int×Bool×Nat×RW):Res:=⟨(ci r.1),[[(0,⟨0,4,50,(.box [(vs r.2.1),(vi r.2.2.1),(vb r.2.2.2.1),(.own 0 1 1 r.2.2.2.2.1)])⟩),(1,⟨1,14,64,(.row r.2.2.2.2.2)⟩)]],[]⟩
structure G_spec_l3Rd_row where
 spec_l3Rd_row:Int→BA→Int→Bool→Nat→RW→Option (Int×BA×Int×Bool×Nat×RW)
 spec_l3Rd_one:BA→Int→Bool→Nat→RW→Option (Int×BA×Int×Bool×Nat×RW)
 spec_l3Rd_call:Int→BA→Int→Bool→Nat→RW→Option (Int×BA×Int×Bool×Nat×RW)
 spec_l3Rd_arg:BA→Int→Bool→Nat→RW→Option (Int×BA×Int×Bool×Nat×RW)
def qCO (rec:G_spec_l3Rd_row):zS→Option (Int×BA×Int×Bool×Nat×RW)
 |([[[]],[[.i x0]]],[[[[.s x1],[.i x2],[.b x3],[.n x4]],[[.r x5]]]])=>rec.spec_l3Rd_row x0 x1 x2 x3 x4 x5
 |_=>none
def qQL (rec:G_spec_l3Rd_row):zS→Option (Int×BA×Int×Bool×Nat×RW)
 |([[[]]],[[[[.s x0],[.i x1],[.b x2],[.n x3]],[[.r x4]]]])=>rec.spec_l3Rd_one x0 x1 x2 x3 x4
 |_=>none
def qOp (rec:G_spec_l3Rd_row):zS→Option (Int×BA×Int×Bool×Nat×RW)
 |([[[]],[[.i x0]]],[[[[.s x1],[.i x2],[.b x3],[.n x4]],[[.r x5]]]])=>rec.spec_l3Rd_call x0 x1 x2 x3 x4 x5
 |_=>none
def qQM (rec:G_spec_l3Rd_row):zS→Option (Int×BA×Int×Bool×Nat×RW)
 |([[[]]],[[[[.s x0],[.i x1],[.b x2],[.n x3]],[[.r x4]]]])=>rec.spec_l3Rd_arg x0 x1 x2 x3 x4
 |_=>none
abbrev qLC (rec:G_spec_l3Rd_row) (n:Nat):zX:=zd [(81,zR (qH1 (⟨#[]⟩) (0) (false) (0) ([])) (qH2 (⟨#[]⟩) (0) (false) (0) ([])) (fun hs=>qQL rec hs) qM3 (zD)),(33,zR (qAp (0) (⟨#[]⟩) (0) (false) (0) ([])) (qAq (0) (⟨#[]⟩) (0) (false) (0) ([])) (fun hs=>qCO rec hs) qCW (zD)),(82,qVO n (zD)),(83,qDU n (zD))]
def qIL (v:Int×Int×BA×Int×Bool×Nat×RW):St:=⟨[(0,(.c (.ptr 0 0 0 0 0))),(1,(ci v.1)),(5,(ci v.2.1))],[],[[(0,⟨0,4,50,(.box [(vs v.2.2.1),(vi v.2.2.2.1),(vb v.2.2.2.2.1),(.own 0 1 1 v.2.2.2.2.2.1)])⟩),(1,⟨1,14,64,(.row v.2.2.2.2.2.2)⟩)]]⟩
def qEn (rec:G_spec_l3Rd_row) (n:Nat) (v:Int×Int×BA×Int×Bool×Nat×RW):Tr ((Int×Int×BA×Int×Bool×Nat×RW)⊕((Int×BA×Int×Bool×Nat×RW)⊕(Int×BA×Int×Bool×Nat×RW))):=(.ask ((!v.2.2.2.2.1)) (.opt (qF7 n v.1 v.2.2.1 v.2.2.2.1 v.2.2.2.2.1 v.2.2.2.2.2.1 v.2.2.2.2.2.2) fun r95=>(.ask ((r95.1==(0:Int))) (.done (.inr (.inl ((v.2.1,r95.2.1,r95.2.2.1,r95.2.2.2.1,r95.2.2.2.2.1,r95.2.2.2.2.2))))) (.opt (rec.spec_l3Rd_row (IntKind.i64.wrap (v.1+(1:Int))) r95.2.1 r95.2.2.1 r95.2.2.2.1 r95.2.2.2.2.1 r95.2.2.2.2.2) fun r96=>(.ask (decide (2=([[(.i .i64 v.2.1)],[(.i .i64 r96.1)]]:RW).length)) (.opt (qm n (5:Int) r95.1 (0:Int) (0:Int) (⟨#[]⟩:BA) (0:Int) (0:Int) false false (0:Int) (0:Int) false false ([[(.i .i64 v.2.1)],[(.i .i64 r96.1)]]:RW) r96.2.1 r96.2.2.1 r96.2.2.2.1 r96.2.2.2.2.1 r96.2.2.2.2.2) fun r97=>(.done (.inl (v.1,r97.1,r97.2.1,r97.2.2.1,r97.2.2.2.1,r97.2.2.2.2.1,r97.2.2.2.2.2)))) .fail)))) (.done (.inr (.inr ((v.2.1,v.2.2.1,v.2.2.2.1,v.2.2.2.2.1,v.2.2.2.2.2.1,v.2.2.2.2.2.2))))))
def qIM:((Int×BA×Int×Bool×Nat×RW)⊕(Int×BA×Int×Bool×Nat×RW))→Ex×St:=fun| .inl r=>(.ret,⟨[(4,(ci r.1))],[],[[(0,⟨0,4,50,(.box [(vs r.2.1),(vi r.2.2.1),(vb r.2.2.2.1),(.own 0 1 1 r.2.2.2.2.1)])⟩),(1,⟨1,14,64,(.row r.2.2.2.2.2)⟩)]]⟩)| .inr r=>(fun r=>((.exit 0),⟨[(5,(ci r.1))],[],[[(0,⟨0,4,50,(.box [(vs r.2.1),(vi r.2.2.1),(vb r.2.2.2.1),(.own 0 1 1 r.2.2.2.2.1)])⟩),(1,⟨1,14,64,(.row r.2.2.2.2.2)⟩)]]⟩)) r
def qWq:((Int×BA×Int×Bool×Nat×RW)⊕(Int×BA×Int×Bool×Nat×RW))→Tr (Ex×St):=fun r=> .alt r (fun r=> .done (qIM (.inl r))) (fun r=> .done (qIM (.inr r)))
def qNM:zw→Option (Int×Int×BA×Int×Bool×Nat×RW)
 |([[[]],[[.i w0]],[[.i w1]]],[],[[[[.s w2],[.i w3],[.b w4],[.n w5]],[[.r w6]]]])=>some (w0,w1,w2,w3,w4,w5,w6)
 |_=>none
abbrev qNN (rec:G_spec_l3Rd_row) (n:Nat):St→Tr (Ex×St):=zp (qIL (0,0,⟨#[]⟩,0,false,0,[])) qNM (qEn rec n) qWq n
abbrev qR5 (rec:G_spec_l3Rd_row) (n:Nat):za:=zN [(62,qNN rec n)]
def qTp (rec:G_spec_l3Rd_row) (n:Nat) (x0:Int) (x1:BA) (x2:Int) (x3:Bool) (x4:Nat) (x5:RW):Tr (Int×BA×Int×Bool×Nat×RW):=(.ask (x3) (.done ((0:Int),x1,x2,x3,x4,x5)) (.ask ((x0==(5:Int))) (.opt (rec.spec_l3Rd_one x1 x2 x3 x4 x5) fun r93=>(.done (r93.1,r93.2.1,r93.2.2.1,r93.2.2.2.1,r93.2.2.2.2.1,r93.2.2.2.2.2))) (.opt (rec.spec_l3Rd_row (IntKind.i64.wrap (x0+(1:Int))) x1 x2 x3 x4 x5) fun r94=>(.opt (zL (qEn rec n) n (x0,r94.1,r94.2.1,r94.2.2.1,r94.2.2.2.1,r94.2.2.2.2.1,r94.2.2.2.2.2)) fun r98=>(.alt r98 (fun r99=>(.done (r99.1,r99.2.1,r99.2.2.1,r99.2.2.2.1,r99.2.2.2.2.1,r99.2.2.2.2.2))) (fun r100=>(.done (r100.1,r100.2.1,r100.2.2.1,r100.2.2.2.1,r100.2.2.2.2.1,r100.2.2.2.2.2))))))))
abbrev qGi (rec:G_spec_l3Rd_row) (n:Nat):zX:=zd [(128,qF5 n (zD)),(33,zR (qAp (0) (⟨#[]⟩) (0) (false) (0) ([])) (qAq (0) (⟨#[]⟩) (0) (false) (0) ([])) (fun hs=>qCO rec hs) qCW (zD)),(83,qDU n (zD)),(129,qRy n (zD)),(116,qLx n (zD)),(130,qU9 n (zD)),(131,qK6 n (zD)),(110,qVF n (zD)),(132,zR (qGg (0) (⟨#[]⟩) (0) (false) (0) ([])) (qGh (0) (⟨#[]⟩) (0) (false) (0) ([])) (fun hs=>qOp rec hs) qLB (zD)),(58,qLA n (zD)),(133,qK8 n (zD))]
def qF8 (v:Int×BA×Int×Bool×Nat×RW):St:=⟨[(0,(.c (.ptr 0 0 0 0 0))),(5,(ci v.1))],[],[[(0,⟨0,4,50,(.box [(vs v.2.1),(vi v.2.2.1),(vb v.2.2.2.1),(.own 0 1 1 v.2.2.2.2.1)])⟩),(1,⟨1,14,64,(.row v.2.2.2.2.2)⟩)]]⟩
def qCH (n:Nat) (v:Int×BA×Int×Bool×Nat×RW):Tr ((Int×BA×Int×Bool×Nat×RW)⊕((Int×BA×Int×Bool×Nat×RW)⊕(BA×Int×Bool×Nat×RW))):=(.ask ((decide (v.1≤(5:Int)))) (.opt (qBO n v.1) fun r42=>(.ask (decide (0≤(1:Int)∧(1:Int)≤(r42.size:Int)∧(r42.size:Int)≤r42.size)) (.ask ((decide ((IntKind.i64.wrap (v.2.2.1+((r42.extract ((1:Int)).toNat ((r42.size:Int)).toNat).size:Int)))≤(v.2.1.size:Int)))) (.ask (decide (0≤v.2.2.1∧v.2.2.1≤(IntKind.i64.wrap (v.2.2.1+((r42.extract ((1:Int)).toNat ((r42.size:Int)).toNat).size:Int)))∧(IntKind.i64.wrap (v.2.2.1+((r42.extract ((1:Int)).toNat ((r42.size:Int)).toNat).size:Int)))≤v.2.1.size)) (.ask (((v.2.1.extract (v.2.2.1).toNat ((IntKind.i64.wrap (v.2.2.1+((r42.extract ((1:Int)).toNat ((r42.size:Int)).toNat).size:Int)))).toNat).toList==(r42.extract ((1:Int)).toNat ((r42.size:Int)).toNat).toList)) (.opt (qC2 n v.1) fun r43=>(.opt (qm n (1:Int) (0:Int) r43.1 r43.2.1 r43.2.2 (0:Int) (0:Int) false false (0:Int) (0:Int) false false ([]:RW) v.2.1 (IntKind.i64.wrap (v.2.2.1+((r42.extract ((1:Int)).toNat ((r42.size:Int)).toNat).size:Int))) v.2.2.2.1 v.2.2.2.2.1 v.2.2.2.2.2) fun r44=>(.done (.inr (.inl ((r44.1,r44.2.1,r44.2.2.1,r44.2.2.2.1,r44.2.2.2.2.1,r44.2.2.2.2.2))))))) (.done (.inl ((IntKind.i64.wrap (v.1+(1:Int))),v.2.1,v.2.2.1,v.2.2.2.1,v.2.2.2.2.1,v.2.2.2.2.2)))) .fail) (.done (.inl ((IntKind.i64.wrap (v.1+(1:Int))),v.2.1,v.2.2.1,v.2.2.2.1,v.2.2.2.2.1,v.2.2.2.2.2)))) .fail)) (.done (.inr (.inr ((v.2.1,v.2.2.1,v.2.2.2.1,v.2.2.2.2.1,v.2.2.2.2.2))))))
def qF9:((Int×BA×Int×Bool×Nat×RW)⊕(BA×Int×Bool×Nat×RW))→Ex×St:=fun| .inl r=>(.ret,⟨[(2,(ci r.1))],[],[[(0,⟨0,4,50,(.box [(vs r.2.1),(vi r.2.2.1),(vb r.2.2.2.1),(.own 0 1 1 r.2.2.2.2.1)])⟩),(1,⟨1,14,64,(.row r.2.2.2.2.2)⟩)]]⟩)| .inr r=>(fun r=>((.exit 1),⟨[(0,(.c (.ptr 0 0 0 0 0)))],[],[[(0,⟨0,4,50,(.box [(vs r.1),(vi r.2.1),(vb r.2.2.1),(.own 0 1 1 r.2.2.2.1)])⟩),(1,⟨1,14,64,(.row r.2.2.2.2)⟩)]]⟩)) r
def qUY:((Int×BA×Int×Bool×Nat×RW)⊕(BA×Int×Bool×Nat×RW))→Tr (Ex×St):=fun r=> .alt r (fun r=> .done (qF9 (.inl r))) (fun r=> .done (qF9 (.inr r)))
def qKi:zw→Option (Int×BA×Int×Bool×Nat×RW)
 |([[[]],[[.i w0]]],[],[[[[.s w1],[.i w2],[.b w3],[.n w4]],[[.r w5]]]])=>some (w0,w1,w2,w3,w4,w5)
 |_=>none
abbrev qFb (n:Nat):St→Tr (Ex×St):=zp (qF8 (0,⟨#[]⟩,0,false,0,[])) qKi (qCH n) qUY n
def qIN (v:BA×Int×BA×Int×Bool×Nat×RW):St:=⟨[(0,(.c (.ptr 0 0 0 0 0))),(7,(cs v.1)),(8,(ci v.2.1))],[],[[(0,⟨0,4,50,(.box [(vs v.2.2.1),(vi v.2.2.2.1),(vb v.2.2.2.2.1),(.own 0 1 1 v.2.2.2.2.2.1)])⟩),(1,⟨1,14,64,(.row v.2.2.2.2.2.2)⟩)]]⟩
def qC4 (rec:G_spec_l3Rd_row) (n:Nat) (v:BA×Int×BA×Int×Bool×Nat×RW):Tr ((BA×Int×BA×Int×Bool×Nat×RW)⊕((Int×BA×Int×Bool×Nat×RW)⊕(BA×BA×Int×Bool×Nat×RW))):=(.ask ((decide (v.2.1≤(10:Int)))) (.opt (qCp n v.2.1) fun r60=>(.ask ((r60.toList==v.1.toList)) (.opt (q8 n (⟨#[40]⟩:BA) v.2.2.1 v.2.2.2.1 v.2.2.2.2.1 v.2.2.2.2.2.1 v.2.2.2.2.2.2) fun r61=>(.ask (r61.1) (.opt (rec.spec_l3Rd_call v.2.1 r61.2.1 r61.2.2.1 r61.2.2.2.1 r61.2.2.2.2.1 r61.2.2.2.2.2) fun r62=>(.done (.inr (.inl ((r62.1,r62.2.1,r62.2.2.1,r62.2.2.2.1,r62.2.2.2.2.1,r62.2.2.2.2.2)))))) (.done (.inl (v.1,(IntKind.i64.wrap (v.2.1+(1:Int))),r61.2.1,r61.2.2.1,r61.2.2.2.1,r61.2.2.2.2.1,r61.2.2.2.2.2))))) (.done (.inl (v.1,(IntKind.i64.wrap (v.2.1+(1:Int))),v.2.2.1,v.2.2.2.1,v.2.2.2.2.1,v.2.2.2.2.2.1,v.2.2.2.2.2.2))))) (.done (.inr (.inr ((v.1,v.2.2.1,v.2.2.2.1,v.2.2.2.2.1,v.2.2.2.2.2.1,v.2.2.2.2.2.2))))))
def qIO:((Int×BA×Int×Bool×Nat×RW)⊕(BA×BA×Int×Bool×Nat×RW))→Ex×St:=fun| .inl r=>(.ret,⟨[(2,(ci r.1))],[],[[(0,⟨0,4,50,(.box [(vs r.2.1),(vi r.2.2.1),(vb r.2.2.2.1),(.own 0 1 1 r.2.2.2.2.1)])⟩),(1,⟨1,14,64,(.row r.2.2.2.2.2)⟩)]]⟩)| .inr r=>(fun r=>((.exit 3),⟨[(0,(.c (.ptr 0 0 0 0 0))),(7,(cs r.1))],[],[[(0,⟨0,4,50,(.box [(vs r.2.1),(vi r.2.2.1),(vb r.2.2.2.1),(.own 0 1 1 r.2.2.2.2.1)])⟩),(1,⟨1,14,64,(.row r.2.2.2.2.2)⟩)]]⟩)) r
def qWr:((Int×BA×Int×Bool×Nat×RW)⊕(BA×BA×Int×Bool×Nat×RW))→Tr (Ex×St):=fun r=> .alt r (fun r=> .done (qIO (.inl r))) (fun r=> .done (qIO (.inr r)))
def qNO:zw→Option (BA×Int×BA×Int×Bool×Nat×RW)
 |([[[]],[[.s w0]],[[.i w1]]],[],[[[[.s w2],[.i w3],[.b w4],[.n w5]],[[.r w6]]]])=>some (w0,w1,w2,w3,w4,w5,w6)
 |_=>none
abbrev qHH (rec:G_spec_l3Rd_row) (n:Nat):St→Tr (Ex×St):=zp (qIN (⟨#[]⟩,0,⟨#[]⟩,0,false,0,[])) qNO (qC4 rec n) qWr n
abbrev qR6 (rec:G_spec_l3Rd_row) (n:Nat):za:=zN [(7161,qFb n),(61,qHH rec n)]
def qTq (rec:G_spec_l3Rd_row) (n:Nat) (x0:BA) (x1:Int) (x2:Bool) (x3:Nat) (x4:RW):Tr (Int×BA×Int×Bool×Nat×RW):=(.opt (q8 n (⟨#[45]⟩:BA) x0 x1 x2 x3 x4) fun r12=>(.ask (r12.1) (.opt (rec.spec_l3Rd_row (5:Int) r12.2.1 r12.2.2.1 r12.2.2.2.1 r12.2.2.2.2.1 r12.2.2.2.2.2) fun r13=>(.ask (decide (1=([[(.i .i64 r13.1)]]:RW).length)) (.opt (qm n (4:Int) (0:Int) (0:Int) (0:Int) (⟨#[]⟩:BA) (0:Int) (0:Int) false false (0:Int) (0:Int) false false ([[(.i .i64 r13.1)]]:RW) r13.2.1 r13.2.2.1 r13.2.2.2.1 r13.2.2.2.2.1 r13.2.2.2.2.2) fun r28=>(.done (r28.1,r28.2.1,r28.2.2.1,r28.2.2.2.1,r28.2.2.2.2.1,r28.2.2.2.2.2))) .fail)) (.opt (q8 n (⟨#[40]⟩:BA) r12.2.1 r12.2.2.1 r12.2.2.2.1 r12.2.2.2.2.1 r12.2.2.2.2.2) fun r29=>(.ask (r29.1) (.opt (rec.spec_l3Rd_row (1:Int) r29.2.1 r29.2.2.1 r29.2.2.2.1 r29.2.2.2.2.1 r29.2.2.2.2.2) fun r30=>(.opt (q8 n (⟨#[41]⟩:BA) r30.2.1 r30.2.2.1 r30.2.2.2.1 r30.2.2.2.2.1 r30.2.2.2.2.2) fun r31=>(.ask ((!r31.1)) (.done (r30.1,r31.2.1,r31.2.2.1,true,r31.2.2.2.2.1,r31.2.2.2.2.2)) (.done (r30.1,r31.2.1,r31.2.2.1,r31.2.2.2.1,r31.2.2.2.2.1,r31.2.2.2.2.2))))) (.opt (q8 n (⟨#[34]⟩:BA) r29.2.1 r29.2.2.1 r29.2.2.2.1 r29.2.2.2.2.1 r29.2.2.2.2.2) fun r32=>(.ask (r32.1) (.opt (qGZ n r32.2.1 r32.2.2.1 r32.2.2.2.1 r32.2.2.2.2.1 r32.2.2.2.2.2) fun r40=>(.done (r40.1,r40.2.1,r40.2.2.1,r40.2.2.2.1,r40.2.2.2.2.1,r40.2.2.2.2.2))) (.opt (q8 n (⟨#[35]⟩:BA) r32.2.1 r32.2.2.1 r32.2.2.2.1 r32.2.2.2.2.1 r32.2.2.2.2.2) fun r41=>(.ask (r41.1) (.opt (zL (qCH n) n ((1:Int),r41.2.1,r41.2.2.1,r41.2.2.2.1,r41.2.2.2.2.1,r41.2.2.2.2.2)) fun r45=>(.alt r45 (fun r46=>(.done (r46.1,r46.2.1,r46.2.2.1,r46.2.2.2.1,r46.2.2.2.2.1,r46.2.2.2.2.2))) (fun r47=>(.done ((0:Int),r47.1,r47.2.1,true,r47.2.2.2.1,r47.2.2.2.2))))) (.opt (qCt n r41.2.1 r41.2.2.1 r41.2.2.2.1 r41.2.2.2.2.1 r41.2.2.2.2.2) fun r59=>(.opt (zL (qC4 rec n) n (r59.1,(1:Int),r59.2.1,r59.2.2.1,r59.2.2.2.1,r59.2.2.2.2.1,r59.2.2.2.2.2)) fun r63=>(.alt r63 (fun r64=>(.done (r64.1,r64.2.1,r64.2.2.1,r64.2.2.2.1,r64.2.2.2.2.1,r64.2.2.2.2.2))) (fun r65=>(.opt (qAD n r65.1) fun r87=>(.ask (r87.2.2.2) (.ask ((!(r65.1.toList==(⟨#[]⟩:BA).toList))) (.opt (qm n (1:Int) (0:Int) r87.1 r87.2.1 r87.2.2.1 (0:Int) (0:Int) false false (0:Int) (0:Int) false false ([]:RW) r65.2.1 r65.2.2.1 r65.2.2.2.1 r65.2.2.2.2.1 r65.2.2.2.2.2) fun r88=>(.done (r88.1,r88.2.1,r88.2.2.1,r88.2.2.2.1,r88.2.2.2.2.1,r88.2.2.2.2.2))) (.opt (qAj n r65.1) fun r89=>(.ask ((!r89.2.2.2.2)) (.done ((0:Int),r65.2.1,r65.2.2.1,true,r65.2.2.2.2.1,r65.2.2.2.2.2)) (.opt (qm n (2:Int) (0:Int) (0:Int) (0:Int) (⟨#[]⟩:BA) r89.1 r89.2.1 r89.2.2.1 r89.2.2.2.1 (0:Int) (0:Int) false false ([]:RW) r65.2.1 r65.2.2.1 r65.2.2.2.1 r65.2.2.2.2.1 r65.2.2.2.2.2) fun r90=>(.done (r90.1,r90.2.1,r90.2.2.1,r90.2.2.2.1,r90.2.2.2.2.1,r90.2.2.2.2.2)))))) (.opt (qAj n r65.1) fun r91=>(.ask ((!r91.2.2.2.2)) (.done ((0:Int),r65.2.1,r65.2.2.1,true,r65.2.2.2.2.1,r65.2.2.2.2.2)) (.opt (qm n (2:Int) (0:Int) (0:Int) (0:Int) (⟨#[]⟩:BA) r91.1 r91.2.1 r91.2.2.1 r91.2.2.2.1 (0:Int) (0:Int) false false ([]:RW) r65.2.1 r65.2.2.1 r65.2.2.2.1 r65.2.2.2.2.1 r65.2.2.2.2.2) fun r92=>(.done (r92.1,r92.2.1,r92.2.2.1,r92.2.2.2.1,r92.2.2.2.2.1,r92.2.2.2.2.2)))))))))))))))))))
abbrev qJs (rec:G_spec_l3Rd_row) (n:Nat):zX:=zd [(159,zR (qH3 (⟨#[]⟩) (0) (false) (0) ([])) (qH4 (⟨#[]⟩) (0) (false) (0) ([])) (fun hs=>qQM rec hs) qM4 (zD)),(128,qF5 n (zD)),(83,qDU n (zD))]
def qHI (v:Int×Nat×RW×BA×Int×Bool×Nat×RW):St:=⟨[(0,(.c (.ptr 0 0 0 0 0))),(1,(ci v.1)),(5,(.c (.own 1 384 0 v.2.1)))],[(384,⟨0,1,2,(.row v.2.2.1)⟩)],[[(0,⟨0,4,50,(.box [(vs v.2.2.2.1),(vi v.2.2.2.2.1),(vb v.2.2.2.2.2.1),(.own 0 1 1 v.2.2.2.2.2.2.1)])⟩),(1,⟨1,14,64,(.row v.2.2.2.2.2.2.2)⟩)]]⟩
def qD4 (rec:G_spec_l3Rd_row) (n:Nat) (v:Int×Nat×RW×BA×Int×Bool×Nat×RW):Tr ((Int×Nat×RW×BA×Int×Bool×Nat×RW)⊕((Int×BA×Int×Bool×Nat×RW)⊕(BA×Int×Bool×Nat×RW))):=(.ask ((!v.2.2.2.2.2.1)) (.opt (rec.spec_l3Rd_arg v.2.2.2.1 v.2.2.2.2.1 v.2.2.2.2.2.1 v.2.2.2.2.2.2.1 v.2.2.2.2.2.2.2) fun r64=>(.ask (decide (1=([[(.i .i64 r64.1)]]:RW).length)) (.ask (decide (v.2.1=v.2.2.1.length∧0<1∧0<8∧(v.2.1+([[(.i .i64 r64.1)]]:RW).length)*8≤140737488355328∧([[(.i .i64 r64.1)]]:RW).all (fun e=>e.length==1)=true)) (.opt (q8 n (⟨#[41]⟩:BA) r64.2.1 r64.2.2.1 r64.2.2.2.1 r64.2.2.2.2.1 r64.2.2.2.2.2) fun r65=>(.ask (r65.1) (.ask (decide ((v.2.1+1)=(v.2.2.1++([[(.i .i64 r64.1)]]:RW)).length)) (.opt (qm n (6:Int) v.1 (0:Int) (0:Int) (⟨#[]⟩:BA) (0:Int) (0:Int) false false (0:Int) (0:Int) false false (v.2.2.1++([[(.i .i64 r64.1)]]:RW)) r65.2.1 r65.2.2.1 r65.2.2.2.1 r65.2.2.2.2.1 r65.2.2.2.2.2) fun r66=>(.done (.inr (.inl ((r66.1,r66.2.1,r66.2.2.1,r66.2.2.2.1,r66.2.2.2.2.1,r66.2.2.2.2.2)))))) .fail) (.opt (q8 n (⟨#[44]⟩:BA) r65.2.1 r65.2.2.1 r65.2.2.2.1 r65.2.2.2.2.1 r65.2.2.2.2.2) fun r67=>(.ask ((!r67.1)) (.done (.inl (v.1,(v.2.1+1),(v.2.2.1++([[(.i .i64 r64.1)]]:RW)),r67.2.1,r67.2.2.1,true,r67.2.2.2.2.1,r67.2.2.2.2.2))) (.done (.inl (v.1,(v.2.1+1),(v.2.2.1++([[(.i .i64 r64.1)]]:RW)),r67.2.1,r67.2.2.1,r67.2.2.2.1,r67.2.2.2.2.1,r67.2.2.2.2.2))))))) .fail) .fail)) (.done (.inr (.inr ((v.2.2.2.1,v.2.2.2.2.1,v.2.2.2.2.2.1,v.2.2.2.2.2.2.1,v.2.2.2.2.2.2.2))))))
def qHJ:((Int×BA×Int×Bool×Nat×RW)⊕(BA×Int×Bool×Nat×RW))→Ex×St:=fun| .inl r=>(.ret,⟨[(4,(ci r.1))],[],[[(0,⟨0,4,50,(.box [(vs r.2.1),(vi r.2.2.1),(vb r.2.2.2.1),(.own 0 1 1 r.2.2.2.2.1)])⟩),(1,⟨1,14,64,(.row r.2.2.2.2.2)⟩)]]⟩)| .inr r=>(fun r=>((.exit 0),⟨[],[],[[(0,⟨0,4,50,(.box [(vs r.1),(vi r.2.1),(vb r.2.2.1),(.own 0 1 1 r.2.2.2.1)])⟩),(1,⟨1,14,64,(.row r.2.2.2.2)⟩)]]⟩)) r
def qVP:((Int×BA×Int×Bool×Nat×RW)⊕(BA×Int×Bool×Nat×RW))→Tr (Ex×St):=fun r=> .alt r (fun r=> .done (qHJ (.inl r))) (fun r=> .done (qHJ (.inr r)))
def qMP:zw→Option (Int×Nat×RW×BA×Int×Bool×Nat×RW)
 |([[[]],[[.i w0]],[[.n w1]]],[[[.r w2]]],[[[[.s w3],[.i w4],[.b w5],[.n w6]],[[.r w7]]]])=>some (w0,w1,w2,w3,w4,w5,w6,w7)
 |_=>none
abbrev qMQ (rec:G_spec_l3Rd_row) (n:Nat):St→Tr (Ex×St):=zp (qHI (0,0,[],⟨#[]⟩,0,false,0,[])) qMP (qD4 rec n) qVP n
abbrev qQN (rec:G_spec_l3Rd_row) (n:Nat):za:=zN [(14,qMQ rec n)]
def qR7 (rec:G_spec_l3Rd_row) (n:Nat) (x0:Int) (x1:BA) (x2:Int) (x3:Bool) (x4:Nat) (x5:RW):Tr (Int×BA×Int×Bool×Nat×RW):=(.opt (zL (qD4 rec n) n (x0,(0:Nat),([]:RW),x1,x2,x3,x4,x5)) fun r68=>(.alt r68 (fun r69=>(.done (r69.1,r69.2.1,r69.2.2.1,r69.2.2.2.1,r69.2.2.2.2.1,r69.2.2.2.2.2))) (fun r70=>(.done ((0:Int),r70.1,r70.2.1,r70.2.2.1,r70.2.2.2.1,r70.2.2.2.2)))))
abbrev qR8 (rec:G_spec_l3Rd_row) (n:Nat):zX:=zd [(34,qEl n (zD)),(131,qK6 n (zD)),(133,qK8 n (zD)),(128,qF5 n (zD)),(83,qDU n (zD)),(33,zR (qAp (0) (⟨#[]⟩) (0) (false) (0) ([])) (qAq (0) (⟨#[]⟩) (0) (false) (0) ([])) (fun hs=>qCO rec hs) qCW (zD))]
abbrev qab (rec:G_spec_l3Rd_row) (n:Nat):za:=zN []
def qTr (rec:G_spec_l3Rd_row) (n:Nat) (x0:BA) (x1:Int) (x2:Bool) (x3:Nat) (x4:RW):Tr (Int×BA×Int×Bool×Nat×RW):=(.opt (qBU n x0 x1 x2 x3 x4) fun r64=>(.opt (qCt n r64.1 r64.2.1 r64.2.2.1 r64.2.2.2.1 r64.2.2.2.2) fun r65=>(.opt (qAj n r65.1) fun r110=>(.ask (r110.2.2.2.2) (.opt (q8 n (⟨#[58]⟩:BA) r65.2.1 r65.2.2.1 r65.2.2.2.1 r65.2.2.2.2.1 r65.2.2.2.2.2) fun r111=>(.ask (r111.1) (.opt (qBU n r111.2.1 r111.2.2.1 r111.2.2.2.1 r111.2.2.2.2.1 r111.2.2.2.2.2) fun r112=>(.opt (qCt n r112.1 r112.2.1 r112.2.2.1 r112.2.2.2.1 r112.2.2.2.2) fun r113=>(.opt (qAj n r113.1) fun r114=>(.ask ((!r114.2.2.2.2)) (.done ((0:Int),r113.2.1,r113.2.2.1,true,r113.2.2.2.2.1,r113.2.2.2.2.2)) (.opt (qm n (3:Int) (0:Int) (0:Int) (0:Int) (⟨#[]⟩:BA) r110.1 r110.2.1 r110.2.2.1 r110.2.2.2.1 r114.1 r114.2.1 r114.2.2.1 r114.2.2.2.1 ([]:RW) r113.2.1 r113.2.2.1 r113.2.2.2.1 r113.2.2.2.2.1 r113.2.2.2.2.2) fun r115=>(.done (r115.1,r115.2.1,r115.2.2.1,r115.2.2.2.1,r115.2.2.2.2.1,r115.2.2.2.2.2))))))) (.opt (rec.spec_l3Rd_row (1:Int) r111.2.1 r64.2.1 r111.2.2.2.1 r111.2.2.2.2.1 r111.2.2.2.2.2) fun r116=>(.done (r116.1,r116.2.1,r116.2.2.1,r116.2.2.2.1,r116.2.2.2.2.1,r116.2.2.2.2.2))))) (.opt (rec.spec_l3Rd_row (1:Int) r65.2.1 r64.2.1 r65.2.2.2.1 r65.2.2.2.2.1 r65.2.2.2.2.2) fun r117=>(.done (r117.1,r117.2.1,r117.2.2.1,r117.2.2.2.1,r117.2.2.2.2.1,r117.2.2.2.2.2)))))))
def qO:Nat→G_spec_l3Rd_row
 |0=>⟨fun _ _ _ _ _ _=>none,fun _ _ _ _ _=>none,fun _ _ _ _ _ _=>none,fun _ _ _ _ _=>none⟩
 |n+1=>⟨fun x0 x1 x2 x3 x4 x5=>(qTp (qO n) n x0 x1 x2 x3 x4 x5).run,fun x0 x1 x2 x3 x4=>(qTq (qO n) n x0 x1 x2 x3 x4).run,fun x0 x1 x2 x3 x4 x5=>(qR7 (qO n) n x0 x1 x2 x3 x4 x5).run,fun x0 x1 x2 x3 x4=>(qTr (qO n) n x0 x1 x2 x3 x4).run⟩
def qFT (n:Nat) (x0:Int) (x1:BA) (x2:Int) (x3:Bool) (x4:Nat) (x5:RW):Option (Int×BA×Int×Bool×Nat×RW):=(qO n).spec_l3Rd_row x0 x1 x2 x3 x4 x5
def qTs (n:Nat) (x0:BA) (x1:Int) (x2:Bool) (x3:Nat) (x4:RW):Option (Int×BA×Int×Bool×Nat×RW):=(qO n).spec_l3Rd_one x0 x1 x2 x3 x4
def qR9 (n:Nat) (x0:Int) (x1:BA) (x2:Int) (x3:Bool) (x4:Nat) (x5:RW):Option (Int×BA×Int×Bool×Nat×RW):=(qO n).spec_l3Rd_call x0 x1 x2 x3 x4 x5
def qTt (n:Nat) (x0:BA) (x1:Int) (x2:Bool) (x3:Nat) (x4:RW):Option (Int×BA×Int×Bool×Nat×RW):=(qO n).spec_l3Rd_arg x0 x1 x2 x3 x4
theorem qac (rec:G_spec_l3Rd_row) (n:Nat) (x0:Int) (x1:BA) (x2:Int) (x3:Bool) (x4:Nat) (x5:RW):ze (qLC rec n) (qR5 rec n) qFQ (qAp x0 x1 x2 x3 x4 x5) (qAq x0 x1 x2 x3 x4 x5)=(qTp rec n x0 x1 x2 x3 x4 x5).bind fun r=> .done (qCW r):=by kernel_rfl
theorem qad (rec:G_spec_l3Rd_row) (n:Nat) (x0:BA) (x1:Int) (x2:Bool) (x3:Nat) (x4:RW):ze (qGi rec n) (qR6 rec n) qFS (qH1 x0 x1 x2 x3 x4) (qH2 x0 x1 x2 x3 x4)=(qTq rec n x0 x1 x2 x3 x4).bind fun r=> .done (qM3 r):=by kernel_rfl
theorem qZH (rec:G_spec_l3Rd_row) (n:Nat) (x0:Int) (x1:BA) (x2:Int) (x3:Bool) (x4:Nat) (x5:RW):ze (qJs rec n) (qQN rec n) qEM (qGg x0 x1 x2 x3 x4 x5) (qGh x0 x1 x2 x3 x4 x5)=(qR7 rec n x0 x1 x2 x3 x4 x5).bind fun r=> .done (qLB r):=by kernel_rfl
theorem qae (rec:G_spec_l3Rd_row) (n:Nat) (x0:BA) (x1:Int) (x2:Bool) (x3:Nat) (x4:RW):ze (qR8 rec n) (qab rec n) qHu (qH3 x0 x1 x2 x3 x4) (qH4 x0 x1 x2 x3 x4)=(qTr rec n x0 x1 x2 x3 x4).bind fun r=> .done (qM4 r):=by kernel_rfl
def qAO (n:Nat):Prop:=
 (∀(x0:Int) (x1:BA) (x2:Int) (x3:Bool) (x4:Nat) (x5:RW) r,qFT n x0 x1 x2 x3 x4 x5=some r→Rn n 33 (qAp x0 x1 x2 x3 x4 x5) (qAq x0 x1 x2 x3 x4 x5)=some (qCW r))∧
 (∀(x0:BA) (x1:Int) (x2:Bool) (x3:Nat) (x4:RW) r,qTs n x0 x1 x2 x3 x4=some r→Rn n 81 (qH1 x0 x1 x2 x3 x4) (qH2 x0 x1 x2 x3 x4)=some (qM3 r))∧
 (∀(x0:Int) (x1:BA) (x2:Int) (x3:Bool) (x4:Nat) (x5:RW) r,qR9 n x0 x1 x2 x3 x4 x5=some r→Rn n 132 (qGg x0 x1 x2 x3 x4 x5) (qGh x0 x1 x2 x3 x4 x5)=some (qLB r))∧
 (∀(x0:BA) (x1:Int) (x2:Bool) (x3:Nat) (x4:RW) r,qTt n x0 x1 x2 x3 x4=some r→Rn n 159 (qH3 x0 x1 x2 x3 x4) (qH4 x0 x1 x2 x3 x4)=some (qM4 r))
theorem qSA (n:Nat) (ih:qAO n):zW (qLC (qO n) n) (Rn n):=zA (zF (fun hs r h=>by
  unfold qQL at h
  split at h
  ·exact ⟨qH1 _ _ _ _ _,qH2 _ _ _ _ _,rfl,rfl,ih.2.1 _ _ _ _ _ r h⟩
  ·cases h) (zB)) (zA (zF (fun hs r h=>by
  unfold qCO at h
  split at h
  ·exact ⟨qAp _ _ _ _ _ _,qAq _ _ _ _ _ _,rfl,rfl,ih.1 _ _ _ _ _ _ r h⟩
  ·cases h) (zB)) (zA (qbu n (zB)) (zA (qEO n (zB)) (zG))))
theorem qWs (n:Nat) (v:Int×Int×BA×Int×Bool×Nat×RW):(zf (qLC (qO n) n) (zN []) qG9 (qIL v) []).bind (zx [0,1,5] [(.ret,[4]),((.exit 0),[5])])=(qEn (qO n) n v).bind (zAQ qIL qIM):=by
 obtain ⟨w0,w1,w2,w3,w4,w5,w6⟩:=v
 kernel_rfl
theorem qWt (n:Nat) (ih:qAO n):zAX (Rn n) n (62,[0,1,5],[(.ret,[4]),((.exit 0),[5])],qG9) (qNN (qO n) n):=fun st e s h=>
 zh (qSA n ih) (zI rfl) (qWs n) (fun r=>by
  rcases r with r|r<;>(intro h;cases h)) (fun r y h=>by
  rcases r with r|r<;>(cases h;rfl)) (fun hs v h=>by
  unfold qNM at h
  split at h<;>cases h
  rfl) h
theorem qaf (n:Nat) (ih:qAO n):zAK (qR5 (qO n) n) (Rn n) n qFQ.body:=lt1 rfl (qWt n ih)
theorem qLD (n:Nat) (ih:qAO n):zW (qGi (qO n) n) (Rn n):=zA (qHv n (zB)) (zA (zF (fun hs r h=>by
  unfold qCO at h
  split at h
  ·exact ⟨qAp _ _ _ _ _ _,qAq _ _ _ _ _ _,rfl,rfl,ih.1 _ _ _ _ _ _ r h⟩
  ·cases h) (zB)) (zA (qEO n (zB)) (zA (qY4 n (zB)) (zA (qOY n (zB)) (zA (qbf n (zB)) (zA (qP9 n (zB)) (zA (qZA n (zB)) (zA (zF (fun hs r h=>by
  unfold qOp at h
  split at h
  ·exact ⟨qGg _ _ _ _ _ _,qGh _ _ _ _ _ _,rfl,rfl,ih.2.2.1 _ _ _ _ _ _ r h⟩
  ·cases h) (zB)) (zA (qQK n (zB)) (zA (qQG n (zB)) (zG)))))))))))
theorem qUZ (n:Nat) (v:Int×BA×Int×Bool×Nat×RW):(zf (qGi (qO n) n) (zN []) qDD (qF8 v) []).bind (zx [0,5] [(.ret,[2]),((.exit 1),[0]),((.exit 0),[0])])=(qCH n v).bind (zAQ qF8 qF9):=by
 obtain ⟨w0,w1,w2,w3,w4,w5⟩:=v
 kernel_rfl
theorem qUa (n:Nat) (ih:qAO n):zAX (Rn n) n (7161,[0,5],[(.ret,[2]),((.exit 1),[0]),((.exit 0),[0])],qDD) (qFb n):=fun st e s h=>
 zh (qLD n ih) (zI rfl) (qUZ n) (fun r=>by
  rcases r with r|r<;>(intro h;cases h)) (fun r y h=>by
  rcases r with r|r<;>(cases h;rfl)) (fun hs v h=>by
  unfold qKi at h
  split at h<;>cases h
  rfl) h
theorem qWu (n:Nat) (v:BA×Int×BA×Int×Bool×Nat×RW):(zf (qGi (qO n) n) (zN []) qD0 (qIN v) []).bind (zx [0,7,8] [(.ret,[2]),((.exit 3),[0,7])])=(qC4 (qO n) n v).bind (zAQ qIN qIO):=by
 obtain ⟨w0,w1,w2,w3,w4,w5,w6⟩:=v
 kernel_rfl
theorem qWv (n:Nat) (ih:qAO n):zAX (Rn n) n (61,[0,7,8],[(.ret,[2]),((.exit 3),[0,7])],qD0) (qHH (qO n) n):=fun st e s h=>
 zh (qLD n ih) (zI rfl) (qWu n) (fun r=>by
  rcases r with r|r<;>(intro h;cases h)) (fun r y h=>by
  rcases r with r|r<;>(cases h;rfl)) (fun hs v h=>by
  unfold qNO at h
  split at h<;>cases h
  rfl) h
theorem qag (n:Nat) (ih:qAO n):zAK (qR6 (qO n) n) (Rn n) n qFS.body:=zCt (by
 intro x hx
 have hx:x∈([(7161,[0,5],[(.ret,[2]),((.exit 1),[0]),((.exit 0),[0])],qDD),(61,[0,7,8],[(.ret,[2]),((.exit 3),[0,7])],qD0)]:List (Nat×List Nat×List (Ex×List Nat)×KCode)):=hx
 simp only [List.mem_cons,List.not_mem_nil,or_false] at hx
 rcases hx with rfl|rfl
 ·exact ⟨qFb n,fun st=>rfl,qUa n ih⟩
 ·exact ⟨qHH (qO n) n,fun st=>rfl,qWv n ih⟩)
theorem qQO (n:Nat) (ih:qAO n):zW (qJs (qO n) n) (Rn n):=zA (zF (fun hs r h=>by
  unfold qQM at h
  split at h
  ·exact ⟨qH3 _ _ _ _ _,qH4 _ _ _ _ _,rfl,rfl,ih.2.2.2 _ _ _ _ _ r h⟩
  ·cases h) (zB)) (zA (qHv n (zB)) (zA (qEO n (zB)) (zG)))
theorem qVQ (n:Nat) (v:Int×Nat×RW×BA×Int×Bool×Nat×RW):(zf (qJs (qO n) n) (zN []) qFz (qHI v) []).bind (zx [0,1,5] [(.ret,[4]),((.exit 0),[])])=(qD4 (qO n) n v).bind (zAQ qHI qHJ):=by
 obtain ⟨w0,w1,w2,w3,w4,w5,w6,w7⟩:=v
 kernel_rfl
theorem qVR (n:Nat) (ih:qAO n):zAX (Rn n) n (14,[0,1,5],[(.ret,[4]),((.exit 0),[])],qFz) (qMQ (qO n) n):=fun st e s h=>
 zh (qQO n ih) (zI rfl) (qVQ n) (fun r=>by
  rcases r with r|r<;>(intro h;cases h)) (fun r y h=>by
  rcases r with r|r<;>(cases h;rfl)) (fun hs v h=>by
  unfold qMP at h
  split at h<;>cases h
  rfl) h
theorem qZI (n:Nat) (ih:qAO n):zAK (qQN (qO n) n) (Rn n) n qEM.body:=lt1 rfl (qVR n ih)
theorem qah (n:Nat) (ih:qAO n):zW (qR8 (qO n) n) (Rn n):=zA (qHC n (zB)) (zA (qP9 n (zB)) (zA (qQG n (zB)) (zA (qHv n (zB)) (zA (qEO n (zB)) (zA (zF (fun hs r h=>by
  unfold qCO at h
  split at h
  ·exact ⟨qAp _ _ _ _ _ _,qAq _ _ _ _ _ _,rfl,rfl,ih.1 _ _ _ _ _ _ r h⟩
  ·cases h) (zB)) (zG))))))
theorem qBa:∀n,qAO n
 |0=>⟨(fun x0 x1 x2 x3 x4 x5 r h=>by have h:(none:Option _)=some r:=h;cases h),(fun x0 x1 x2 x3 x4 r h=>by have h:(none:Option _)=some r:=h;cases h),(fun x0 x1 x2 x3 x4 x5 r h=>by have h:(none:Option _)=some r:=h;cases h),(fun x0 x1 x2 x3 x4 r h=>by have h:(none:Option _)=some r:=h;cases h)⟩
 |n+1=>⟨(fun x0 x1 x2 x3 x4 x5 r h=>zH (kf:=qFQ) rfl (qSA n (qBa n)) (qaf n (qBa n)) (qac (qO n) n x0 x1 x2 x3 x4 x5) h),(fun x0 x1 x2 x3 x4 r h=>zH (kf:=qFS) rfl (qLD n (qBa n)) (qag n (qBa n)) (qad (qO n) n x0 x1 x2 x3 x4) h),(fun x0 x1 x2 x3 x4 x5 r h=>zH (kf:=qEM) rfl (qQO n (qBa n)) (qZI n (qBa n)) (qZH (qO n) n x0 x1 x2 x3 x4 x5) h),(fun x0 x1 x2 x3 x4 r h=>zH (kf:=qHu) rfl (qah n (qBa n)) (zI rfl) (qae (qO n) n x0 x1 x2 x3 x4) h)⟩
theorem qai (n:Nat) (x0:Int) (x1:BA) (x2:Int) (x3:Bool) (x4:Nat) (x5:RW) (r:Int×BA×Int×Bool×Nat×RW) (h:qFT n x0 x1 x2 x3 x4 x5=some r):Rn n 33 (qAp x0 x1 x2 x3 x4 x5) (qAq x0 x1 x2 x3 x4 x5)=some (qCW r):=(qBa n).1 x0 x1 x2 x3 x4 x5 r h
def qSB (n:Nat):zS→Option (Int×BA×Int×Bool×Nat×RW)
 |([[[]],[[.i x0]]],[[[[.s x1],[.i x2],[.b x3],[.n x4]],[[.r x5]]]])=>qFT n x0 x1 x2 x3 x4 x5
 |_=>none
def qTu (n:Nat) (d:ED):ED:=zR (qAp (0) (⟨#[]⟩) (0) (false) (0) ([])) (qAq (0) (⟨#[]⟩) (0) (false) (0) ([])) (qSB n) qCW d
theorem qaj (n:Nat) {d:ED} (hd:RK n 33 d):RK n 33 (qTu n d):=
 zF (fun hs r h=>by unfold qSB at h;split at h;exact ⟨qAp _ _ _ _ _ _,qAq _ _ _ _ _ _,rfl,rfl,qai n _ _ _ _ _ _ r h⟩;cases h) hd
def qB4 (x0:RW) (x1:Int):List AV:= [(.c (.p (.ls x0))),(ci x1)]
def qB5 (x0:RW) (x1:Int):FR:= []
def qDt (r:Int):Res:=⟨(ci r),[],[]⟩
def qTv (rec:RW→Int→Option (Int)):zS→Option (Int)
 |([[[.r x0]],[[.i x1]]],[])=>rec x0 x1
 |_=>none
abbrev qOq (rec:RW→Int→Option (Int)) (n:Nat):zX:=zd [(54,zR (qB4 ([]) (0)) (qB5 ([]) (0)) (fun hs=>qTv rec hs) qDt (zD))]
def qLE (v:RW×Int×Int×Int):St:=⟨[(0,(.c (.p (.ls v.1)))),(1,(ci v.2.1)),(5,(ci v.2.2.1)),(6,(ci v.2.2.2))],[],[]⟩
def qAw (rec:RW→Int→Option (Int)) (n:Nat) (v:RW×Int×Int×Int):Tr ((RW×Int×Int×Int)⊕((Int)⊕(Int))):=(.ask ((decide (v.2.2.2≥(0:Int)))) (.ask ((decide (v.2.2.1<(0:Int)))) (.done (.inr (.inl ((-1:Int))))) (.ask (decide (0≤v.2.1∧v.2.1<v.1.length)) (.opt (v.1[(v.2.1).toNat]?) fun e138=>(.ask (decide (e138.length=14)) (.opt (zBD e138 13) fun y139=>(.ask (decide (0≤v.2.2.2∧v.2.2.2<y139.length)) (.opt (y139[(v.2.2.2).toNat]?) fun e140=>(.ask (decide (e140.length=1)) (.opt (zU .i64 e140 0) fun y141=>(.ask ((y141 !=v.2.2.1)) (.done (.inr (.inl ((-1:Int))))) (.opt (rec v.1 v.2.2.1) fun r142=>(.ask ((decide (r142<(0:Int)))) (.done (.inr (.inl ((-1:Int))))) (.done (.inl (v.1,v.2.1,(IntKind.i64.wrap (r142-(1:Int))),(IntKind.i64.wrap (v.2.2.2-(1:Int)))))))))) .fail)) .fail)) .fail)) .fail)) (.done (.inr (.inr (v.2.2.1)))))
def qLF:((Int)⊕(Int))→Ex×St:=fun| .inl r=>(.ret,⟨[(4,(ci r))],[],[]⟩)| .inr r=>(fun r=>((.exit 0),⟨[(5,(ci r))],[],[]⟩)) r
def qZJ:((Int)⊕(Int))→Tr (Ex×St):=fun r=> .alt r (fun r=> .done (qLF (.inl r))) (fun r=> .done (qLF (.inr r)))
def qQP:zw→Option (RW×Int×Int×Int)
 |([[[.r w0]],[[.i w1]],[[.i w2]],[[.i w3]]],[],[])=>some (w0,w1,w2,w3)
 |_=>none
abbrev qQQ (rec:RW→Int→Option (Int)) (n:Nat):St→Tr (Ex×St):=zp (qLE ([],0,0,0)) qQP (qAw rec n) qZJ n
abbrev qVS (rec:RW→Int→Option (Int)) (n:Nat):za:=zN [(29,qQQ rec n)]
def qRI (rec:RW→Int→Option (Int)) (n:Nat) (x0:RW) (x1:Int):Tr (Int):=(.ask (decide (0≤x1∧x1<x0.length)) (.opt (x0[(x1).toNat]?) fun e136=>(.ask (decide (e136.length=14)) (.opt (zBD e136 13) fun y137=>(.opt (zL (qAw rec n) n (x0,x1,(IntKind.i64.wrap (x1-(1:Int))),(IntKind.i64.wrap ((y137.length:Int)-(1:Int))))) fun r143=>(.alt r143 (fun r144=>(.done r144)) (fun r145=>(.done (IntKind.i64.wrap (r145+(1:Int)))))))) .fail)) .fail)
def qv:Nat→RW→Int→Option (Int)
 |0,_,_=>none
 |n+1,x0,x1=>(qRI (qv n) n x0 x1).run
theorem qcw (rec:RW→Int→Option (Int)) (n:Nat) (x0:RW) (x1:Int):ze (qOq rec n) (qVS rec n) qHc (qB4 x0 x1) (qB5 x0 x1)=(qRI rec n x0 x1).bind fun r=> .done (qDt r):=by kernel_rfl
theorem qVT (n:Nat) (ih:∀(x0:RW) (x1:Int) r,qv n x0 x1=some r→Rn n 54 (qB4 x0 x1) (qB5 x0 x1)=some (qDt r)):zW (qOq (qv n) n) (Rn n):=zA (zF (fun hs r h=>by
  unfold qTv at h
  split at h
  ·exact ⟨qB4 _ _,qB5 _ _,rfl,rfl,ih _ _ r h⟩
  ·cases h) (zB)) (zG)
theorem qZK (n:Nat) (v:RW×Int×Int×Int):(zf (qOq (qv n) n) (zN []) qJA (qLE v) []).bind (zx [0,1,5,6] [(.ret,[4]),((.exit 0),[5])])=(qAw (qv n) n v).bind (zAQ qLE qLF):=by
 obtain ⟨w0,w1,w2,w3⟩:=v
 kernel_rfl
theorem qZL (n:Nat) (ih:∀(x0:RW) (x1:Int) r,qv n x0 x1=some r→Rn n 54 (qB4 x0 x1) (qB5 x0 x1)=some (qDt r)):zAX (Rn n) n (29,[0,1,5,6],[(.ret,[4]),((.exit 0),[5])],qJA) (qQQ (qv n) n):=fun st e s h=>
 zh (qVT n ih) (zI rfl) (qZK n) (fun r=>by
  rcases r with r|r<;>(intro h;cases h)) (fun r y h=>by
  rcases r with r|r<;>(cases h;rfl)) (fun hs v h=>by
  unfold qQP at h
  split at h<;>cases h
  rfl) h
theorem qcx (n:Nat) (ih:∀(x0:RW) (x1:Int) r,qv n x0 x1=some r→Rn n 54 (qB4 x0 x1) (qB5 x0 x1)=some (qDt r)):zAK (qVS (qv n) n) (Rn n) n qHc.body:=lt1 rfl (qZL n ih)
theorem qOr:∀(n:Nat) (x0:RW) (x1:Int) r,qv n x0 x1=some r→Rn n 54 (qB4 x0 x1) (qB5 x0 x1)=some (qDt r)
 |0,x0,x1,r,h=>by cases h
 |n+1,x0,x1,r,h=>zH (kf:=qHc) rfl (qVT n (qOr n)) (qcx n (qOr n)) (qcw (qv n) n x0 x1) h
def qVU (n:Nat):zS→Option (Int)
 |([[[.r x0]],[[.i x1]]],[])=>qv n x0 x1
 |_=>none
def qXu (n:Nat) (d:ED):ED:=zR (qB4 ([]) (0)) (qB5 ([]) (0)) (qVU n) qDt d
theorem qcy (n:Nat) {d:ED} (hd:RK n 54 d):RK n 54 (qXu n d):=
 zF (fun hs r h=>by unfold qVU at h;split at h;exact ⟨qB4 _ _,qB5 _ _,rfl,rfl,qOr n _ _ r h⟩;cases h) hd
def qB6 (x0:RW) (x1:Int):List AV:= [(.c (.p (.ls x0))),(ci x1)]
def qB7 (x0:RW) (x1:Int):FR:= []
def qDu (r:Int):Res:=⟨(ci r),[],[]⟩
def qTw (rec:RW→Int→Option (Int)):zS→Option (Int)
 |([[[.r x0]],[[.i x1]]],[])=>rec x0 x1
 |_=>none
abbrev qOs (rec:RW→Int→Option (Int)) (n:Nat):zX:=zd [(55,zR (qB6 ([]) (0)) (qB7 ([]) (0)) (fun hs=>qTw rec hs) qDu (zD))]
def qLG (v:RW×Int×Int×Int):St:=⟨[(0,(.c (.p (.ls v.1)))),(1,(ci v.2.1)),(5,(ci v.2.2.1)),(6,(ci v.2.2.2))],[],[]⟩
def qCv (rec:RW→Int→Option (Int)) (n:Nat) (v:RW×Int×Int×Int):Tr ((RW×Int×Int×Int)⊕((Int))):=(.ask (decide (0≤v.2.1∧v.2.1<v.1.length)) (.opt (v.1[(v.2.1).toNat]?) fun e149=>(.ask (decide (e149.length=14)) (.opt (zBD e149 13) fun y150=>(.ask ((decide (v.2.2.2<(y150.length:Int)))) (.ask (decide (0≤v.2.1∧v.2.1<v.1.length)) (.opt (v.1[(v.2.1).toNat]?) fun e151=>(.ask (decide (e151.length=14)) (.opt (zBD e151 13) fun y152=>(.ask (decide (0≤v.2.2.2∧v.2.2.2<y152.length)) (.opt (y152[(v.2.2.2).toNat]?) fun e153=>(.ask (decide (e153.length=1)) (.opt (zU .i64 e153 0) fun y154=>(.opt (rec v.1 y154) fun r155=>(.done (.inl (v.1,v.2.1,(if r155>v.2.2.1 then r155 else v.2.2.1),(IntKind.i64.wrap (v.2.2.2+(1:Int)))))))) .fail)) .fail)) .fail)) .fail) (.done (.inr (v.2.2.1))))) .fail)) .fail)
def qSC:(Int)→Ex×St:=fun r=>((.exit 0),⟨[(5,(ci r))],[],[]⟩)
def qZM:(Int)→Tr (Ex×St):=fun r=> .done (qSC r)
def qQR:zw→Option (RW×Int×Int×Int)
 |([[[.r w0]],[[.i w1]],[[.i w2]],[[.i w3]]],[],[])=>some (w0,w1,w2,w3)
 |_=>none
abbrev qQS (rec:RW→Int→Option (Int)) (n:Nat):St→Tr (Ex×St):=zp (qLG ([],0,0,0)) qQR (qCv rec n) qZM n
abbrev qVV (rec:RW→Int→Option (Int)) (n:Nat):za:=zN [(29,qQS rec n)]
def qRJ (rec:RW→Int→Option (Int)) (n:Nat) (x0:RW) (x1:Int):Tr (Int):=(.opt (zL (qCv rec n) n (x0,x1,(0:Int),(0:Int))) fun r156=>(.done (IntKind.i64.wrap (r156+(1:Int)))))
def qw:Nat→RW→Int→Option (Int)
 |0,_,_=>none
 |n+1,x0,x1=>(qRJ (qw n) n x0 x1).run
theorem qcz (rec:RW→Int→Option (Int)) (n:Nat) (x0:RW) (x1:Int):ze (qOs rec n) (qVV rec n) qHd (qB6 x0 x1) (qB7 x0 x1)=(qRJ rec n x0 x1).bind fun r=> .done (qDu r):=by kernel_rfl
theorem qVW (n:Nat) (ih:∀(x0:RW) (x1:Int) r,qw n x0 x1=some r→Rn n 55 (qB6 x0 x1) (qB7 x0 x1)=some (qDu r)):zW (qOs (qw n) n) (Rn n):=zA (zF (fun hs r h=>by
  unfold qTw at h
  split at h
  ·exact ⟨qB6 _ _,qB7 _ _,rfl,rfl,ih _ _ r h⟩
  ·cases h) (zB)) (zG)
theorem qZN (n:Nat) (v:RW×Int×Int×Int):(zf (qOs (qw n) n) (zN []) qJB (qLG v) []).bind (zx [0,1,5,6] [(.ret,[4]),((.exit 0),[5])])=(qCv (qw n) n v).bind (zAQ qLG qSC):=by
 obtain ⟨w0,w1,w2,w3⟩:=v
 kernel_rfl
theorem qZO (n:Nat) (ih:∀(x0:RW) (x1:Int) r,qw n x0 x1=some r→Rn n 55 (qB6 x0 x1) (qB7 x0 x1)=some (qDu r)):zAX (Rn n) n (29,[0,1,5,6],[(.ret,[4]),((.exit 0),[5])],qJB) (qQS (qw n) n):=fun st e s h=>
 zh (qVW n ih) (zI rfl) (qZN n) (fun r h=>by cases h) (fun r y h=>by cases h;rfl) (fun hs v h=>by
  unfold qQR at h
  split at h<;>cases h
  rfl) h
theorem qc0 (n:Nat) (ih:∀(x0:RW) (x1:Int) r,qw n x0 x1=some r→Rn n 55 (qB6 x0 x1) (qB7 x0 x1)=some (qDu r)):zAK (qVV (qw n) n) (Rn n) n qHd.body:=lt1 rfl (qZO n ih)
theorem qOt:∀(n:Nat) (x0:RW) (x1:Int) r,qw n x0 x1=some r→Rn n 55 (qB6 x0 x1) (qB7 x0 x1)=some (qDu r)
 |0,x0,x1,r,h=>by cases h
 |n+1,x0,x1,r,h=>zH (kf:=qHd) rfl (qVW n (qOt n)) (qc0 n (qOt n)) (qcz (qw n) n x0 x1) h
def qVX (n:Nat):zS→Option (Int)
 |([[[.r x0]],[[.i x1]]],[])=>qw n x0 x1
 |_=>none
def qXv (n:Nat) (d:ED):ED:=zR (qB6 ([]) (0)) (qB7 ([]) (0)) (qVX n) qDu d
theorem qc1 (n:Nat) {d:ED} (hd:RK n 55 d):RK n 55 (qXv n d):=
 zF (fun hs r h=>by unfold qVX at h;split at h;exact ⟨qB6 _ _,qB7 _ _,rfl,rfl,qOt n _ _ r h⟩;cases h) hd
def qGj (x0:RW):List AV:= [(.c (.p (.ls x0)))]
def qGk (x0:RW):FR:= []
def qLH (r:Bool):Res:=⟨(cb r),[],[]⟩
abbrev qFn (n:Nat):zX:=zd [(52,qMw n (zD)),(53,qIo n (zD)),(54,qXu n (zD)),(55,qXv n (zD))]
def qGA (v:RW×Int×Int):St:=⟨[(0,(.c (.p (.ls v.1)))),(3,(ci v.2.1)),(4,(ci v.2.2))],[],[]⟩
def qAS (n:Nat) (v:RW×Int×Int):Tr ((RW×Int×Int)⊕((Bool)⊕(RW×Int))):=(.ask (decide (0≤v.2.1∧v.2.1<v.1.length)) (.opt (v.1[(v.2.1).toNat]?) fun e119=>(.ask (decide (e119.length=14)) (.opt (zBD e119 13) fun y120=>(.ask ((decide (v.2.2<(y120.length:Int)))) (.ask (decide (0≤v.2.1∧v.2.1<v.1.length)) (.opt (v.1[(v.2.1).toNat]?) fun e121=>(.ask (decide (e121.length=14)) (.opt (zBD e121 13) fun y122=>(.ask (decide (0≤v.2.2∧v.2.2<y122.length)) (.opt (y122[(v.2.2).toNat]?) fun e123=>(.ask (decide (e123.length=1)) (.opt (zU .i64 e123 0) fun y124=>(.opt (qBK n y124 (0:Int) (IntKind.i64.wrap (v.2.1-(1:Int)))) fun r125=>(.ask ((!r125)) (.done (.inr (.inl (false)))) (.ask (decide (0≤y124∧y124<v.1.length)) (.opt (v.1[(y124).toNat]?) fun e126=>(.ask (decide (e126.length=14)) (.opt (zU .i64 e126 0) fun y127=>(.ask ((y127==(3:Int))) (.ask (decide (0≤v.2.1∧v.2.1<v.1.length)) (.opt (v.1[(v.2.1).toNat]?) fun e128=>(.ask (decide (e128.length=14)) (.opt (zU .i64 e128 0) fun y129=>(.ask ((y129 !=(6:Int))) (.done (.inr (.inl (false)))) (.done (.inl (v.1,v.2.1,(IntKind.i64.wrap (v.2.2+(1:Int)))))))) .fail)) .fail) (.done (.inl (v.1,v.2.1,(IntKind.i64.wrap (v.2.2+(1:Int)))))))) .fail)) .fail)))) .fail)) .fail)) .fail)) .fail) (.done (.inr (.inr ((v.1,v.2.1))))))) .fail)) .fail)
def qGB:((Bool)⊕(RW×Int))→Ex×St:=fun| .inl r=>(.ret,⟨[(2,(cb r))],[],[]⟩)| .inr r=>(fun r=>((.exit 2),⟨[(0,(.c (.p (.ls r.1)))),(3,(ci r.2))],[],[]⟩)) r
def qUb:((Bool)⊕(RW×Int))→Tr (Ex×St):=fun r=> .alt r (fun r=> .done (qGB (.inl r))) (fun r=> .done (qGB (.inr r)))
def qKj:zw→Option (RW×Int×Int)
 |([[[.r w0]],[[.i w1]],[[.i w2]]],[],[])=>some (w0,w1,w2)
 |_=>none
abbrev qDF (n:Nat):St→Tr (Ex×St):=zp (qGA ([],0,0)) qKj (qAS n) qUb n
def qHK (v:RW×Int):St:=⟨[(0,(.c (.p (.ls v.1)))),(3,(ci v.2))],[],[]⟩
def qAz (n:Nat) (v:RW×Int):Tr ((RW×Int)⊕((Bool)⊕(RW))):=(.ask ((decide (v.2<(v.1.length:Int)))) (.ask (decide (0≤v.2∧v.2<v.1.length)) (.opt (v.1[(v.2).toNat]?) fun e103=>(.ask (decide (e103.length=14)) (.opt (zU .i64 e103 0) fun y104=>(.opt (zU .i64 e103 1) fun y105=>(.opt (zU .i64 e103 2) fun y106=>(.opt (zU .i64 e103 3) fun y107=>(.opt (zAv e103 4) fun y108=>(.opt (zU .i64 e103 5) fun y109=>(.opt (zU .i64 e103 6) fun y110=>(.opt (zAd e103 7) fun y111=>(.opt (zAd e103 8) fun y112=>(.opt (zU .i64 e103 9) fun y113=>(.opt (zU .i64 e103 10) fun y114=>(.opt (zAd e103 11) fun y115=>(.opt (zAd e103 12) fun y116=>(.opt (zBD e103 13) fun y117=>(.opt (qBt n y104 y105 y106 y107 y108 y109 y110 y111 y112 y113 y114 y115 y116 y117) fun r118=>(.ask ((!r118)) (.done (.inr (.inl (false)))) (.opt (zL (qAS n) n (v.1,v.2,(0:Int))) fun r130=>(.alt r130 (fun r131=>(.done (.inr (.inl (r131))))) (fun r132=>(.done (.inl (r132.1,(IntKind.i64.wrap (r132.2+(1:Int))))))))))))))))))))))))) .fail)) .fail) (.done (.inr (.inr (v.1)))))
def qHL:((Bool)⊕(RW))→Ex×St:=fun| .inl r=>(.ret,⟨[(2,(cb r))],[],[]⟩)| .inr r=>(fun r=>((.exit 0),⟨[(0,(.c (.p (.ls r))))],[],[]⟩)) r
def qVY:((Bool)⊕(RW))→Tr (Ex×St):=fun r=> .alt r (fun r=> .done (qHL (.inl r))) (fun r=> .done (qHL (.inr r)))
def qMR:zw→Option (RW×Int)
 |([[[.r w0]],[[.i w1]]],[],[])=>some (w0,w1)
 |_=>none
abbrev qMS (n:Nat):St→Tr (Ex×St):=zp (qHK ([],0)) qMR (qAz n) qVY n
abbrev qQT (n:Nat):za:=zN [(29,qMS n)]
def qEP (n:Nat) (x0:RW):Tr (Bool):=(.ask ((decide ((x0.length:Int)<(1:Int)))) (.done false) (.ask ((decide ((x0.length:Int)>(60:Int)))) (.done false) (.opt (zL (qAz n) n (x0,(0:Int))) fun r133=>(.alt r133 (fun r134=>(.done r134)) (fun r135=>(.opt (qv n r135 (IntKind.i64.wrap ((r135.length:Int)-(1:Int)))) fun r146=>(.ask ((r146==(0:Int))) (.ask (decide (0≤(IntKind.i64.wrap ((r135.length:Int)-(1:Int)))∧(IntKind.i64.wrap ((r135.length:Int)-(1:Int)))<r135.length)) (.opt (r135[((IntKind.i64.wrap ((r135.length:Int)-(1:Int)))).toNat]?) fun e147=>(.ask (decide (e147.length=14)) (.opt (zU .i64 e147 0) fun y148=>(.ask ((y148 !=(3:Int))) (.opt (qw n r135 (IntKind.i64.wrap ((r135.length:Int)-(1:Int)))) fun r157=>(.done (decide (r157≤(12:Int))))) (.done false))) .fail)) .fail) (.done false))))))))
def qBb:Nat→RW→Option (Bool)
 |0,_=>none
 |n+1,x0=>(qEP n x0).run
theorem qZP (n:Nat) (x0:RW):ze (qFn n) (qQT n) qEF (qGj x0) (qGk x0)=(qEP n x0).bind fun r=> .done (qLH r):=by kernel_rfl
theorem qJt (n:Nat):zW (qFn n) (Rn n):=zA (qRu n (zB)) (zA (qJS n (zB)) (zA (qcy n (zB)) (zA (qc1 n (zB)) (zG))))
theorem qUc (n:Nat) (v:RW×Int×Int):(zf (qFn n) (zN []) qDC (qGA v) []).bind (zx [0,3,4] [(.ret,[2]),((.exit 2),[0,3]),((.exit 1),[0,3]),((.exit 0),[0])])=(qAS n v).bind (zAQ qGA qGB):=by
 obtain ⟨w0,w1,w2⟩:=v
 kernel_rfl
theorem qUd (n:Nat):zAX (Rn n) n (475,[0,3,4],[(.ret,[2]),((.exit 2),[0,3]),((.exit 1),[0,3]),((.exit 0),[0])],qDC) (qDF n):=fun st e s h=>
 zh (qJt n) (zI rfl) (qUc n) (fun r=>by
  rcases r with r|r<;>(intro h;cases h)) (fun r y h=>by
  rcases r with r|r<;>(cases h;rfl)) (fun hs v h=>by
  unfold qKj at h
  split at h<;>cases h
  rfl) h
theorem qVZ (n:Nat):zAK (zN [(475,qDF n)]) (Rn n) n qDW:=zCt (by
 intro x hx
 have hx:x∈([(475,[0,3,4],[(.ret,[2]),((.exit 2),[0,3]),((.exit 1),[0,3]),((.exit 0),[0])],qDC)]:List (Nat×List Nat×List (Ex×List Nat)×KCode)):=hx
 simp only [List.mem_cons,List.not_mem_nil,or_false] at hx
 rcases hx with rfl
 ·exact ⟨qDF n,fun st=>rfl,qUd n⟩)
theorem qVa (n:Nat) (v:RW×Int):(zf (qFn n) (zN [(475,qDF n)]) qDW (qHK v) []).bind (zx [0,3] [(.ret,[2]),((.exit 0),[0])])=(qAz n v).bind (zAQ qHK qHL):=by
 obtain ⟨w0,w1⟩:=v
 kernel_rfl
theorem qVb (n:Nat):zAX (Rn n) n (29,[0,3],[(.ret,[2]),((.exit 0),[0])],qDW) (qMS n):=fun st e s h=>
 zh (qJt n) (qVZ n) (qVa n) (fun r=>by
  rcases r with r|r<;>(intro h;cases h)) (fun r y h=>by
  rcases r with r|r<;>(cases h;rfl)) (fun hs v h=>by
  unfold qMR at h
  split at h<;>cases h
  rfl) h
theorem qZQ (n:Nat):zAK (qQT n) (Rn n) n qEF.body:=lt1 rfl (qVb n)
theorem qZR:∀(n:Nat) (x0:RW) r,qBb n x0=some r→Rn n 21 (qGj x0) (qGk x0)=some (qLH r)
 |0,x0,r,h=>by cases h
 |n+1,x0,r,h=>zH (kf:=qEF) rfl (qJt n) (qZQ n) (qZP n x0) h
def qQU (n:Nat):zS→Option (Bool)
 |([[[.r x0]]],[])=>qBb n x0
 |_=>none
def qLI (n:Nat) (d:ED):ED:=zR (qGj ([])) (qGk ([])) (qQU n) qLH d
theorem qQV (n:Nat) {d:ED} (hd:RK n 21 d):RK n 21 (qLI n d):=
 zF (fun hs r h=>by unfold qQU at h;split at h;exact ⟨qGj _,qGk _,rfl,rfl,qZR n _ r h⟩;cases h) hd
def qEo (x0:BA):List AV:= [(cs x0)]
def qEp (x0:BA):FR:= []
def qIP (r:RW×Bool):Res:=⟨(.tup [(false,[(.p (.ls r.1))]),(false,[(vb r.2)])]),[],[]⟩
abbrev qNP (n:Nat):zX:=zd [(32,qJP n (zD)),(33,qTu n (zD)),(34,qEl n (zD)),(21,qLI n (zD))]
abbrev qWw (n:Nat):za:=zN []
def qOu (n:Nat) (x0:BA):Tr (RW×Bool):=(.opt (qC1 n x0) fun r8=>(.ask ((!r8)) (.ask (decide (0=([]:RW).length)) (.done (([]:RW),false)) .fail) (.opt (qFT n (1:Int) x0 (0:Int) false (0:Nat) ([]:RW)) fun r101=>(.opt (qBU n r101.2.1 r101.2.2.1 r101.2.2.2.1 r101.2.2.2.2.1 r101.2.2.2.2.2) fun r102=>(.ask (r102.2.2.1) (.ask (decide (0=([]:RW).length)) (.done (([]:RW),false)) .fail) (.ask ((decide (r102.2.1<(x0.size:Int)))) (.ask (decide (0=([]:RW).length)) (.done (([]:RW),false)) .fail) (.ask (decide (r102.2.2.2.1=r102.2.2.2.2.length)) (.opt (qBb n r102.2.2.2.2) fun r158=>(.ask (zBT (⟨(.c (.p (.b r158))),[],[]⟩:Res)) (.ask ((!r158)) (.ask (decide (0=([]:RW).length)) (.done (([]:RW),false)) .fail) (.ask (decide (r102.2.2.2.1=r102.2.2.2.2.length)) (.done (r102.2.2.2.2,true)) .fail)) .fail)) .fail)))))))
def qEq:Nat→BA→Option (RW×Bool)
 |0,_=>none
 |n+1,x0=>(qOu n x0).run
theorem qWx (n:Nat) (x0:BA):ze (qNP n) (qWw n) qEZ (qEo x0) (qEp x0)=(qOu n x0).bind fun r=> .done (qIP r):=by kernel_rfl
theorem qWy (n:Nat):zW (qNP n) (Rn n):=zA (qMt n (zB)) (zA (qaj n (zB)) (zA (qHC n (zB)) (zA (qQV n (zB)) (zG))))
theorem qWz:∀(n:Nat) (x0:BA) r,qEq n x0=some r→Rn n 9 (qEo x0) (qEp x0)=some (qIP r)
 |0,x0,r,h=>by cases h
 |n+1,x0,r,h=>zH (kf:=qEZ) rfl (qWy n) (zI rfl) (qWx n x0) h
def qNQ (n:Nat):zS→Option (RW×Bool)
 |([[[.s x0]]],[])=>qEq n x0
 |_=>none
def qOv (n:Nat) (d:ED):ED:=zR (qEo (⟨#[]⟩)) (qEp (⟨#[]⟩)) (qNQ n) qIP d
theorem qW0 (n:Nat) {d:ED} (hd:RK n 9 d):RK n 9 (qOv n d):=
 zF (fun hs r h=>by unfold qNQ at h;split at h;exact ⟨qEo _,qEp _,rfl,rfl,qWz n _ r h⟩;cases h) hd
def qJu (x0:BA):List AV:= [(cs x0)]
def qJv (x0:BA):FR:= []
def qOw (r:BA):Res:=⟨(cs r),[],[]⟩
abbrev qM5 (n:Nat):zX:=zd []
def qJw (v:BA×BA×Int):St:=⟨[(0,(cs v.1)),(3,(cs v.2.1)),(4,(ci v.2.2))],[],[]⟩
def qBM (n:Nat) (v:BA×BA×Int):Tr ((BA×BA×Int)⊕((BA))):=(.ask ((decide (v.2.2<(v.1.size:Int)))) (.ask (decide (0≤v.2.2)) (.opt (v.1.toList[(v.2.2).toNat]?) fun c176=>(.ask (((c176.toNat:Int)==(34:Int))) (.ask (decide (v.2.1.size+(⟨#[34]⟩:BA).size≤9223372036854775807)) (.ask (decide (0≤v.2.2∧v.2.2≤(IntKind.i64.wrap (v.2.2+(1:Int)))∧(IntKind.i64.wrap (v.2.2+(1:Int)))≤v.1.size)) (.ask (decide ((v.2.1++(⟨#[34]⟩:BA)).size+(v.1.extract (v.2.2).toNat ((IntKind.i64.wrap (v.2.2+(1:Int)))).toNat).size≤9223372036854775807)) (.done (.inl (v.1,((v.2.1++(⟨#[34]⟩:BA))++(v.1.extract (v.2.2).toNat ((IntKind.i64.wrap (v.2.2+(1:Int)))).toNat)),(IntKind.i64.wrap (v.2.2+(1:Int)))))) .fail) .fail) .fail) (.ask (decide (0≤v.2.2∧v.2.2≤(IntKind.i64.wrap (v.2.2+(1:Int)))∧(IntKind.i64.wrap (v.2.2+(1:Int)))≤v.1.size)) (.ask (decide (v.2.1.size+(v.1.extract (v.2.2).toNat ((IntKind.i64.wrap (v.2.2+(1:Int)))).toNat).size≤9223372036854775807)) (.done (.inl (v.1,(v.2.1++(v.1.extract (v.2.2).toNat ((IntKind.i64.wrap (v.2.2+(1:Int)))).toNat)),(IntKind.i64.wrap (v.2.2+(1:Int)))))) .fail) .fail))) .fail) (.done (.inr (v.2.1))))
def qQW:(BA)→Ex×St:=fun r=>((.exit 0),⟨[(3,(cs r))],[],[]⟩)
def qYa:(BA)→Tr (Ex×St):=fun r=> .done (qQW r)
def qOx:zw→Option (BA×BA×Int)
 |([[[.s w0]],[[.s w1]],[[.i w2]]],[],[])=>some (w0,w1,w2)
 |_=>none
abbrev qOy (n:Nat):St→Tr (Ex×St):=zp (qJw (⟨#[]⟩,⟨#[]⟩,0)) qOx (qBM n) qYa n
abbrev qTx (n:Nat):za:=zN [(29,qOy n)]
def qOz (n:Nat) (x0:BA):Tr (BA):=(.opt (zL (qBM n) n (x0,(⟨#[34]⟩:BA),(0:Int))) fun r177=>(.ask (decide (r177.size+(⟨#[34]⟩:BA).size≤9223372036854775807)) (.done (r177++(⟨#[34]⟩:BA))) .fail))
def qGC:Nat→BA→Option (BA)
 |0,_=>none
 |n+1,x0=>(qOz n x0).run
theorem qbv (n:Nat) (x0:BA):ze (qM5 n) (qTx n) qFw (qJu x0) (qJv x0)=(qOz n x0).bind fun r=> .done (qOw r):=by kernel_rfl
theorem qTy (n:Nat):zW (qM5 n) (Rn n):=zG
theorem qYb (n:Nat) (v:BA×BA×Int):(zf (qM5 n) (zN []) qIG (qJw v) []).bind (zx [0,3,4] [(.ret,[2]),((.exit 0),[3])])=(qBM n v).bind (zAQ qJw qQW):=by
 obtain ⟨w0,w1,w2⟩:=v
 kernel_rfl
theorem qYc (n:Nat):zAX (Rn n) n (29,[0,3,4],[(.ret,[2]),((.exit 0),[3])],qIG) (qOy n):=fun st e s h=>
 zh (qTy n) (zI rfl) (qYb n) (fun r h=>by cases h) (fun r y h=>by cases h;rfl) (fun hs v h=>by
  unfold qOx at h
  split at h<;>cases h
  rfl) h
theorem qbw (n:Nat):zAK (qTx n) (Rn n) n qFw.body:=lt1 rfl (qYc n)
theorem qbx:∀(n:Nat) (x0:BA) r,qGC n x0=some r→Rn n 108 (qJu x0) (qJv x0)=some (qOw r)
 |0,x0,r,h=>by cases h
 |n+1,x0,r,h=>zH (kf:=qFw) rfl (qTy n) (qbw n) (qbv n x0) h
def qTz (n:Nat):zS→Option (BA)
 |([[[.s x0]]],[])=>qGC n x0
 |_=>none
def qVc (n:Nat) (d:ED):ED:=zR (qJu (⟨#[]⟩)) (qJv (⟨#[]⟩)) (qTz n) qOw d
theorem qby (n:Nat) {d:ED} (hd:RK n 108 d):RK n 108 (qVc n d):=
 zF (fun hs r h=>by unfold qTz at h;split at h;exact ⟨qJu _,qJv _,rfl,rfl,qbx n _ r h⟩;cases h) hd
def qCf (x0:Int):List AV:= [(ci x0)]
def qCg (x0:Int):FR:= []
def qEr (r:BA):Res:=⟨(cs r),[],[]⟩
def qVd (rec:Int→Option (BA)):zS→Option (BA)
 |([[[.i x0]]],[])=>rec x0
 |_=>none
abbrev qRK (rec:Int→Option (BA)) (n:Nat):zX:=zd [(96,zR (qCf (0)) (qCg (0)) (fun hs=>qVd rec hs) qEr (zD))]
def qM6 (v:Int×BA):St:=⟨[(0,(ci v.1)),(3,(cs v.2))],[],[]⟩
def qDV (n:Nat) (v:Int×BA):Tr ((Int×BA)⊕((Int×BA))):=(.ask ((decide (v.1≥(10:Int)))) (.ask (decide (1=([[(.i .u8 (IntKind.u8.wrap (IntKind.i64.wrap ((48:Int)+(Int.tmod v.1 (10:Int))))))]]:RW).length)) (.opt (bytesOf ([[(.i .u8 (IntKind.u8.wrap (IntKind.i64.wrap ((48:Int)+(Int.tmod v.1 (10:Int))))))]]:RW)) fun l181=>(.ask (decide ((⟨l181.toArray⟩:BA).size+v.2.size≤9223372036854775807)) (.done (.inl ((IntKind.i64.wrap (Int.tdiv v.1 (10:Int))),((⟨l181.toArray⟩:BA)++v.2)))) .fail)) .fail) (.done (.inr ((v.1,v.2)))))
def qT0:(Int×BA)→Ex×St:=fun r=>((.exit 0),⟨[(0,(ci r.1)),(3,(cs r.2))],[],[]⟩)
def qak:(Int×BA)→Tr (Ex×St):=fun r=> .done (qT0 r)
def qSD:zw→Option (Int×BA)
 |([[[.i w0]],[[.s w1]]],[],[])=>some (w0,w1)
 |_=>none
abbrev qSE (n:Nat):St→Tr (Ex×St):=zp (qM6 (0,⟨#[]⟩)) qSD (qDV n) qak n
abbrev qXw (rec:Int→Option (BA)) (n:Nat):za:=zN [(30,qSE n)]
def qOB (rec:Int→Option (BA)) (n:Nat) (x0:Int):Tr (BA):=(.ask ((decide (x0<(0:Int)))) (.opt (rec (IntKind.i64.wrap (0-x0))) fun r180=>(.ask (decide ((⟨#[45]⟩:BA).size+r180.size≤9223372036854775807)) (.done ((⟨#[45]⟩:BA)++r180)) .fail)) (.opt (zL (qDV n) n (x0,(⟨#[]⟩:BA))) fun r182=>(.ask (decide (1=([[(.i .u8 (IntKind.u8.wrap (IntKind.i64.wrap ((48:Int)+r182.1))))]]:RW).length)) (.opt (bytesOf ([[(.i .u8 (IntKind.u8.wrap (IntKind.i64.wrap ((48:Int)+r182.1))))]]:RW)) fun l183=>(.ask (decide ((⟨l183.toArray⟩:BA).size+r182.2.size≤9223372036854775807)) (.done ((⟨l183.toArray⟩:BA)++r182.2)) .fail)) .fail)))
def qAH:Nat→Int→Option (BA)
 |0,_=>none
 |n+1,x0=>(qOB (qAH n) n x0).run
theorem qd3 (rec:Int→Option (BA)) (n:Nat) (x0:Int):ze (qRK rec n) (qXw rec n) qJE (qCf x0) (qCg x0)=(qOB rec n x0).bind fun r=> .done (qEr r):=by kernel_rfl
theorem qXx (n:Nat) (ih:∀(x0:Int) r,qAH n x0=some r→Rn n 96 (qCf x0) (qCg x0)=some (qEr r)):zW (qRK (qAH n) n) (Rn n):=zA (zF (fun hs r h=>by
  unfold qVd at h
  split at h
  ·exact ⟨qCf _,qCg _,rfl,rfl,ih _ r h⟩
  ·cases h) (zB)) (zG)
theorem qal (n:Nat) (v:Int×BA):(zf (qRK (qAH n) n) (zN []) qK2 (qM6 v) []).bind (zx [0,3] [(.ret,[2]),((.exit 0),[0,3])])=(qDV n v).bind (zAQ qM6 qT0):=by
 obtain ⟨w0,w1⟩:=v
 kernel_rfl
theorem qam (n:Nat) (ih:∀(x0:Int) r,qAH n x0=some r→Rn n 96 (qCf x0) (qCg x0)=some (qEr r)):zAX (Rn n) n (30,[0,3],[(.ret,[2]),((.exit 0),[0,3])],qK2) (qSE n):=fun st e s h=>
 zh (qXx n ih) (zI rfl) (qal n) (fun r h=>by cases h) (fun r y h=>by cases h;rfl) (fun hs v h=>by
  unfold qSD at h
  split at h<;>cases h
  rfl) h
theorem qd4 (n:Nat) (ih:∀(x0:Int) r,qAH n x0=some r→Rn n 96 (qCf x0) (qCg x0)=some (qEr r)):zAK (qXw (qAH n) n) (Rn n) n qJE.body:=lt1 rfl (qam n ih)
theorem qRL:∀(n:Nat) (x0:Int) r,qAH n x0=some r→Rn n 96 (qCf x0) (qCg x0)=some (qEr r)
 |0,x0,r,h=>by cases h
 |n+1,x0,r,h=>zH (kf:=qJE) rfl (qXx n (qRL n)) (qd4 n (qRL n)) (qd3 (qAH n) n x0) h
def qXy (n:Nat):zS→Option (BA)
 |([[[.i x0]]],[])=>qAH n x0
 |_=>none
def qSr (n:Nat) (d:ED):ED:=zR (qCf (0)) (qCg (0)) (qXy n) qEr d
theorem qXz (n:Nat) {d:ED} (hd:RK n 96 d):RK n 96 (qSr n d):=
 zF (fun hs r h=>by unfold qXy at h;split at h;exact ⟨qCf _,qCg _,rfl,rfl,qRL n _ r h⟩;cases h) hd
def qL0 (x0:Int):List AV:= [(ci x0)]
def qL1 (x0:Int):FR:= []
def qRM (r:BA):Res:=⟨(cs r),[],[]⟩
abbrev qVe (n:Nat):zX:=zd []
abbrev qc2 (n:Nat):za:=zN []
def qRN (n:Nat) (x0:Int):Tr (BA):=(.ask ((x0==(1:Int))) (.done (⟨#[84,82,85,69]⟩:BA)) (.done (⟨#[70,65,76,83,69]⟩:BA)))
def qHg:Nat→Int→Option (BA)
 |0,_=>none
 |n+1,x0=>(qRN n x0).run
theorem qc3 (n:Nat) (x0:Int):ze (qVe n) (qc2 n) qLn (qL0 x0) (qL1 x0)=(qRN n x0).bind fun r=> .done (qRM r):=by kernel_rfl
theorem qc4 (n:Nat):zW (qVe n) (Rn n):=zG
theorem qc5:∀(n:Nat) (x0:Int) r,qHg n x0=some r→Rn n 115 (qL0 x0) (qL1 x0)=some (qRM r)
 |0,x0,r,h=>by cases h
 |n+1,x0,r,h=>zH (kf:=qLn) rfl (qc4 n) (zI rfl) (qc3 n x0) h
def qVf (n:Nat):zS→Option (BA)
 |([[[.i x0]]],[])=>qHg n x0
 |_=>none
def qX0 (n:Nat) (d:ED):ED:=zR (qL0 (0)) (qL1 (0)) (qVf n) qRM d
theorem qc6 (n:Nat) {d:ED} (hd:RK n 115 d):RK n 115 (qX0 n d):=
 zF (fun hs r h=>by unfold qVf at h;split at h;exact ⟨qL0 _,qL1 _,rfl,rfl,qc5 n _ r h⟩;cases h) hd
def qGl (x0 x1:Int) (x2:BA):List AV:= [(.agg [(vi x0),(vi x1),(vs x2)])]
def qGm (x0 x1:Int) (x2:BA):FR:= []
def qLJ (r:BA):Res:=⟨(cs r),[],[]⟩
abbrev qQX (n:Nat):zX:=zd [(111,qF6 n (zD)),(96,qSr n (zD)),(115,qX0 n (zD)),(116,qLx n (zD))]
abbrev qZS (n:Nat):za:=zN []
def qBc (n:Nat) (x0 x1:Int) (x2:BA):Tr (BA):=(.opt (qT n x0 x1 x2) fun r179=>(.ask ((!r179)) (.done (⟨#[]⟩:BA)) (.ask ((x0==(1:Int))) (.opt (qAH n x1) fun r184=>(.done r184)) (.ask ((x0==(2:Int))) (.ask (decide ((⟨#[39]⟩:BA).size+x2.size≤9223372036854775807)) (.done ((⟨#[39]⟩:BA)++x2)) .fail) (.ask ((x0==(3:Int))) (.opt (qHg n x1) fun r185=>(.done r185)) (.ask ((x0==(4:Int))) (.opt (qBO n x1) fun r186=>(.done r186)) (.done (⟨#[]⟩:BA))))))))
def qAJ:Nat→Int→Int→BA→Option (BA)
 |0,_,_,_=>none
 |n+1,x0,x1,x2=>(qBc n x0 x1 x2).run
theorem qZT (n:Nat) (x0 x1:Int) (x2:BA):ze (qQX n) (qZS n) qGR (qGl x0 x1 x2) (qGm x0 x1 x2)=(qBc n x0 x1 x2).bind fun r=> .done (qLJ r):=by kernel_rfl
theorem qZU (n:Nat):zW (qQX n) (Rn n):=zA (qHw n (zB)) (zA (qXz n (zB)) (zA (qc6 n (zB)) (zA (qOY n (zB)) (zG))))
theorem qZV:∀(n:Nat) (x0 x1:Int) (x2:BA) r,qAJ n x0 x1 x2=some r→Rn n 57 (qGl x0 x1 x2) (qGm x0 x1 x2)=some (qLJ r)
 |0,x0,x1,x2,r,h=>by cases h
 |n+1,x0,x1,x2,r,h=>zH (kf:=qGR) rfl (qZU n) (zI rfl) (qZT n x0 x1 x2) h
def qQY (n:Nat):zS→Option (BA)
 |([[[.i x0],[.i x1],[.s x2]]],[])=>qAJ n x0 x1 x2
 |_=>none
def qLK (n:Nat) (d:ED):ED:=zR (qGl (0) (0) (⟨#[]⟩)) (qGm (0) (0) (⟨#[]⟩)) (qQY n) qLJ d
theorem qQZ (n:Nat) {d:ED} (hd:RK n 57 d):RK n 57 (qLK n d):=
 zF (fun hs r h=>by unfold qQY at h;split at h;exact ⟨qGl _ _ _,qGm _ _ _,rfl,rfl,qZV n _ _ _ r h⟩;cases h) hd
def qGn (x0 x1:Int) (x2 x3:Bool):List AV:= [(.agg [(vi x0),(vi x1),(vb x2),(vb x3)])]
def qGo (x0 x1:Int) (x2 x3:Bool):FR:= []
def qLL (r:BA):Res:=⟨(cs r),[],[]⟩
abbrev qQa (n:Nat):zX:=zd [(74,qJV n (zD)),(139,qOe n (zD)),(96,qSr n (zD))]
abbrev qZW (n:Nat):za:=zN []
def qGp (n:Nat) (x0 x1:Int) (x2 x3:Bool):Tr (BA):=(.opt (qAR n x0 x1) fun r188=>(.ask ((!r188)) (.done (⟨#[]⟩:BA)) (.opt (qC3 n x0) fun r189=>(.ask (x2) (.ask (decide ((⟨#[36]⟩:BA).size+r189.size≤9223372036854775807)) (.ask (x3) (.ask (decide (((⟨#[36]⟩:BA)++r189).size+(⟨#[36]⟩:BA).size≤9223372036854775807)) (.opt (qAH n x1) fun r190=>(.ask (decide ((((⟨#[36]⟩:BA)++r189)++(⟨#[36]⟩:BA)).size+r190.size≤9223372036854775807)) (.done ((((⟨#[36]⟩:BA)++r189)++(⟨#[36]⟩:BA))++r190)) .fail)) .fail) (.opt (qAH n x1) fun r191=>(.ask (decide (((⟨#[36]⟩:BA)++r189).size+r191.size≤9223372036854775807)) (.done (((⟨#[36]⟩:BA)++r189)++r191)) .fail))) .fail) (.ask (x3) (.ask (decide (r189.size+(⟨#[36]⟩:BA).size≤9223372036854775807)) (.opt (qAH n x1) fun r192=>(.ask (decide ((r189++(⟨#[36]⟩:BA)).size+r192.size≤9223372036854775807)) (.done ((r189++(⟨#[36]⟩:BA))++r192)) .fail)) .fail) (.opt (qAH n x1) fun r193=>(.ask (decide (r189.size+r193.size≤9223372036854775807)) (.done (r189++r193)) .fail)))))))
def qBd:Nat→Int→Int→Bool→Bool→Option (BA)
 |0,_,_,_,_=>none
 |n+1,x0,x1,x2,x3=>(qGp n x0 x1 x2 x3).run
theorem qZX (n:Nat) (x0 x1:Int) (x2 x3:Bool):ze (qQa n) (qZW n) qGU (qGn x0 x1 x2 x3) (qGo x0 x1 x2 x3)=(qGp n x0 x1 x2 x3).bind fun r=> .done (qLL r):=by kernel_rfl
theorem qZY (n:Nat):zW (qQa n) (Rn n):=zA (qLq n (zB)) (zA (qTf n (zB)) (zA (qXz n (zB)) (zG)))
theorem qZZ:∀(n:Nat) (x0 x1:Int) (x2 x3:Bool) r,qBd n x0 x1 x2 x3=some r→Rn n 94 (qGn x0 x1 x2 x3) (qGo x0 x1 x2 x3)=some (qLL r)
 |0,x0,x1,x2,x3,r,h=>by cases h
 |n+1,x0,x1,x2,x3,r,h=>zH (kf:=qGU) rfl (qZY n) (zI rfl) (qZX n x0 x1 x2 x3) h
def qQb (n:Nat):zS→Option (BA)
 |([[[.i x0],[.i x1],[.b x2],[.b x3]]],[])=>qBd n x0 x1 x2 x3
 |_=>none
def qSF (n:Nat) (d:ED):ED:=zR (qGn (0) (0) (false) (false)) (qGo (0) (0) (false) (false)) (qQb n) qLL d
theorem qZa (n:Nat) {d:ED} (hd:RK n 94 d):RK n 94 (qSF n d):=
 zF (fun hs r h=>by unfold qQb at h;split at h;exact ⟨qGn _ _ _ _,qGo _ _ _ _,rfl,rfl,qZZ n _ _ _ _ r h⟩;cases h) hd
def qB8 (x0:RW) (x1 x2:Int):List AV:= [(.c (.p (.ls x0))),(ci x1),(ci x2)]
def qB9 (x0:RW) (x1 x2:Int):FR:= []
def qDv (r:BA):Res:=⟨(cs r),[],[]⟩
def qT1 (rec:RW→Int→Int→Option (BA)):zS→Option (BA)
 |([[[.r x0]],[[.i x1]],[[.i x2]]],[])=>rec x0 x1 x2
 |_=>none
abbrev qO0 (rec:RW→Int→Int→Option (BA)) (n:Nat):zX:=zd [(108,qVc n (zD)),(57,qLK n (zD)),(94,qSF n (zD)),(51,zR (qB8 ([]) (0) (0)) (qB9 ([]) (0) (0)) (fun hs=>qT1 rec hs) qDv (zD)),(109,qOl n (zD)),(98,qRH n (zD)),(110,qVF n (zD))]
def qJx (v:RW×BA×Int×Int×Int×Int×Int×BA×Int×Int×Bool×Bool×Int×Int×Bool×Bool×RW):St:=⟨[(0,(.c (.p (.ls v.1)))),(7,(.c (.ptr 0 448 0 0 0))),(10,(cs v.2.1)),(11,(ci v.2.2.1))],[(448,⟨0,14,64,(.box [(vi v.2.2.2.1),(vi v.2.2.2.2.1),(vi v.2.2.2.2.2.1),(vi v.2.2.2.2.2.2.1),(vs v.2.2.2.2.2.2.2.1),(vi v.2.2.2.2.2.2.2.2.1),(vi v.2.2.2.2.2.2.2.2.2.1),(vb v.2.2.2.2.2.2.2.2.2.2.1),(vb v.2.2.2.2.2.2.2.2.2.2.2.1),(vi v.2.2.2.2.2.2.2.2.2.2.2.2.1),(vi v.2.2.2.2.2.2.2.2.2.2.2.2.2.1),(vb v.2.2.2.2.2.2.2.2.2.2.2.2.2.2.1),(vb v.2.2.2.2.2.2.2.2.2.2.2.2.2.2.2.1),(.p (.ls v.2.2.2.2.2.2.2.2.2.2.2.2.2.2.2.2))])⟩)],[]⟩
def qBN (rec:RW→Int→Int→Option (BA)) (n:Nat) (v:RW×BA×Int×Int×Int×Int×Int×BA×Int×Int×Bool×Bool×Int×Int×Bool×Bool×RW):Tr ((RW×BA×Int×Int×Int×Int×Int×BA×Int×Int×Bool×Bool×Int×Int×Bool×Bool×RW)⊕((BA))):=(.ask ((decide (v.2.2.1<(v.2.2.2.2.2.2.2.2.2.2.2.2.2.2.2.2.length:Int)))) (.ask ((decide (v.2.2.1>(0:Int)))) (.ask (decide (v.2.1.size+(⟨#[44]⟩:BA).size≤9223372036854775807)) (.ask (decide (0≤v.2.2.1∧v.2.2.1<v.2.2.2.2.2.2.2.2.2.2.2.2.2.2.2.2.length)) (.opt (v.2.2.2.2.2.2.2.2.2.2.2.2.2.2.2.2[(v.2.2.1).toNat]?) fun e209=>(.ask (decide (e209.length=1)) (.opt (zU .i64 e209 0) fun y210=>(.opt (rec v.1 y210 (0:Int)) fun r211=>(.ask (decide ((v.2.1++(⟨#[44]⟩:BA)).size+r211.size≤9223372036854775807)) (.done (.inl (v.1,((v.2.1++(⟨#[44]⟩:BA))++r211),(IntKind.i64.wrap (v.2.2.1+(1:Int))),v.2.2.2.1,v.2.2.2.2.1,v.2.2.2.2.2.1,v.2.2.2.2.2.2.1,v.2.2.2.2.2.2.2.1,v.2.2.2.2.2.2.2.2.1,v.2.2.2.2.2.2.2.2.2.1,v.2.2.2.2.2.2.2.2.2.2.1,v.2.2.2.2.2.2.2.2.2.2.2.1,v.2.2.2.2.2.2.2.2.2.2.2.2.1,v.2.2.2.2.2.2.2.2.2.2.2.2.2.1,v.2.2.2.2.2.2.2.2.2.2.2.2.2.2.1,v.2.2.2.2.2.2.2.2.2.2.2.2.2.2.2.1,v.2.2.2.2.2.2.2.2.2.2.2.2.2.2.2.2))) .fail))) .fail)) .fail) .fail) (.ask (decide (0≤v.2.2.1∧v.2.2.1<v.2.2.2.2.2.2.2.2.2.2.2.2.2.2.2.2.length)) (.opt (v.2.2.2.2.2.2.2.2.2.2.2.2.2.2.2.2[(v.2.2.1).toNat]?) fun e212=>(.ask (decide (e212.length=1)) (.opt (zU .i64 e212 0) fun y213=>(.opt (rec v.1 y213 (0:Int)) fun r214=>(.ask (decide (v.2.1.size+r214.size≤9223372036854775807)) (.done (.inl (v.1,(v.2.1++r214),(IntKind.i64.wrap (v.2.2.1+(1:Int))),v.2.2.2.1,v.2.2.2.2.1,v.2.2.2.2.2.1,v.2.2.2.2.2.2.1,v.2.2.2.2.2.2.2.1,v.2.2.2.2.2.2.2.2.1,v.2.2.2.2.2.2.2.2.2.1,v.2.2.2.2.2.2.2.2.2.2.1,v.2.2.2.2.2.2.2.2.2.2.2.1,v.2.2.2.2.2.2.2.2.2.2.2.2.1,v.2.2.2.2.2.2.2.2.2.2.2.2.2.1,v.2.2.2.2.2.2.2.2.2.2.2.2.2.2.1,v.2.2.2.2.2.2.2.2.2.2.2.2.2.2.2.1,v.2.2.2.2.2.2.2.2.2.2.2.2.2.2.2.2))) .fail))) .fail)) .fail)) (.done (.inr (v.2.1))))
def qQc:(BA)→Ex×St:=fun r=>((.exit 1),⟨[(10,(cs r))],[],[]⟩)
def qYd:(BA)→Tr (Ex×St):=fun r=> .done (qQc r)
def qO1:zw→Option (RW×BA×Int×Int×Int×Int×Int×BA×Int×Int×Bool×Bool×Int×Int×Bool×Bool×RW)
 |([[[.r w0]],[[]],[[.s w1]],[[.i w2]]],[[[.i w3],[.i w4],[.i w5],[.i w6],[.s w7],[.i w8],[.i w9],[.b w10],[.b w11],[.i w12],[.i w13],[.b w14],[.b w15],[.r w16]]],[])=>some (w0,w1,w2,w3,w4,w5,w6,w7,w8,w9,w10,w11,w12,w13,w14,w15,w16)
 |_=>none
abbrev qO2 (rec:RW→Int→Int→Option (BA)) (n:Nat):St→Tr (Ex×St):=zp (qJx ([],⟨#[]⟩,0,0,0,0,0,⟨#[]⟩,0,0,false,false,0,0,false,false,[])) qO1 (qBN rec n) qYd n
abbrev qVg (rec:RW→Int→Int→Option (BA)) (n:Nat):za:=zN [(125,qO2 rec n)]
def qCA (rec:RW→Int→Int→Option (BA)) (n:Nat) (x0:RW) (x1 x2:Int):Tr (BA):=(.ask (decide (0≤x1∧x1<x0.length)) (.opt (x0[(x1).toNat]?) fun e161=>(.ask (decide (e161.length=14)) (.opt (zU .i64 e161 0) fun y162=>(.opt (zU .i64 e161 1) fun y163=>(.opt (zU .i64 e161 2) fun y164=>(.opt (zU .i64 e161 3) fun y165=>(.opt (zAv e161 4) fun y166=>(.opt (zU .i64 e161 5) fun y167=>(.opt (zU .i64 e161 6) fun y168=>(.opt (zAd e161 7) fun y169=>(.opt (zAd e161 8) fun y170=>(.opt (zU .i64 e161 9) fun y171=>(.opt (zU .i64 e161 10) fun y172=>(.opt (zAd e161 11) fun y173=>(.opt (zAd e161 12) fun y174=>(.opt (zBD e161 13) fun y175=>(.ask ((y162==(1:Int))) (.ask ((y164==(2:Int))) (.opt (qGC n y166) fun r178=>(.done r178)) (.opt (qAJ n y164 y165 y166) fun r187=>(.done r187))) (.ask ((y162==(2:Int))) (.opt (qBd n y167 y168 y169 y170) fun r194=>(.done r194)) (.ask ((y162==(3:Int))) (.opt (qBd n y167 y168 y169 y170) fun r195=>(.ask (decide (r195.size+(⟨#[58]⟩:BA).size≤9223372036854775807)) (.opt (qBd n y171 y172 y173 y174) fun r196=>(.ask (decide ((r195++(⟨#[58]⟩:BA)).size+r196.size≤9223372036854775807)) (.done ((r195++(⟨#[58]⟩:BA))++r196)) .fail)) .fail)) (.ask ((y162==(4:Int))) (.ask (decide (0≤(0:Int)∧(0:Int)<y175.length)) (.opt (y175[((0:Int)).toNat]?) fun e197=>(.ask (decide (e197.length=1)) (.opt (zU .i64 e197 0) fun y198=>(.opt (rec x0 y198 (5:Int)) fun r199=>(.ask (decide ((⟨#[45]⟩:BA).size+r199.size≤9223372036854775807)) (.done ((⟨#[45]⟩:BA)++r199)) .fail))) .fail)) .fail) (.ask ((y162==(5:Int))) (.opt (qCG n y163) fun r200=>(.ask (decide (0≤(0:Int)∧(0:Int)<y175.length)) (.opt (y175[((0:Int)).toNat]?) fun e201=>(.ask (decide (e201.length=1)) (.opt (zU .i64 e201 0) fun y202=>(.ask (decide (0≤(1:Int)∧(1:Int)<y175.length)) (.opt (y175[((1:Int)).toNat]?) fun e203=>(.ask (decide (e203.length=1)) (.opt (zU .i64 e203 0) fun y204=>(.opt (rec x0 y202 r200) fun r205=>(.opt (qCq n y163) fun r206=>(.ask (decide (r205.size+r206.size≤9223372036854775807)) (.opt (rec x0 y204 (IntKind.i64.wrap (r200+(1:Int)))) fun r207=>(.ask (decide ((r205++r206).size+r207.size≤9223372036854775807)) (.ask ((decide (r200<x2))) (.ask (decide ((⟨#[40]⟩:BA).size+((r205++r206)++r207).size≤9223372036854775807)) (.ask (decide (((⟨#[40]⟩:BA)++((r205++r206)++r207)).size+(⟨#[41]⟩:BA).size≤9223372036854775807)) (.done (((⟨#[40]⟩:BA)++((r205++r206)++r207))++(⟨#[41]⟩:BA))) .fail) .fail) (.done ((r205++r206)++r207))) .fail)) .fail)))) .fail)) .fail)) .fail)) .fail)) (.opt (qCp n y163) fun r208=>(.ask (decide (r208.size+(⟨#[40]⟩:BA).size≤9223372036854775807)) (.opt (zL (qBN rec n) n (x0,(r208++(⟨#[40]⟩:BA)),(0:Int),y162,y163,y164,y165,y166,y167,y168,y169,y170,y171,y172,y173,y174,y175)) fun r215=>(.ask (decide (r215.size+(⟨#[41]⟩:BA).size≤9223372036854775807)) (.done (r215++(⟨#[41]⟩:BA))) .fail)) .fail))))))))))))))))))))) .fail)) .fail)
def qW:Nat→RW→Int→Int→Option (BA)
 |0,_,_,_=>none
 |n+1,x0,x1,x2=>(qCA (qW n) n x0 x1 x2).run
theorem qc7 (rec:RW→Int→Int→Option (BA)) (n:Nat) (x0:RW) (x1 x2:Int):ze (qO0 rec n) (qVg rec n) qHb (qB8 x0 x1 x2) (qB9 x0 x1 x2)=(qCA rec n x0 x1 x2).bind fun r=> .done (qDv r):=by kernel_rfl
theorem qVh (n:Nat) (ih:∀(x0:RW) (x1 x2:Int) r,qW n x0 x1 x2=some r→Rn n 51 (qB8 x0 x1 x2) (qB9 x0 x1 x2)=some (qDv r)):zW (qO0 (qW n) n) (Rn n):=zA (qby n (zB)) (zA (qQZ n (zB)) (zA (qZa n (zB)) (zA (zF (fun hs r h=>by
  unfold qT1 at h
  split at h
  ·exact ⟨qB8 _ _ _,qB9 _ _ _,rfl,rfl,ih _ _ _ r h⟩
  ·cases h) (zB)) (zA (qTl n (zB)) (zA (qVM n (zB)) (zA (qZA n (zB)) (zG)))))))
set_option maxHeartbeats 4000000 in
theorem qYe (n:Nat) (v:RW×BA×Int×Int×Int×Int×Int×BA×Int×Int×Bool×Bool×Int×Int×Bool×Bool×RW):(zf (qO0 (qW n) n) (zN []) qIE (qJx v) []).bind (zx [0,7,10,11] [(.ret,[6]),((.exit 1),[10])])=(qBN (qW n) n v).bind (zAQ qJx qQc):=by
 obtain ⟨w0,w1,w2,w3,w4,w5,w6,w7,w8,w9,w10,w11,w12,w13,w14,w15,w16⟩:=v
 kernel_rfl
theorem qYf (n:Nat) (ih:∀(x0:RW) (x1 x2:Int) r,qW n x0 x1 x2=some r→Rn n 51 (qB8 x0 x1 x2) (qB9 x0 x1 x2)=some (qDv r)):zAX (Rn n) n (125,[0,7,10,11],[(.ret,[6]),((.exit 1),[10])],qIE) (qO2 (qW n) n):=fun st e s h=>
 zh (qVh n ih) (zI rfl) (qYe n) (fun r h=>by cases h) (fun r y h=>by cases h;rfl) (fun hs v h=>by
  unfold qO1 at h
  split at h<;>cases h
  rfl) h
theorem qc8 (n:Nat) (ih:∀(x0:RW) (x1 x2:Int) r,qW n x0 x1 x2=some r→Rn n 51 (qB8 x0 x1 x2) (qB9 x0 x1 x2)=some (qDv r)):zAK (qVg (qW n) n) (Rn n) n qHb.body:=lt1 rfl (qYf n ih)
theorem qO3:∀(n:Nat) (x0:RW) (x1 x2:Int) r,qW n x0 x1 x2=some r→Rn n 51 (qB8 x0 x1 x2) (qB9 x0 x1 x2)=some (qDv r)
 |0,x0,x1,x2,r,h=>by cases h
 |n+1,x0,x1,x2,r,h=>zH (kf:=qHb) rfl (qVh n (qO3 n)) (qc8 n (qO3 n)) (qc7 (qW n) n x0 x1 x2) h
def qVi (n:Nat):zS→Option (BA)
 |([[[.r x0]],[[.i x1]],[[.i x2]]],[])=>qW n x0 x1 x2
 |_=>none
def qX1 (n:Nat) (d:ED):ED:=zR (qB8 ([]) (0) (0)) (qB9 ([]) (0) (0)) (qVi n) qDv d
theorem qc9 (n:Nat) {d:ED} (hd:RK n 51 d):RK n 51 (qX1 n d):=
 zF (fun hs r h=>by unfold qVi at h;split at h;exact ⟨qB8 _ _ _,qB9 _ _ _,rfl,rfl,qO3 n _ _ _ r h⟩;cases h) hd
def qEs (x0:RW):List AV:= [(.c (.p (.ls x0)))]
def qEt (x0:RW):FR:= []
def qIQ (r:BA):Res:=⟨(cs r),[],[]⟩
abbrev qNR (n:Nat):zX:=zd [(21,qLI n (zD)),(51,qX1 n (zD))]
abbrev qW1 (n:Nat):za:=zN []
def qEu (n:Nat) (x0:RW):Tr (BA):=(.opt (qBb n x0) fun r160=>(.ask ((!r160)) (.done (⟨#[]⟩:BA)) (.opt (qW n x0 (IntKind.i64.wrap ((x0.length:Int)-(1:Int))) (0:Int)) fun r216=>(.ask ((decide ((r216.size:Int)>(200:Int)))) (.done (⟨#[]⟩:BA)) (.done r216)))))
def qBV:Nat→RW→Option (BA)
 |0,_=>none
 |n+1,x0=>(qEu n x0).run
theorem qW2 (n:Nat) (x0:RW):ze (qNR n) (qW1 n) qEc (qEs x0) (qEt x0)=(qEu n x0).bind fun r=> .done (qIQ r):=by kernel_rfl
theorem qW3 (n:Nat):zW (qNR n) (Rn n):=zA (qQV n (zB)) (zA (qc9 n (zB)) (zG))
theorem qW4:∀(n:Nat) (x0:RW) r,qBV n x0=some r→Rn n 20 (qEs x0) (qEt x0)=some (qIQ r)
 |0,x0,r,h=>by cases h
 |n+1,x0,r,h=>zH (kf:=qEc) rfl (qW3 n) (zI rfl) (qW2 n x0) h
def qNS (n:Nat):zS→Option (BA)
 |([[[.r x0]]],[])=>qBV n x0
 |_=>none
def qO4 (n:Nat) (d:ED):ED:=zR (qEs ([])) (qEt ([])) (qNS n) qIQ d
theorem qW5 (n:Nat) {d:ED} (hd:RK n 20 d):RK n 20 (qO4 n d):=
 zF (fun hs r h=>by unfold qNS at h;split at h;exact ⟨qEs _,qEt _,rfl,rfl,qW4 n _ r h⟩;cases h) hd
def qH5 (x0:BA):List AV:= [(cs x0)]
def qH6 (x0:BA):FR:= []
def qM7 (r:Int×Int×BA×Bool):Res:=⟨(.tup [(true,[(vi r.1),(vi r.2.1),(vs r.2.2.1)]),(false,[(vb r.2.2.2)])]),[],[]⟩
abbrev qLM (n:Nat):zX:=zd [(114,qOA n (zD)),(111,qF6 n (zD))]
def qIR (v:BA×Bool×Int×Int×BA):St:=⟨[(0,(cs v.1)),(2,(.c (.ptr 0 128 0 0 0))),(4,(cb v.2.1))],[(128,⟨0,3,37,(.box [(vi v.2.2.1),(vi v.2.2.2.1),(vs v.2.2.2.2)])⟩)],[]⟩
def qBW (n:Nat) (v:BA×Bool×Int×Int×BA):Tr ((BA×Bool×Int×Int×BA)⊕((BA×Bool×Int×Int×BA))):=(.ask ((decide ((v.1.size:Int)>(1:Int)))) (.ask (decide (0≤(0:Int))) (.opt (v.1.toList[((0:Int)).toNat]?) fun c219=>(.ask (((c219.toNat:Int)==(48:Int))) (.ask (decide (0≤(1:Int)∧(1:Int)≤(v.1.size:Int)∧(v.1.size:Int)≤v.1.size)) (.done (.inl ((v.1.extract ((1:Int)).toNat ((v.1.size:Int)).toNat),v.2.1,v.2.2.1,v.2.2.2.1,v.2.2.2.2))) .fail) (.done (.inr ((v.1,v.2.1,v.2.2.1,v.2.2.2.1,v.2.2.2.2)))))) .fail) (.done (.inr ((v.1,v.2.1,v.2.2.1,v.2.2.2.1,v.2.2.2.2)))))
def qO5:(BA×Bool×Int×Int×BA)→Ex×St:=fun r=>((.exit 0),⟨[(0,(cs r.1)),(2,(.c (.ptr 0 128 0 0 0))),(4,(cb r.2.1))],[(128,⟨0,3,37,(.box [(vi r.2.2.1),(vi r.2.2.2.1),(vs r.2.2.2.2)])⟩)],[]⟩)
def qW6:(BA×Bool×Int×Int×BA)→Tr (Ex×St):=fun r=> .done (qO5 r)
def qNT:zw→Option (BA×Bool×Int×Int×BA)
 |([[[.s w0]],[[]],[[.b w1]]],[[[.i w2],[.i w3],[.s w4]]],[])=>some (w0,w1,w2,w3,w4)
 |_=>none
abbrev qNU (n:Nat):St→Tr (Ex×St):=zp (qIR (⟨#[]⟩,false,0,0,⟨#[]⟩)) qNT (qBW n) qW6 n
abbrev qSG (n:Nat):za:=zN [(62,qNU n)]
def qT2 (n:Nat) (x0:BA):Tr (Int×Int×BA×Bool):=(.ask ((decide ((x0.size:Int)>(0:Int)))) (.ask (decide (0≤(0:Int))) (.opt (x0.toList[((0:Int)).toNat]?) fun c218=>(.ask (((c218.toNat:Int)==(45:Int))) (.ask (decide (0≤(1:Int)∧(1:Int)≤(x0.size:Int)∧(x0.size:Int)≤x0.size)) (.ask (((x0.extract ((1:Int)).toNat ((x0.size:Int)).toNat).toList==(⟨#[]⟩:BA).toList)) (.done ((0:Int),(0:Int),(⟨#[]⟩:BA),false)) (.opt (zL (qBW n) n ((x0.extract ((1:Int)).toNat ((x0.size:Int)).toNat),((c218.toNat:Int)==(45:Int)),(0:Int),(0:Int),(⟨#[]⟩:BA))) fun r220=>(.opt (qn n r220.1 (16:Int)) fun r221=>(.ask (r220.2.1) (.ask (r221.2) (.opt (qT n (1:Int) (IntKind.i64.wrap (0-r221.1)) (⟨#[]⟩:BA)) fun r222=>(.done ((1:Int),(IntKind.i64.wrap (0-r221.1)),(⟨#[]⟩:BA),r222))) (.done ((1:Int),(IntKind.i64.wrap (0-r221.1)),(⟨#[]⟩:BA),false))) (.ask (r221.2) (.opt (qT n (1:Int) r221.1 (⟨#[]⟩:BA)) fun r223=>(.done ((1:Int),r221.1,(⟨#[]⟩:BA),r223))) (.done ((1:Int),r221.1,(⟨#[]⟩:BA),false))))))) .fail) (.ask ((x0.toList==(⟨#[]⟩:BA).toList)) (.done ((0:Int),(0:Int),(⟨#[]⟩:BA),false)) (.opt (zL (qBW n) n (x0,((c218.toNat:Int)==(45:Int)),(0:Int),(0:Int),(⟨#[]⟩:BA))) fun r224=>(.opt (qn n r224.1 (16:Int)) fun r225=>(.ask (r224.2.1) (.ask (r225.2) (.opt (qT n (1:Int) (IntKind.i64.wrap (0-r225.1)) (⟨#[]⟩:BA)) fun r226=>(.done ((1:Int),(IntKind.i64.wrap (0-r225.1)),(⟨#[]⟩:BA),r226))) (.done ((1:Int),(IntKind.i64.wrap (0-r225.1)),(⟨#[]⟩:BA),false))) (.ask (r225.2) (.opt (qT n (1:Int) r225.1 (⟨#[]⟩:BA)) fun r227=>(.done ((1:Int),r225.1,(⟨#[]⟩:BA),r227))) (.done ((1:Int),r225.1,(⟨#[]⟩:BA),false))))))))) .fail) (.ask ((x0.toList==(⟨#[]⟩:BA).toList)) (.done ((0:Int),(0:Int),(⟨#[]⟩:BA),false)) (.opt (zL (qBW n) n (x0,false,(0:Int),(0:Int),(⟨#[]⟩:BA))) fun r228=>(.opt (qn n r228.1 (16:Int)) fun r229=>(.ask (r228.2.1) (.ask (r229.2) (.opt (qT n (1:Int) (IntKind.i64.wrap (0-r229.1)) (⟨#[]⟩:BA)) fun r230=>(.done ((1:Int),(IntKind.i64.wrap (0-r229.1)),(⟨#[]⟩:BA),r230))) (.done ((1:Int),(IntKind.i64.wrap (0-r229.1)),(⟨#[]⟩:BA),false))) (.ask (r229.2) (.opt (qT n (1:Int) r229.1 (⟨#[]⟩:BA)) fun r231=>(.done ((1:Int),r229.1,(⟨#[]⟩:BA),r231))) (.done ((1:Int),r229.1,(⟨#[]⟩:BA),false))))))))
def qH7:Nat→BA→Option (Int×Int×BA×Bool)
 |0,_=>none
 |n+1,x0=>(qT2 n x0).run
theorem qan (n:Nat) (x0:BA):ze (qLM n) (qSG n) qFR (qH5 x0) (qH6 x0)=(qT2 n x0).bind fun r=> .done (qM7 r):=by kernel_rfl
theorem qSH (n:Nat):zW (qLM n) (Rn n):=zA (qRE n (zB)) (zA (qHw n (zB)) (zG))
theorem qW7 (n:Nat) (v:BA×Bool×Int×Int×BA):(zf (qLM n) (zN []) qHA (qIR v) []).bind (zx [0,2,4] [(.ret,[2,3]),((.exit 0),[0,2,4])])=(qBW n v).bind (zAQ qIR qO5):=by
 obtain ⟨w0,w1,w2,w3,w4⟩:=v
 kernel_rfl
theorem qW8 (n:Nat):zAX (Rn n) n (62,[0,2,4],[(.ret,[2,3]),((.exit 0),[0,2,4])],qHA) (qNU n):=fun st e s h=>
 zh (qSH n) (zI rfl) (qW7 n) (fun r h=>by cases h) (fun r y h=>by cases h;rfl) (fun hs v h=>by
  unfold qNT at h
  split at h<;>cases h
  rfl) h
theorem qao (n:Nat):zAK (qSG n) (Rn n) n qFR.body:=lt1 rfl (qW8 n)
theorem qap:∀(n:Nat) (x0:BA) r,qH7 n x0=some r→Rn n 56 (qH5 x0) (qH6 x0)=some (qM7 r)
 |0,x0,r,h=>by cases h
 |n+1,x0,r,h=>zH (kf:=qFR) rfl (qSH n) (qao n) (qan n x0) h
def qSI (n:Nat):zS→Option (Int×Int×BA×Bool)
 |([[[.s x0]]],[])=>qH7 n x0
 |_=>none
def qT3 (n:Nat) (d:ED):ED:=zR (qH5 (⟨#[]⟩)) (qH6 (⟨#[]⟩)) (qSI n) qM7 d
theorem qaq (n:Nat) {d:ED} (hd:RK n 56 d):RK n 56 (qT3 n d):=
 zF (fun hs r h=>by unfold qSI at h;split at h;exact ⟨qH5 _,qH6 _,rfl,rfl,qap n _ r h⟩;cases h) hd
def qJy (x0:BA):List AV:= [(cs x0)]
def qJz (x0:BA):FR:= []
def qO6 (r:BA×Bool):Res:=⟨(.tup [(false,[(vs r.1)]),(false,[(vb r.2)])]),[],[]⟩
abbrev qT4 (n:Nat):zX:=zd [(32,qJP n (zD)),(9,qOv n (zD)),(20,qO4 n (zD)),(56,qT3 n (zD)),(57,qLK n (zD)),(58,qLA n (zD))]
abbrev qbz (n:Nat):za:=zN []
def qVj (n:Nat) (x0:BA):Tr (BA×Bool):=(.opt (qC1 n x0) fun r6=>(.ask ((!r6)) (.done ((⟨#[]⟩:BA),false)) (.ask ((x0.toList==(⟨#[]⟩:BA).toList)) (.done ((⟨#[]⟩:BA),true)) (.ask (decide (0≤(0:Int))) (.opt (x0.toList[((0:Int)).toNat]?) fun c7=>(.ask (((c7.toNat:Int)==(61:Int))) (.ask (decide (0≤(1:Int)∧(1:Int)≤(x0.size:Int)∧(x0.size:Int)≤x0.size)) (.opt (qEq n (x0.extract ((1:Int)).toNat ((x0.size:Int)).toNat)) fun r159=>(.opt (qBV n r159.1) fun r217=>(.ask ((!r159.2)) (.done ((⟨#[]⟩:BA),false)) (.ask ((r217.toList==(⟨#[]⟩:BA).toList)) (.done ((⟨#[]⟩:BA),false)) (.ask ((decide ((IntKind.i64.wrap ((r217.size:Int)+(1:Int)))>(200:Int)))) (.done ((⟨#[]⟩:BA),false)) (.ask (decide ((⟨#[61]⟩:BA).size+r217.size≤9223372036854775807)) (.done (((⟨#[61]⟩:BA)++r217),true)) .fail)))))) .fail) (.opt (qH7 n x0) fun r232=>(.ask (r232.2.2.2) (.opt (qAJ n r232.1 r232.2.1 r232.2.2.1) fun r233=>(.done (r233,true))) (.opt (qAD n x0) fun r234=>(.ask ((!r234.2.2.2)) (.opt (qAJ n (2:Int) (0:Int) x0) fun r235=>(.ask ((decide ((r235.size:Int)>(200:Int)))) (.done ((⟨#[]⟩:BA),false)) (.done (r235,true)))) (.opt (qAJ n r234.1 r234.2.1 r234.2.2.1) fun r236=>(.ask ((decide ((r236.size:Int)>(200:Int)))) (.done ((⟨#[]⟩:BA),false)) (.done (r236,true)))))))))) .fail))))
def qJ0:Nat→BA→Option (BA×Bool)
 |0,_=>none
 |n+1,x0=>(qVj n x0).run
theorem qb0 (n:Nat) (x0:BA):ze (qT4 n) (qbz n) qI7 (qJy x0) (qJz x0)=(qVj n x0).bind fun r=> .done (qO6 r):=by kernel_rfl
theorem qb1 (n:Nat):zW (qT4 n) (Rn n):=zA (qMt n (zB)) (zA (qW0 n (zB)) (zA (qW5 n (zB)) (zA (qaq n (zB)) (zA (qQZ n (zB)) (zA (qQK n (zB)) (zG))))))
theorem qb2:∀(n:Nat) (x0:BA) r,qJ0 n x0=some r→Rn n 22 (qJy x0) (qJz x0)=some (qO6 r)
 |0,x0,r,h=>by cases h
 |n+1,x0,r,h=>zH (kf:=qI7) rfl (qb1 n) (zI rfl) (qb0 n x0) h
def qT5 (n:Nat):zS→Option (BA×Bool)
 |([[[.s x0]]],[])=>qJ0 n x0
 |_=>none
def qVk (n:Nat) (d:ED):ED:=zR (qJy (⟨#[]⟩)) (qJz (⟨#[]⟩)) (qT5 n) qO6 d
theorem qb3 (n:Nat) {d:ED} (hd:RK n 22 d):RK n 22 (qVk n d):=
 zF (fun hs r h=>by unfold qT5 at h;split at h;exact ⟨qJy _,qJz _,rfl,rfl,qb2 n _ r h⟩;cases h) hd
def qL2 (x0:BA) (x1:Int):List AV:= [(cs x0),(ci x1)]
def qL3 (x0:BA) (x1:Int):FR:= []
def qRO (r:Bool):Res:=⟨(cb r),[],[]⟩
abbrev qO7 (n:Nat):zX:=zd []
def qLN (v:BA×Int×Int×Int):St:=⟨[(0,(cs v.1)),(1,(ci v.2.1)),(7,(ci v.2.2.1)),(8,(ci v.2.2.2))],[],[]⟩
def qBe (n:Nat) (v:BA×Int×Int×Int):Tr ((BA×Int×Int×Int)⊕((Bool)⊕(BA×Int))):=(.ask ((decide (v.2.2.2<v.2.2.1))) (.ask (decide (0≤v.2.2.2)) (.opt (v.1.toList[(v.2.2.2).toNat]?) fun c238=>(.ask ((decide ((c238.toNat:Int)<(32:Int)))) (.done (.inr (.inl (false)))) (.ask (decide (0≤v.2.2.2)) (.opt (v.1.toList[(v.2.2.2).toNat]?) fun c239=>(.ask ((decide ((c239.toNat:Int)>(126:Int)))) (.done (.inr (.inl (false)))) (.done (.inl (v.1,v.2.1,v.2.2.1,(IntKind.i64.wrap (v.2.2.2+(1:Int)))))))) .fail))) .fail) (.done (.inr (.inr ((v.1,v.2.1))))))
def qLO:((Bool)⊕(BA×Int))→Ex×St:=fun| .inl r=>(.ret,⟨[(4,(cb r))],[],[]⟩)| .inr r=>(fun r=>((.exit 0),⟨[(0,(cs r.1)),(1,(ci r.2))],[],[]⟩)) r
def qZb:((Bool)⊕(BA×Int))→Tr (Ex×St):=fun r=> .alt r (fun r=> .done (qLO (.inl r))) (fun r=> .done (qLO (.inr r)))
def qQd:zw→Option (BA×Int×Int×Int)
 |([[[.s w0]],[[.i w1]],[[.i w2]],[[.i w3]]],[],[])=>some (w0,w1,w2,w3)
 |_=>none
abbrev qQe (n:Nat):St→Tr (Ex×St):=zp (qLN (⟨#[]⟩,0,0,0)) qQd (qBe n) qZb n
abbrev qVl (n:Nat):za:=zN [(13,qQe n)]
def qRP (n:Nat) (x0:BA) (x1:Int):Tr (Bool):=(.opt (zL (qBe n) n (x0,x1,(x0.size:Int),(0:Int))) fun r240=>(.alt r240 (fun r241=>(.done r241)) (fun r242=>(.done (decide ((r242.1.size:Int)≤r242.2))))))
end Go.Proofs.YthhngmnbcmkhpaaGreatDoor.KFnExactInputOf

