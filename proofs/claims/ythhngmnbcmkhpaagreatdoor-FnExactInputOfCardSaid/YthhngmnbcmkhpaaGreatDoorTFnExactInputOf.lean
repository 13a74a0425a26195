import Derived.Test.YthhngmnbcmkhpaaGreatDoorKFnExactInputOf
import Derived.Test.YthhngmnbcmkhpaaGreatDoorE33
import Derived.KernelRfl
import Derived.Test.YthhngmnbcmkhpaaGreatDoorTFnExactInputOfp1
namespace Go.Proofs.YthhngmnbcmkhpaaGreatDoor.KFnExactInputOf
open Go.Eng
set_option linter.unusedVariables false
set_option maxRecDepth 100000
def qDw:Nat→BA→Int→Option (Bool)
 |0,_,_=>none
 |n+1,x0,x1=>(qRP n x0 x1).run
theorem qdA (n:Nat) (x0:BA) (x1:Int):ze (qO7 n) (qVl n) qHa (qL2 x0 x1) (qL3 x0 x1)=(qRP n x0 x1).bind fun r=> .done (qRO r):=by kernel_rfl
theorem qVm (n:Nat):zW (qO7 n) (Rn n):=zG
theorem qZc (n:Nat) (v:BA×Int×Int×Int):(zf (qO7 n) (zN []) qI9 (qLN v) []).bind (zx [0,1,7,8] [(.ret,[4]),((.exit 0),[0,1])])=(qBe n v).bind (zAQ qLN qLO):=by
 obtain ⟨w0,w1,w2,w3⟩:=v
 kernel_rfl
theorem qZd (n:Nat):zAX (Rn n) n (13,[0,1,7,8],[(.ret,[4]),((.exit 0),[0,1])],qI9) (qQe n):=fun st e s h=>
 zh (qVm n) (zI rfl) (qZc n) (fun r=>by
  rcases r with r|r<;>(intro h;cases h)) (fun r y h=>by
  rcases r with r|r<;>(cases h;rfl)) (fun hs v h=>by
  unfold qQd at h
  split at h<;>cases h
  rfl) h
theorem qdB (n:Nat):zAK (qVl n) (Rn n) n qHa.body:=lt1 rfl (qZd n)
theorem qdC:∀(n:Nat) (x0:BA) (x1:Int) r,qDw n x0 x1=some r→Rn n 35 (qL2 x0 x1) (qL3 x0 x1)=some (qRO r)
 |0,x0,x1,r,h=>by cases h
 |n+1,x0,x1,r,h=>zH (kf:=qHa) rfl (qVm n) (qdB n) (qdA n x0 x1) h
def qVn (n:Nat):zS→Option (Bool)
 |([[[.s x0]],[[.i x1]]],[])=>qDw n x0 x1
 |_=>none
def qL4 (n:Nat) (d:ED):ED:=zR (qL2 (⟨#[]⟩) (0)) (qL3 (⟨#[]⟩) (0)) (qVn n) qRO d
theorem qO8 (n:Nat) {d:ED} (hd:RK n 35 d):RK n 35 (qL4 n d):=
 zF (fun hs r h=>by unfold qVn at h;split at h;exact ⟨qL2 _ _,qL3 _ _,rfl,rfl,qdC n _ _ r h⟩;cases h) hd
def qHM (x0 x1:BA):List AV:= [(cs x0),(cs x1)]
def qHN (x0 x1:BA):FR:= []
def qNV (r:(BA×Bool)):Res:=⟨(.tup [(false,[(vs r.1)]),(false,[(vb r.2)])]),[],[]⟩
def qr:Nat→BA→BA→Option ((BA×Bool))
 |0,_,_=>none
 |n+1,x0,x1=>zl x0 x1
theorem qVo:∀(n:Nat) (x0 x1:BA) r,qr n x0 x1=some r→Rn n 59 (qHM x0 x1) (qHN x0 x1)=some (qNV r)
 |0,x0,x1,r,h=>by cases h
 |n+1,x0,x1,r,h=>by
  have h:zl x0 x1=some r:=h
  exact zA2 rfl (congrArg (Option.map fun r:(BA×Bool)=>((.tup [(false,[(.p (.s r.1))]),(false,[(.p (.b r.2))])]):AV)) h)
def qMT (n:Nat):zS→Option ((BA×Bool))
 |([[[.s x0]],[[.s x1]]],[])=>qr n x0 x1
 |_=>none
def qCX (n:Nat) (d:ED):ED:=zR (qHM (⟨#[]⟩) (⟨#[]⟩)) (qHN (⟨#[]⟩) (⟨#[]⟩)) (qMT n) qNV d
theorem qDa (n:Nat) {d:ED} (hd:RK n 59 d):RK n 59 (qCX n d):=
 zF (fun hs r h=>by unfold qMT at h;split at h;exact ⟨qHM _ _,qHN _ _,rfl,rfl,qVo n _ _ r h⟩;cases h) hd
def qIS (x0 x1:BA):List AV:= [(cs x0),(cs x1)]
def qIT (x0 x1:BA):FR:= []
def qO9 (r:(BA)):Res:=⟨(cs r),[],[]⟩
def qA6:Nat→BA→BA→Option ((BA))
 |0,_,_=>none
 |n+1,x0,x1=>zg x0 x1
theorem qW9:∀(n:Nat) (x0 x1:BA) r,qA6 n x0 x1=some r→Rn n 90 (qIS x0 x1) (qIT x0 x1)=some (qO9 r)
 |0,x0,x1,r,h=>by cases h
 |n+1,x0,x1,r,h=>by
  have h:zg x0 x1=some r:=h
  exact zA2 rfl (congrArg (Option.map fun r:(BA)=>((.c (.p (.s r))):AV)) h)
def qNW (n:Nat):zS→Option ((BA))
 |([[[.s x0]],[[.s x1]]],[])=>qA6 n x0 x1
 |_=>none
def qEv (n:Nat) (d:ED):ED:=zR (qIS (⟨#[]⟩) (⟨#[]⟩)) (qIT (⟨#[]⟩) (⟨#[]⟩)) (qNW n) qO9 d
theorem qHO (n:Nat) {d:ED} (hd:RK n 90 d):RK n 90 (qEv n d):=
 zF (fun hs r h=>by unfold qNW at h;split at h;exact ⟨qIS _ _,qIT _ _,rfl,rfl,qW9 n _ _ r h⟩;cases h) hd
def qDb (x0:BA) (x1:Nat) (x2:Bool) (x3:RW):List AV:= [(.c (.ptr 0 0 0 0 0))]
def qDc (x0:BA) (x1:Nat) (x2:Bool) (x3:RW):FR:= [[(0,⟨0,3,55,(.box [(vs x0),(.own 0 1 1 x1),(vb x2)])⟩),(1,⟨1,14,64,(.row x3)⟩)]]
def qGD (r:BA×Nat×Bool×RW):Res:=⟨(.tup []),[[(0,⟨0,3,55,(.box [(vs r.1),(.own 0 1 1 r.2.1),(vb r.2.2.1)])⟩),(1,⟨1,14,64,(.row r.2.2.2)⟩)]],[]⟩
abbrev qKk (n:Nat):zX:=zd [(90,qEv n (zD))]
abbrev qUe (n:Nat):za:=zN []
def qGE (n:Nat) (x0:BA) (x1:Nat) (x2:Bool) (x3:RW):Tr (BA×Nat×Bool×RW):=(.opt (qA6 n x0 (⟨#[32]⟩:BA)) fun r246=>(.done (r246,x1,x2,x3)))
def qAk:Nat→BA→Nat→Bool→RW→Option (BA×Nat×Bool×RW)
 |0,_,_,_,_=>none
 |n+1,x0,x1,x2,x3=>(qGE n x0 x1 x2 x3).run
theorem qUf (n:Nat) (x0:BA) (x1:Nat) (x2:Bool) (x3:RW):ze (qKk n) (qUe n) qDX (qDb x0 x1 x2 x3) (qDc x0 x1 x2 x3)=(qGE n x0 x1 x2 x3).bind fun r=> .done (qGD r):=by kernel_rfl
theorem qUg (n:Nat):zW (qKk n) (Rn n):=zA (qHO n (zB)) (zG)
theorem qUh:∀(n:Nat) (x0:BA) (x1:Nat) (x2:Bool) (x3:RW) r,qAk n x0 x1 x2 x3=some r→Rn n 37 (qDb x0 x1 x2 x3) (qDc x0 x1 x2 x3)=some (qGD r)
 |0,x0,x1,x2,x3,r,h=>by cases h
 |n+1,x0,x1,x2,x3,r,h=>zH (kf:=qDX) rfl (qUg n) (zI rfl) (qUf n x0 x1 x2 x3) h
def qKl (n:Nat):zS→Option (BA×Nat×Bool×RW)
 |([[[]]],[[[[.s x0],[.n x1],[.b x2]],[[.r x3]]]])=>qAk n x0 x1 x2 x3
 |_=>none
def qCI (n:Nat) (d:ED):ED:=zR (qDb (⟨#[]⟩) (0) (false) ([])) (qDc (⟨#[]⟩) (0) (false) ([])) (qKl n) qGD d
theorem qDG (n:Nat) {d:ED} (hd:RK n 37 d):RK n 37 (qCI n d):=
 zF (fun hs r h=>by unfold qKl at h;split at h;exact ⟨qDb _ _ _ _,qDc _ _ _ _,rfl,rfl,qUh n _ _ _ _ r h⟩;cases h) hd
def qA2 (x0 x1:BA):List AV:= [(cs x0),(cs x1)]
def qA3 (x0 x1:BA):FR:= []
def qBi (r:Bool):Res:=⟨(cb r),[],[]⟩
abbrev qDN (n:Nat):zX:=zd []
abbrev qI3 (n:Nat):za:=zN []
def qA4 (n:Nat) (x0 x1:BA):Tr (Bool):=(.ask ((decide ((x0.size:Int)≥(x1.size:Int)))) (.ask (decide (0≤(0:Int)∧(0:Int)≤(x1.size:Int)∧(x1.size:Int)≤x0.size)) (.done ((x0.extract ((0:Int)).toNat ((x1.size:Int)).toNat).toList==x1.toList)) .fail) (.done false))
def qo:Nat→BA→BA→Option (Bool)
 |0,_,_=>none
 |n+1,x0,x1=>(qA4 n x0 x1).run
theorem qI4 (n:Nat) (x0 x1:BA):ze (qDN n) (qI3 n) qA1 (qA2 x0 x1) (qA3 x0 x1)=(qA4 n x0 x1).bind fun r=> .done (qBi r):=by kernel_rfl
theorem qI5 (n:Nat):zW (qDN n) (Rn n):=zG
theorem qI6:∀(n:Nat) (x0 x1:BA) r,qo n x0 x1=some r→Rn n 123 (qA2 x0 x1) (qA3 x0 x1)=some (qBi r)
 |0,x0,x1,r,h=>by cases h
 |n+1,x0,x1,r,h=>zH (kf:=qA1) rfl (qI5 n) (zI rfl) (qI4 n x0 x1) h
def qDO (n:Nat):zS→Option (Bool)
 |([[[.s x0]],[[.s x1]]],[])=>qo n x0 x1
 |_=>none
def qBj (n:Nat) (d:ED):ED:=zR (qA2 (⟨#[]⟩) (⟨#[]⟩)) (qA3 (⟨#[]⟩) (⟨#[]⟩)) (qDO n) qBi d
theorem qDP (n:Nat) {d:ED} (hd:RK n 123 d):RK n 123 (qBj n d):=
 zF (fun hs r h=>by unfold qDO at h;split at h;exact ⟨qA2 _ _,qA3 _ _,rfl,rfl,qI6 n _ _ r h⟩;cases h) hd
def qD5 (x0 x1:BA):List AV:= [(cs x0),(cs x1)]
def qD6 (x0 x1:BA):FR:= []
def qHP (r:Bool):Res:=⟨(cb r),[],[]⟩
abbrev qMU (n:Nat):zX:=zd [(123,qBj n (zD))]
abbrev qVp (n:Nat):za:=zN []
def qCY (n:Nat) (x0 x1:BA):Tr (Bool):=(.opt (qo n x0 x1) fun r250=>(.done r250))
def qe:Nat→BA→BA→Option (Bool)
 |0,_,_=>none
 |n+1,x0,x1=>(qCY n x0 x1).run
theorem qVq (n:Nat) (x0 x1:BA):ze (qMU n) (qVp n) qDz (qD5 x0 x1) (qD6 x0 x1)=(qCY n x0 x1).bind fun r=> .done (qHP r):=by kernel_rfl
theorem qVr (n:Nat):zW (qMU n) (Rn n):=zA (qDP n (zB)) (zG)
theorem qVs:∀(n:Nat) (x0 x1:BA) r,qe n x0 x1=some r→Rn n 69 (qD5 x0 x1) (qD6 x0 x1)=some (qHP r)
 |0,x0,x1,r,h=>by cases h
 |n+1,x0,x1,r,h=>zH (kf:=qDz) rfl (qVr n) (zI rfl) (qVq n x0 x1) h
def qMV (n:Nat):zS→Option (Bool)
 |([[[.s x0]],[[.s x1]]],[])=>qe n x0 x1
 |_=>none
def qCZ (n:Nat) (d:ED):ED:=zR (qD5 (⟨#[]⟩) (⟨#[]⟩)) (qD6 (⟨#[]⟩) (⟨#[]⟩)) (qMV n) qHP d
theorem qDd (n:Nat) {d:ED} (hd:RK n 69 d):RK n 69 (qCZ n d):=
 zF (fun hs r h=>by unfold qMV at h;split at h;exact ⟨qD5 _ _,qD6 _ _,rfl,rfl,qVs n _ _ r h⟩;cases h) hd
def qEw (x0:BA) (x1:Nat) (x2:Bool) (x3:RW):List AV:= [(.c (.ptr 0 0 0 0 0))]
def qEx (x0:BA) (x1:Nat) (x2:Bool) (x3:RW):FR:= [[(0,⟨0,3,55,(.box [(vs x0),(.own 0 1 1 x1),(vb x2)])⟩),(1,⟨1,14,64,(.row x3)⟩)]]
def qIU (r:BA×BA×Nat×Bool×RW):Res:=⟨(cs r.1),[[(0,⟨0,3,55,(.box [(vs r.2.1),(.own 0 1 1 r.2.2.1),(vb r.2.2.2.1)])⟩),(1,⟨1,14,64,(.row r.2.2.2.2)⟩)]],[]⟩
abbrev qHQ (n:Nat):zX:=zd [(37,qCI n (zD)),(69,qCZ n (zD))]
def qFc (v:Nat×Int×Int×RW×BA×Nat×Bool×RW):St:=⟨[(0,(.c (.ptr 0 0 0 0 0))),(7,(.c (.own 1 448 0 v.1))),(8,(ci v.2.1)),(9,(ci v.2.2.1))],[(448,⟨0,1,9,(.row v.2.2.2.1)⟩)],[[(0,⟨0,3,55,(.box [(vs v.2.2.2.2.1),(.own 0 1 1 v.2.2.2.2.2.1),(vb v.2.2.2.2.2.2.1)])⟩),(1,⟨1,14,64,(.row v.2.2.2.2.2.2.2)⟩)]]⟩
def qBy (n:Nat) (v:Nat×Int×Int×RW×BA×Nat×Bool×RW):Tr ((Nat×Int×Int×RW×BA×Nat×Bool×RW)⊕((BA×BA×Nat×Bool×RW)⊕(BA×Nat×Bool×RW))):=(.ask ((decide (v.2.2.1<v.2.1))) (.ask (decide (v.1=v.2.2.2.1.length∧0≤v.2.2.1∧v.2.2.1<((v.1:Nat):Int))) (.opt (v.2.2.2.1[(v.2.2.1).toNat]?) fun e248=>(.opt (zAv e248 0) fun y249=>(.opt (qe n v.2.2.2.2.1 y249) fun r250=>(.ask (r250) (.done (.inr (.inl ((y249,v.2.2.2.2.1,v.2.2.2.2.2.1,v.2.2.2.2.2.2.1,v.2.2.2.2.2.2.2))))) (.done (.inl (v.1,v.2.1,(IntKind.i64.wrap (v.2.2.1+(1:Int))),v.2.2.2.1,v.2.2.2.2.1,v.2.2.2.2.2.1,v.2.2.2.2.2.2.1,v.2.2.2.2.2.2.2))))))) .fail) (.done (.inr (.inr ((v.2.2.2.2.1,v.2.2.2.2.2.1,v.2.2.2.2.2.2.1,v.2.2.2.2.2.2.2))))))
def qFd:((BA×BA×Nat×Bool×RW)⊕(BA×Nat×Bool×RW))→Ex×St:=fun| .inl r=>(.ret,⟨[(2,(cs r.1))],[],[[(0,⟨0,3,55,(.box [(vs r.2.1),(.own 0 1 1 r.2.2.1),(vb r.2.2.2.1)])⟩),(1,⟨1,14,64,(.row r.2.2.2.2)⟩)]]⟩)| .inr r=>(fun r=>((.exit 0),⟨[],[],[[(0,⟨0,3,55,(.box [(vs r.1),(.own 0 1 1 r.2.1),(vb r.2.2.1)])⟩),(1,⟨1,14,64,(.row r.2.2.2)⟩)]]⟩)) r
def qSs:((BA×BA×Nat×Bool×RW)⊕(BA×Nat×Bool×RW))→Tr (Ex×St):=fun r=> .alt r (fun r=> .done (qFd (.inl r))) (fun r=> .done (qFd (.inr r)))
def qJ1:zw→Option (Nat×Int×Int×RW×BA×Nat×Bool×RW)
 |([[[]],[[.n w0]],[[.i w1]],[[.i w2]]],[[[.r w3]]],[[[[.s w4],[.n w5],[.b w6]],[[.r w7]]]])=>some (w0,w1,w2,w3,w4,w5,w6,w7)
 |_=>none
abbrev qJ2 (n:Nat):St→Tr (Ex×St):=zp (qFc (0,0,0,[],⟨#[]⟩,0,false,[])) qJ1 (qBy n) qSs n
abbrev qNX (n:Nat):za:=zN [(29,qJ2 n)]
def qPA (n:Nat) (x0:BA) (x1:Nat) (x2:Bool) (x3:RW):Tr (BA×BA×Nat×Bool×RW):=(.opt (qAk n x0 x1 x2 x3) fun r247=>(.opt (zL (qBy n) n ((15:Nat),(15:Int),(0:Int),([[(.s (⟨#[60,62]⟩:BA))],[(.s (⟨#[60,61]⟩:BA))],[(.s (⟨#[62,61]⟩:BA))],[(.s (⟨#[60]⟩:BA))],[(.s (⟨#[62]⟩:BA))],[(.s (⟨#[61]⟩:BA))],[(.s (⟨#[38]⟩:BA))],[(.s (⟨#[43]⟩:BA))],[(.s (⟨#[45]⟩:BA))],[(.s (⟨#[42]⟩:BA))],[(.s (⟨#[47]⟩:BA))],[(.s (⟨#[40]⟩:BA))],[(.s (⟨#[41]⟩:BA))],[(.s (⟨#[44]⟩:BA))],[(.s (⟨#[58]⟩:BA))]]:RW),r247.1,r247.2.1,r247.2.2.1,r247.2.2.2)) fun r251=>(.alt r251 (fun r252=>(.done (r252.1,r252.2.1,r252.2.2.1,r252.2.2.2.1,r252.2.2.2.2))) (fun r253=>(.done ((⟨#[]⟩:BA),r253.1,r253.2.1,r253.2.2.1,r253.2.2.2))))))
def qBX:Nat→BA→Nat→Bool→RW→Option (BA×BA×Nat×Bool×RW)
 |0,_,_,_,_=>none
 |n+1,x0,x1,x2,x3=>(qPA n x0 x1 x2 x3).run
theorem qXA (n:Nat) (x0:BA) (x1:Nat) (x2:Bool) (x3:RW):ze (qHQ n) (qNX n) qCy (qEw x0 x1 x2 x3) (qEx x0 x1 x2 x3)=(qPA n x0 x1 x2 x3).bind fun r=> .done (qIU r):=by kernel_rfl
theorem qNY (n:Nat):zW (qHQ n) (Rn n):=zA (qDG n (zB)) (zA (qDd n (zB)) (zG))
theorem qSt (n:Nat) (v:Nat×Int×Int×RW×BA×Nat×Bool×RW):(zf (qHQ n) (zN []) qEe (qFc v) []).bind (zx [0,7,8,9] [(.ret,[2]),((.exit 0),[])])=(qBy n v).bind (zAQ qFc qFd):=by
 obtain ⟨w0,w1,w2,w3,w4,w5,w6,w7⟩:=v
 kernel_rfl
theorem qSu (n:Nat):zAX (Rn n) n (29,[0,7,8,9],[(.ret,[2]),((.exit 0),[])],qEe) (qJ2 n):=fun st e s h=>
 zh (qNY n) (zI rfl) (qSt n) (fun r=>by
  rcases r with r|r<;>(intro h;cases h)) (fun r y h=>by
  rcases r with r|r<;>(cases h;rfl)) (fun hs v h=>by
  unfold qJ1 at h
  split at h<;>cases h
  rfl) h
theorem qXB (n:Nat):zAK (qNX n) (Rn n) n qCy.body:=lt1 rfl (qSu n)
theorem qXC:∀(n:Nat) (x0:BA) (x1:Nat) (x2:Bool) (x3:RW) r,qBX n x0 x1 x2 x3=some r→Rn n 85 (qEw x0 x1 x2 x3) (qEx x0 x1 x2 x3)=some (qIU r)
 |0,x0,x1,x2,x3,r,h=>by cases h
 |n+1,x0,x1,x2,x3,r,h=>zH (kf:=qCy) rfl (qNY n) (qXB n) (qXA n x0 x1 x2 x3) h
def qNZ (n:Nat):zS→Option (BA×BA×Nat×Bool×RW)
 |([[[]]],[[[[.s x0],[.n x1],[.b x2]],[[.r x3]]]])=>qBX n x0 x1 x2 x3
 |_=>none
def qIV (n:Nat) (d:ED):ED:=zR (qEw (⟨#[]⟩) (0) (false) ([])) (qEx (⟨#[]⟩) (0) (false) ([])) (qNZ n) qIU d
theorem qNa (n:Nat) {d:ED} (hd:RK n 85 d):RK n 85 (qIV n d):=
 zF (fun hs r h=>by unfold qNZ at h;split at h;exact ⟨qEw _ _ _ _,qEx _ _ _ _,rfl,rfl,qXC n _ _ _ _ r h⟩;cases h) hd
def qEy (x0 x1:BA) (x2:Nat) (x3:Bool) (x4:RW):List AV:= [(.c (.ptr 0 0 0 0 0)),(cs x0)]
def qEz (x0 x1:BA) (x2:Nat) (x3:Bool) (x4:RW):FR:= [[(0,⟨0,3,55,(.box [(vs x1),(.own 0 1 1 x2),(vb x3)])⟩),(1,⟨1,14,64,(.row x4)⟩)]]
def qIW (r:Bool×BA×Nat×Bool×RW):Res:=⟨(cb r.1),[[(0,⟨0,3,55,(.box [(vs r.2.1),(.own 0 1 1 r.2.2.1),(vb r.2.2.2.1)])⟩),(1,⟨1,14,64,(.row r.2.2.2.2)⟩)]],[]⟩
abbrev qNb (n:Nat):zX:=zd [(85,qIV n (zD))]
abbrev qXD (n:Nat):za:=zN []
def qPB (n:Nat) (x0 x1:BA) (x2:Nat) (x3:Bool) (x4:RW):Tr (Bool×BA×Nat×Bool×RW):=(.opt (qBX n x1 x2 x3 x4) fun r254=>(.ask ((!(r254.1.toList==x0.toList))) (.done (false,r254.2.1,r254.2.2.1,r254.2.2.2.1,r254.2.2.2.2)) (.ask (decide (0≤(x0.size:Int)∧(x0.size:Int)≤(r254.2.1.size:Int)∧(r254.2.1.size:Int)≤r254.2.1.size)) (.done (true,(r254.2.1.extract ((x0.size:Int)).toNat ((r254.2.1.size:Int)).toNat),r254.2.2.1,r254.2.2.2.1,r254.2.2.2.2)) .fail)))
def qj:Nat→BA→BA→Nat→Bool→RW→Option (Bool×BA×Nat×Bool×RW)
 |0,_,_,_,_,_=>none
 |n+1,x0,x1,x2,x3,x4=>(qPB n x0 x1 x2 x3 x4).run
theorem qXE (n:Nat) (x0 x1:BA) (x2:Nat) (x3:Bool) (x4:RW):ze (qNb n) (qXD n) qEf (qEy x0 x1 x2 x3 x4) (qEz x0 x1 x2 x3 x4)=(qPB n x0 x1 x2 x3 x4).bind fun r=> .done (qIW r):=by kernel_rfl
theorem qXF (n:Nat):zW (qNb n) (Rn n):=zA (qNa n (zB)) (zG)
theorem qXG:∀(n:Nat) (x0 x1:BA) (x2:Nat) (x3:Bool) (x4:RW) r,qj n x0 x1 x2 x3 x4=some r→Rn n 88 (qEy x0 x1 x2 x3 x4) (qEz x0 x1 x2 x3 x4)=some (qIW r)
 |0,x0,x1,x2,x3,x4,r,h=>by cases h
 |n+1,x0,x1,x2,x3,x4,r,h=>zH (kf:=qEf) rfl (qXF n) (zI rfl) (qXE n x0 x1 x2 x3 x4) h
def qNc (n:Nat):zS→Option (Bool×BA×Nat×Bool×RW)
 |([[[]],[[.s x0]]],[[[[.s x1],[.n x2],[.b x3]],[[.r x4]]]])=>qj n x0 x1 x2 x3 x4
 |_=>none
def qB0 (n:Nat) (d:ED):ED:=zR (qEy (⟨#[]⟩) (⟨#[]⟩) (0) (false) ([])) (qEz (⟨#[]⟩) (⟨#[]⟩) (0) (false) ([])) (qNc n) qIW d
theorem qCa (n:Nat) {d:ED} (hd:RK n 88 d):RK n 88 (qB0 n d):=
 zF (fun hs r h=>by unfold qNc at h;split at h;exact ⟨qEy _ _ _ _ _,qEz _ _ _ _ _,rfl,rfl,qXG n _ _ _ _ _ r h⟩;cases h) hd
def qFo (x0 x1 x2 x3:Int) (x4:BA) (x5 x6:Int) (x7 x8:Bool) (x9 x10:Int) (x11 x12:Bool) (x13:RW) (x14:BA) (x15:Nat) (x16:Bool) (x17:RW):List AV:= [(.c (.ptr 0 0 0 0 0)),(.agg [(vi x0),(vi x1),(vi x2),(vi x3),(vs x4),(vi x5),(vi x6),(vb x7),(vb x8),(vi x9),(vi x10),(vb x11),(vb x12),(.p (.ls x13))])]
def qFp (x0 x1 x2 x3:Int) (x4:BA) (x5 x6:Int) (x7 x8:Bool) (x9 x10:Int) (x11 x12:Bool) (x13:RW) (x14:BA) (x15:Nat) (x16:Bool) (x17:RW):FR:= [[(0,⟨0,3,55,(.box [(vs x14),(.own 0 1 1 x15),(vb x16)])⟩),(1,⟨1,14,64,(.row x17)⟩)]]
def qJ3 (r:Int×BA×Nat×Bool×RW):Res:=⟨(ci r.1),[[(0,⟨0,3,55,(.box [(vs r.2.1),(.own 0 1 1 r.2.2.1),(vb r.2.2.2.1)])⟩),(1,⟨1,14,64,(.row r.2.2.2.2)⟩)]],[]⟩
abbrev qPC (n:Nat):zX:=zd []
abbrev qYg (n:Nat):za:=zN []
def qQf (n:Nat) (x0 x1 x2 x3:Int) (x4:BA) (x5 x6:Int) (x7 x8:Bool) (x9 x10:Int) (x11 x12:Bool) (x13:RW) (x14:BA) (x15:Nat) (x16:Bool) (x17:RW):Tr (Int×BA×Nat×Bool×RW):=(.ask (x16) (.ask (false) (.ask (decide (1=([[(.i .i64 x0),(.i .i64 x1),(.i .i64 x2),(.i .i64 x3),(.s x4),(.i .i64 x5),(.i .i64 x6),(.b x7),(.b x8),(.i .i64 x9),(.i .i64 x10),(.b x11),(.b x12),(.ls x13)]]:RW).length)) (.ask (decide (x15=x17.length∧0<14∧0<120∧(x15+([[(.i .i64 x0),(.i .i64 x1),(.i .i64 x2),(.i .i64 x3),(.s x4),(.i .i64 x5),(.i .i64 x6),(.b x7),(.b x8),(.i .i64 x9),(.i .i64 x10),(.b x11),(.b x12),(.ls x13)]]:RW).length)*120≤140737488355328∧([[(.i .i64 x0),(.i .i64 x1),(.i .i64 x2),(.i .i64 x3),(.s x4),(.i .i64 x5),(.i .i64 x6),(.b x7),(.b x8),(.i .i64 x9),(.i .i64 x10),(.b x11),(.b x12),(.ls x13)]]:RW).all (fun e=>e.length==14)=true)) (.done ((IntKind.i64.wrap ((((x15+1):Nat):Int)-(1:Int))),x14,(x15+1),true,(x17++([[(.i .i64 x0),(.i .i64 x1),(.i .i64 x2),(.i .i64 x3),(.s x4),(.i .i64 x5),(.i .i64 x6),(.b x7),(.b x8),(.i .i64 x9),(.i .i64 x10),(.b x11),(.b x12),(.ls x13)]]:RW)))) .fail) .fail) (.done ((IntKind.i64.wrap (((x15:Nat):Int)-(1:Int))),x14,x15,true,x17))) (.ask ((!(decide (((x15:Nat):Int)≥(60:Int))))) (.ask (decide (1=([[(.i .i64 x0),(.i .i64 x1),(.i .i64 x2),(.i .i64 x3),(.s x4),(.i .i64 x5),(.i .i64 x6),(.b x7),(.b x8),(.i .i64 x9),(.i .i64 x10),(.b x11),(.b x12),(.ls x13)]]:RW).length)) (.ask (decide (x15=x17.length∧0<14∧0<120∧(x15+([[(.i .i64 x0),(.i .i64 x1),(.i .i64 x2),(.i .i64 x3),(.s x4),(.i .i64 x5),(.i .i64 x6),(.b x7),(.b x8),(.i .i64 x9),(.i .i64 x10),(.b x11),(.b x12),(.ls x13)]]:RW).length)*120≤140737488355328∧([[(.i .i64 x0),(.i .i64 x1),(.i .i64 x2),(.i .i64 x3),(.s x4),(.i .i64 x5),(.i .i64 x6),(.b x7),(.b x8),(.i .i64 x9),(.i .i64 x10),(.b x11),(.b x12),(.ls x13)]]:RW).all (fun e=>e.length==14)=true)) (.done ((IntKind.i64.wrap ((((x15+1):Nat):Int)-(1:Int))),x14,(x15+1),(decide (((x15:Nat):Int)≥(60:Int))),(x17++([[(.i .i64 x0),(.i .i64 x1),(.i .i64 x2),(.i .i64 x3),(.s x4),(.i .i64 x5),(.i .i64 x6),(.b x7),(.b x8),(.i .i64 x9),(.i .i64 x10),(.b x11),(.b x12),(.ls x13)]]:RW)))) .fail) .fail) (.done ((IntKind.i64.wrap (((x15:Nat):Int)-(1:Int))),x14,x15,(decide (((x15:Nat):Int)≥(60:Int))),x17))))
def qk:Nat→Int→Int→Int→Int→BA→Int→Int→Bool→Bool→Int→Int→Bool→Bool→RW→BA→Nat→Bool→RW→Option (Int×BA×Nat×Bool×RW)
 |0,_,_,_,_,_,_,_,_,_,_,_,_,_,_,_,_,_,_=>none
 |n+1,x0,x1,x2,x3,x4,x5,x6,x7,x8,x9,x10,x11,x12,x13,x14,x15,x16,x17=>(qQf n x0 x1 x2 x3 x4 x5 x6 x7 x8 x9 x10 x11 x12 x13 x14 x15 x16 x17).run
theorem qYh (n:Nat) (x0 x1 x2 x3:Int) (x4:BA) (x5 x6:Int) (x7 x8:Bool) (x9 x10:Int) (x11 x12:Bool) (x13:RW) (x14:BA) (x15:Nat) (x16:Bool) (x17:RW):ze (qPC n) (qYg n) qFk (qFo x0 x1 x2 x3 x4 x5 x6 x7 x8 x9 x10 x11 x12 x13 x14 x15 x16 x17) (qFp x0 x1 x2 x3 x4 x5 x6 x7 x8 x9 x10 x11 x12 x13 x14 x15 x16 x17)=(qQf n x0 x1 x2 x3 x4 x5 x6 x7 x8 x9 x10 x11 x12 x13 x14 x15 x16 x17).bind fun r=> .done (qJ3 r):=by kernel_rfl
theorem qYi (n:Nat):zW (qPC n) (Rn n):=zG
theorem qYj:∀(n:Nat) (x0 x1 x2 x3:Int) (x4:BA) (x5 x6:Int) (x7 x8:Bool) (x9 x10:Int) (x11 x12:Bool) (x13:RW) (x14:BA) (x15:Nat) (x16:Bool) (x17:RW) r,qk n x0 x1 x2 x3 x4 x5 x6 x7 x8 x9 x10 x11 x12 x13 x14 x15 x16 x17=some r→Rn n 89 (qFo x0 x1 x2 x3 x4 x5 x6 x7 x8 x9 x10 x11 x12 x13 x14 x15 x16 x17) (qFp x0 x1 x2 x3 x4 x5 x6 x7 x8 x9 x10 x11 x12 x13 x14 x15 x16 x17)=some (qJ3 r)
 |0,x0,x1,x2,x3,x4,x5,x6,x7,x8,x9,x10,x11,x12,x13,x14,x15,x16,x17,r,h=>by cases h
 |n+1,x0,x1,x2,x3,x4,x5,x6,x7,x8,x9,x10,x11,x12,x13,x14,x15,x16,x17,r,h=>zH (kf:=qFk) rfl (qYi n) (zI rfl) (qYh n x0 x1 x2 x3 x4 x5 x6 x7 x8 x9 x10 x11 x12 x13 x14 x15 x16 x17) h
def qPD (n:Nat):zS→Option (Int×BA×Nat×Bool×RW)
 |([[[]],[[.i x0],[.i x1],[.i x2],[.i x3],[.s x4],[.i x5],[.i x6],[.b x7],[.b x8],[.i x9],[.i x10],[.b x11],[.b x12],[.r x13]]],[[[[.s x14],[.n x15],[.b x16]],[[.r x17]]]])=>qk n x0 x1 x2 x3 x4 x5 x6 x7 x8 x9 x10 x11 x12 x13 x14 x15 x16 x17
 |_=>none
def qCP (n:Nat) (d:ED):ED:=zR (qFo (0) (0) (0) (0) (⟨#[]⟩) (0) (0) (false) (false) (0) (0) (false) (false) ([]) (⟨#[]⟩) (0) (false) ([])) (qFp (0) (0) (0) (0) (⟨#[]⟩) (0) (0) (false) (false) (0) (0) (false) (false) ([]) (⟨#[]⟩) (0) (false) ([])) (qPD n) qJ3 d
theorem qC5 (n:Nat) {d:ED} (hd:RK n 89 d):RK n 89 (qCP n d):=
 zF (fun hs r h=>by unfold qPD at h;split at h;exact ⟨qFo _ _ _ _ _ _ _ _ _ _ _ _ _ _ _ _ _ _,qFp _ _ _ _ _ _ _ _ _ _ _ _ _ _ _ _ _ _,rfl,rfl,qYj n _ _ _ _ _ _ _ _ _ _ _ _ _ _ _ _ _ _ r h⟩;cases h) hd
def qRQ (x0 x1:BA):List AV:= [(cs x0),(cs x1)]
def qRR (x0 x1:BA):FR:= []
def qX2 (r:(BA×BA×Bool)):Res:=⟨(.tup [(false,[(vs r.1)]),(false,[(vs r.2.1)]),(false,[(vb r.2.2)])]),[],[]⟩
def qL5:Nat→BA→BA→Option ((BA×BA×Bool))
 |0,_,_=>none
 |n+1,x0,x1=>zAT x0 x1
theorem qdD:∀(n:Nat) (x0 x1:BA) r,qL5 n x0 x1=some r→Rn n 186 (qRQ x0 x1) (qRR x0 x1)=some (qX2 r)
 |0,x0,x1,r,h=>by cases h
 |n+1,x0,x1,r,h=>by
  have h:zAT x0 x1=some r:=h
  exact zA2 rfl (congrArg (Option.map fun r:(BA×BA×Bool)=>((.tup [(false,[(.p (.s r.1))]),(false,[(.p (.s r.2.1))]),(false,[(.p (.b r.2.2))])]):AV)) h)
def qVt (n:Nat):zS→Option ((BA×BA×Bool))
 |([[[.s x0]],[[.s x1]]],[])=>qL5 n x0 x1
 |_=>none
def qX3 (n:Nat) (d:ED):ED:=zR (qRQ (⟨#[]⟩) (⟨#[]⟩)) (qRR (⟨#[]⟩) (⟨#[]⟩)) (qVt n) qX2 d
theorem qdE (n:Nat) {d:ED} (hd:RK n 186 d):RK n 186 (qX3 n d):=
 zF (fun hs r h=>by unfold qVt at h;split at h;exact ⟨qRQ _ _,qRR _ _,rfl,rfl,qdD n _ _ r h⟩;cases h) hd
def qCh (x0 x1:Int) (x2 x3:BA) (x4:Nat) (x5:Bool) (x6:RW):List AV:= [(.c (.ptr 0 0 0 0 0)),(.agg [(vi x0),(vi x1),(vs x2)])]
def qCi (x0 x1:Int) (x2 x3:BA) (x4:Nat) (x5:Bool) (x6:RW):FR:= [[(0,⟨0,3,55,(.box [(vs x3),(.own 0 1 1 x4),(vb x5)])⟩),(1,⟨1,14,64,(.row x6)⟩)]]
def qE0 (r:Int×BA×Nat×Bool×RW):Res:=⟨(ci r.1),[[(0,⟨0,3,55,(.box [(vs r.2.1),(.own 0 1 1 r.2.2.1),(vb r.2.2.2.1)])⟩),(1,⟨1,14,64,(.row r.2.2.2.2)⟩)]],[]⟩
abbrev qIr (n:Nat):zX:=zd [(89,qCP n (zD))]
abbrev qSJ (n:Nat):za:=zN []
def qJ4 (n:Nat) (x0 x1:Int) (x2 x3:BA) (x4:Nat) (x5:Bool) (x6:RW):Tr (Int×BA×Nat×Bool×RW):=(.opt (qk n (1:Int) (0:Int) x0 x1 x2 (0:Int) (0:Int) false false (0:Int) (0:Int) false false ([]:RW) x3 x4 x5 x6) fun r265=>(.done (r265.1,r265.2.1,r265.2.2.1,r265.2.2.2.1,r265.2.2.2.2)))
def qc:Nat→Int→Int→BA→BA→Nat→Bool→RW→Option (Int×BA×Nat×Bool×RW)
 |0,_,_,_,_,_,_,_=>none
 |n+1,x0,x1,x2,x3,x4,x5,x6=>(qJ4 n x0 x1 x2 x3 x4 x5 x6).run
theorem qSK (n:Nat) (x0 x1:Int) (x2 x3:BA) (x4:Nat) (x5:Bool) (x6:RW):ze (qIr n) (qSJ n) qCd (qCh x0 x1 x2 x3 x4 x5 x6) (qCi x0 x1 x2 x3 x4 x5 x6)=(qJ4 n x0 x1 x2 x3 x4 x5 x6).bind fun r=> .done (qE0 r):=by kernel_rfl
theorem qSL (n:Nat):zW (qIr n) (Rn n):=zA (qC5 n (zB)) (zG)
theorem qSM:∀(n:Nat) (x0 x1:Int) (x2 x3:BA) (x4:Nat) (x5:Bool) (x6:RW) r,qc n x0 x1 x2 x3 x4 x5 x6=some r→Rn n 162 (qCh x0 x1 x2 x3 x4 x5 x6) (qCi x0 x1 x2 x3 x4 x5 x6)=some (qE0 r)
 |0,x0,x1,x2,x3,x4,x5,x6,r,h=>by cases h
 |n+1,x0,x1,x2,x3,x4,x5,x6,r,h=>zH (kf:=qCd) rfl (qSL n) (zI rfl) (qSK n x0 x1 x2 x3 x4 x5 x6) h
def qIs (n:Nat):zS→Option (Int×BA×Nat×Bool×RW)
 |([[[]],[[.i x0],[.i x1],[.s x2]]],[[[[.s x3],[.n x4],[.b x5]],[[.r x6]]]])=>qc n x0 x1 x2 x3 x4 x5 x6
 |_=>none
def qE1 (n:Nat) (d:ED):ED:=zR (qCh (0) (0) (⟨#[]⟩) (⟨#[]⟩) (0) (false) ([])) (qCi (0) (0) (⟨#[]⟩) (⟨#[]⟩) (0) (false) ([])) (qIs n) qE0 d
theorem qIt (n:Nat) {d:ED} (hd:RK n 162 d):RK n 162 (qE1 n d):=
 zF (fun hs r h=>by unfold qIs at h;split at h;exact ⟨qCh _ _ _ _ _ _ _,qCi _ _ _ _ _ _ _,rfl,rfl,qSM n _ _ _ _ _ _ _ r h⟩;cases h) hd
def qDe (x0:BA) (x1:Nat) (x2:Bool) (x3:RW):List AV:= [(.c (.ptr 0 0 0 0 0))]
def qDf (x0:BA) (x1:Nat) (x2:Bool) (x3:RW):FR:= [[(0,⟨0,3,55,(.box [(vs x0),(.own 0 1 1 x1),(vb x2)])⟩),(1,⟨1,14,64,(.row x3)⟩)]]
def qGF (r:Int×BA×Nat×Bool×RW):Res:=⟨(ci r.1),[[(0,⟨0,3,55,(.box [(vs r.2.1),(.own 0 1 1 r.2.2.1),(vb r.2.2.2.1)])⟩),(1,⟨1,14,64,(.row r.2.2.2.2)⟩)]],[]⟩
abbrev qFe (n:Nat):zX:=zd [(186,qX3 n (zD)),(69,qCZ n (zD)),(162,qE1 n (zD))]
def qEQ (v:BA×BA×BA×Nat×Bool×RW):St:=⟨[(0,(.c (.ptr 0 0 0 0 0))),(3,(cs v.1)),(4,(cs v.2.1))],[],[[(0,⟨0,3,55,(.box [(vs v.2.2.1),(.own 0 1 1 v.2.2.2.1),(vb v.2.2.2.2.1)])⟩),(1,⟨1,14,64,(.row v.2.2.2.2.2)⟩)]]⟩
def qCQ (n:Nat) (v:BA×BA×BA×Nat×Bool×RW):Tr ((BA×BA×BA×Nat×Bool×RW)⊕((Int×BA×Nat×Bool×RW)⊕(BA×BA×BA×Nat×Bool×RW))):=(.opt (qL5 n v.2.1 (⟨#[34]⟩:BA)) fun r260=>(.ask ((!r260.2.2)) (.done (.inr (.inl (((-1:Int),v.2.2.1,v.2.2.2.1,true,v.2.2.2.2.2))))) (.ask (decide (v.1.size+r260.1.size≤9223372036854775807)) (.opt (qe n r260.2.1 (⟨#[34]⟩:BA)) fun r261=>(.ask ((!r261)) (.done (.inr (.inr (((v.1++r260.1),r260.2.1,v.2.2.1,v.2.2.2.1,v.2.2.2.2.1,v.2.2.2.2.2))))) (.ask (decide ((v.1++r260.1).size+(⟨#[34]⟩:BA).size≤9223372036854775807)) (.ask (decide (0≤(1:Int)∧(1:Int)≤(r260.2.1.size:Int)∧(r260.2.1.size:Int)≤r260.2.1.size)) (.done (.inl (((v.1++r260.1)++(⟨#[34]⟩:BA)),(r260.2.1.extract ((1:Int)).toNat ((r260.2.1.size:Int)).toNat),v.2.2.1,v.2.2.2.1,v.2.2.2.2.1,v.2.2.2.2.2))) .fail) .fail))) .fail)))
def qER:((Int×BA×Nat×Bool×RW)⊕(BA×BA×BA×Nat×Bool×RW))→Ex×St:=fun| .inl r=>(.ret,⟨[(2,(ci r.1))],[],[[(0,⟨0,3,55,(.box [(vs r.2.1),(.own 0 1 1 r.2.2.1),(vb r.2.2.2.1)])⟩),(1,⟨1,14,64,(.row r.2.2.2.2)⟩)]]⟩)| .inr r=>(fun r=>((.exit 0),⟨[(0,(.c (.ptr 0 0 0 0 0))),(3,(cs r.1)),(4,(cs r.2.1))],[],[[(0,⟨0,3,55,(.box [(vs r.2.2.1),(.own 0 1 1 r.2.2.2.1),(vb r.2.2.2.2.1)])⟩),(1,⟨1,14,64,(.row r.2.2.2.2.2)⟩)]]⟩)) r
def qRS:((Int×BA×Nat×Bool×RW)⊕(BA×BA×BA×Nat×Bool×RW))→Tr (Ex×St):=fun r=> .alt r (fun r=> .done (qER (.inl r))) (fun r=> .done (qER (.inr r)))
def qHh:zw→Option (BA×BA×BA×Nat×Bool×RW)
 |([[[]],[[.s w0]],[[.s w1]]],[],[[[[.s w2],[.n w3],[.b w4]],[[.r w5]]]])=>some (w0,w1,w2,w3,w4,w5)
 |_=>none
abbrev qHi (n:Nat):St→Tr (Ex×St):=zp (qEQ (⟨#[]⟩,⟨#[]⟩,⟨#[]⟩,0,false,[])) qHh (qCQ n) qRS n
abbrev qKm (n:Nat):za:=zN [(14,qHi n)]
def qMW (n:Nat) (x0:BA) (x1:Nat) (x2:Bool) (x3:RW):Tr (Int×BA×Nat×Bool×RW):=(.ask (decide (0≤(1:Int)∧(1:Int)≤(x0.size:Int)∧(x0.size:Int)≤x0.size)) (.opt (zL (qCQ n) n ((⟨#[]⟩:BA),(x0.extract ((1:Int)).toNat ((x0.size:Int)).toNat),x0,x1,x2,x3)) fun r262=>(.alt r262 (fun r263=>(.done (r263.1,r263.2.1,r263.2.2.1,r263.2.2.2.1,r263.2.2.2.2))) (fun r264=>(.opt (qc n (2:Int) (0:Int) r264.1 r264.2.1 r264.2.2.2.1 r264.2.2.2.2.1 r264.2.2.2.2.2) fun r266=>(.done (r266.1,r266.2.1,r266.2.2.1,r266.2.2.2.1,r266.2.2.2.2)))))) .fail)
def qDg:Nat→BA→Nat→Bool→RW→Option (Int×BA×Nat×Bool×RW)
 |0,_,_,_,_=>none
 |n+1,x0,x1,x2,x3=>(qMW n x0 x1 x2 x3).run
theorem qUi (n:Nat) (x0:BA) (x1:Nat) (x2:Bool) (x3:RW):ze (qFe n) (qKm n) qCE (qDe x0 x1 x2 x3) (qDf x0 x1 x2 x3)=(qMW n x0 x1 x2 x3).bind fun r=> .done (qGF r):=by kernel_rfl
theorem qKn (n:Nat):zW (qFe n) (Rn n):=zA (qdE n (zB)) (zA (qDd n (zB)) (zA (qIt n (zB)) (zG)))
theorem qRT (n:Nat) (v:BA×BA×BA×Nat×Bool×RW):(zf (qFe n) (zN []) qDs (qEQ v) []).bind (zx [0,3,4] [(.ret,[2]),((.exit 0),[0,3,4])])=(qCQ n v).bind (zAQ qEQ qER):=by
 obtain ⟨w0,w1,w2,w3,w4,w5⟩:=v
 kernel_rfl
theorem qRU (n:Nat):zAX (Rn n) n (14,[0,3,4],[(.ret,[2]),((.exit 0),[0,3,4])],qDs) (qHi n):=fun st e s h=>
 zh (qKn n) (zI rfl) (qRT n) (fun r=>by
  rcases r with r|r<;>(intro h;cases h)) (fun r y h=>by
  rcases r with r|r<;>(cases h;rfl)) (fun hs v h=>by
  unfold qHh at h
  split at h<;>cases h
  rfl) h
theorem qUj (n:Nat):zAK (qKm n) (Rn n) n qCE.body:=lt1 rfl (qRU n)
theorem qUk:∀(n:Nat) (x0:BA) (x1:Nat) (x2:Bool) (x3:RW) r,qDg n x0 x1 x2 x3=some r→Rn n 161 (qDe x0 x1 x2 x3) (qDf x0 x1 x2 x3)=some (qGF r)
 |0,x0,x1,x2,x3,r,h=>by cases h
 |n+1,x0,x1,x2,x3,r,h=>zH (kf:=qCE) rfl (qKn n) (qUj n) (qUi n x0 x1 x2 x3) h
def qKo (n:Nat):zS→Option (Int×BA×Nat×Bool×RW)
 |([[[]]],[[[[.s x0],[.n x1],[.b x2]],[[.r x3]]]])=>qDg n x0 x1 x2 x3
 |_=>none
def qMX (n:Nat) (d:ED):ED:=zR (qDe (⟨#[]⟩) (0) (false) ([])) (qDf (⟨#[]⟩) (0) (false) ([])) (qKo n) qGF d
theorem qUl (n:Nat) {d:ED} (hd:RK n 161 d):RK n 161 (qMX n d):=
 zF (fun hs r h=>by unfold qKo at h;split at h;exact ⟨qDe _ _ _ _,qDf _ _ _ _,rfl,rfl,qUk n _ _ _ _ r h⟩;cases h) hd
def qGq (x0:Int):List AV:= [(ci x0)]
def qGr (x0:Int):FR:= []
def qLP (r:BA):Res:=⟨(cs r),[],[]⟩
abbrev qQg (n:Nat):zX:=zd []
abbrev qZe (n:Nat):za:=zN []
def qLQ (n:Nat) (x0:Int):Tr (BA):=(.ask (decide (6=([[(.s (⟨#[]⟩:BA))],[(.s (⟨#[35,68,73,86,33]⟩:BA))],[(.s (⟨#[35,84,89,80,69,33]⟩:BA))],[(.s (⟨#[35,82,69,70,33]⟩:BA))],[(.s (⟨#[35,79,86,69,82,33]⟩:BA))],[(.s (⟨#[35,67,89,67,76,69,33]⟩:BA))]]:RW).length∧0≤x0∧x0<((6:Nat):Int))) (.opt (([[(.s (⟨#[]⟩:BA))],[(.s (⟨#[35,68,73,86,33]⟩:BA))],[(.s (⟨#[35,84,89,80,69,33]⟩:BA))],[(.s (⟨#[35,82,69,70,33]⟩:BA))],[(.s (⟨#[35,79,86,69,82,33]⟩:BA))],[(.s (⟨#[35,67,89,67,76,69,33]⟩:BA))]]:RW)[(x0).toNat]?) fun e269=>(.opt (zAv e269 0) fun y270=>(.done y270))) .fail)
def qAP:Nat→Int→Option (BA)
 |0,_=>none
 |n+1,x0=>(qLQ n x0).run
theorem qZf (n:Nat) (x0:Int):ze (qQg n) (qZe n) qGS (qGq x0) (qGr x0)=(qLQ n x0).bind fun r=> .done (qLP r):=by kernel_rfl
theorem qZg (n:Nat):zW (qQg n) (Rn n):=zG
theorem qZh:∀(n:Nat) (x0:Int) r,qAP n x0=some r→Rn n 70 (qGq x0) (qGr x0)=some (qLP r)
 |0,x0,r,h=>by cases h
 |n+1,x0,r,h=>zH (kf:=qGS) rfl (qZg n) (zI rfl) (qZf n x0) h
def qQh (n:Nat):zS→Option (BA)
 |([[[.i x0]]],[])=>qAP n x0
 |_=>none
def qGs (n:Nat) (d:ED):ED:=zR (qGq (0)) (qGr (0)) (qQh n) qLP d
theorem qJ5 (n:Nat) {d:ED} (hd:RK n 70 d):RK n 70 (qGs n d):=
 zF (fun hs r h=>by unfold qQh at h;split at h;exact ⟨qGq _,qGr _,rfl,rfl,qZh n _ r h⟩;cases h) hd
def qOC (x0:Int):List AV:= [(ci x0)]
def qOD (x0:Int):FR:= []
def qSv (r:Int×Int×BA):Res:=⟨(.agg [(vi r.1),(vi r.2.1),(vs r.2.2)]),[],[]⟩
abbrev qX4 (n:Nat):zX:=zd []
abbrev qd5 (n:Nat):za:=zN []
def qSw (n:Nat) (x0:Int):Tr (Int×Int×BA):=(.done ((4:Int),x0,(⟨#[]⟩:BA)))
def qBk:Nat→Int→Option (Int×Int×BA)
 |0,_=>none
 |n+1,x0=>(qSw n x0).run
theorem qd6 (n:Nat) (x0:Int):ze (qX4 n) (qd5 n) qN2 (qOC x0) (qOD x0)=(qSw n x0).bind fun r=> .done (qSv r):=by kernel_rfl
theorem qd7 (n:Nat):zW (qX4 n) (Rn n):=zG
theorem qd8:∀(n:Nat) (x0:Int) r,qBk n x0=some r→Rn n 71 (qOC x0) (qOD x0)=some (qSv r)
 |0,x0,r,h=>by cases h
 |n+1,x0,r,h=>zH (kf:=qN2) rfl (qd7 n) (zI rfl) (qd6 n x0) h
def qX5 (n:Nat):zS→Option (Int×Int×BA)
 |([[[.i x0]]],[])=>qBk n x0
 |_=>none
def qSx (n:Nat) (d:ED):ED:=zR (qOC (0)) (qOD (0)) (qX5 n) qSv d
theorem qX6 (n:Nat) {d:ED} (hd:RK n 71 d):RK n 71 (qSx n d):=
 zF (fun hs r h=>by unfold qX5 at h;split at h;exact ⟨qOC _,qOD _,rfl,rfl,qd8 n _ r h⟩;cases h) hd
def qE2 (x0:BA) (x1:Nat) (x2:Bool) (x3:RW):List AV:= [(.c (.ptr 0 0 0 0 0))]
def qE3 (x0:BA) (x1:Nat) (x2:Bool) (x3:RW):FR:= [[(0,⟨0,3,55,(.box [(vs x0),(.own 0 1 1 x1),(vb x2)])⟩),(1,⟨1,14,64,(.row x3)⟩)]]
def qIX (r:BA×BA×Nat×Bool×RW):Res:=⟨(cs r.1),[[(0,⟨0,3,55,(.box [(vs r.2.1),(.own 0 1 1 r.2.2.1),(vb r.2.2.2.1)])⟩),(1,⟨1,14,64,(.row r.2.2.2.2)⟩)]],[]⟩
abbrev qNd (n:Nat):zX:=zd [(37,qCI n (zD)),(90,qEv n (zD))]
abbrev qXH (n:Nat):za:=zN []
def qPE (n:Nat) (x0:BA) (x1:Nat) (x2:Bool) (x3:RW):Tr (BA×BA×Nat×Bool×RW):=(.opt (qAk n x0 x1 x2 x3) fun r276=>(.opt (qA6 n r276.1 (⟨#[65,66,67,68,69,70,71,72,73,74,75,76,77,78,79,80,81,82,83,84,85,86,87,88,89,90,48,49,50,51,52,53,54,55,56,57,36]⟩:BA)) fun r277=>(.ask (decide (0≤(0:Int)∧(0:Int)≤(IntKind.i64.wrap ((r276.1.size:Int)-(r277.size:Int)))∧(IntKind.i64.wrap ((r276.1.size:Int)-(r277.size:Int)))≤r276.1.size)) (.ask (decide (0≤(IntKind.i64.wrap ((r276.1.size:Int)-(r277.size:Int)))∧(IntKind.i64.wrap ((r276.1.size:Int)-(r277.size:Int)))≤(r276.1.size:Int)∧(r276.1.size:Int)≤r276.1.size)) (.done ((r276.1.extract ((0:Int)).toNat ((IntKind.i64.wrap ((r276.1.size:Int)-(r277.size:Int)))).toNat),(r276.1.extract ((IntKind.i64.wrap ((r276.1.size:Int)-(r277.size:Int)))).toNat ((r276.1.size:Int)).toNat),r276.2.1,r276.2.2.1,r276.2.2.2)) .fail) .fail)))
def qA7:Nat→BA→Nat→Bool→RW→Option (BA×BA×Nat×Bool×RW)
 |0,_,_,_,_=>none
 |n+1,x0,x1,x2,x3=>(qPE n x0 x1 x2 x3).run
theorem qXI (n:Nat) (x0:BA) (x1:Nat) (x2:Bool) (x3:RW):ze (qNd n) (qXH n) qEh (qE2 x0 x1 x2 x3) (qE3 x0 x1 x2 x3)=(qPE n x0 x1 x2 x3).bind fun r=> .done (qIX r):=by kernel_rfl
theorem qXJ (n:Nat):zW (qNd n) (Rn n):=zA (qDG n (zB)) (zA (qHO n (zB)) (zG))
theorem qXK:∀(n:Nat) (x0:BA) (x1:Nat) (x2:Bool) (x3:RW) r,qA7 n x0 x1 x2 x3=some r→Rn n 163 (qE2 x0 x1 x2 x3) (qE3 x0 x1 x2 x3)=some (qIX r)
 |0,x0,x1,x2,x3,r,h=>by cases h
 |n+1,x0,x1,x2,x3,r,h=>zH (kf:=qEh) rfl (qXJ n) (zI rfl) (qXI n x0 x1 x2 x3) h
def qNe (n:Nat):zS→Option (BA×BA×Nat×Bool×RW)
 |([[[]]],[[[[.s x0],[.n x1],[.b x2]],[[.r x3]]]])=>qA7 n x0 x1 x2 x3
 |_=>none
def qIY (n:Nat) (d:ED):ED:=zR (qE2 (⟨#[]⟩) (0) (false) ([])) (qE3 (⟨#[]⟩) (0) (false) ([])) (qNe n) qIX d
theorem qNf (n:Nat) {d:ED} (hd:RK n 163 d):RK n 163 (qIY n d):=
 zF (fun hs r h=>by unfold qNe at h;split at h;exact ⟨qE2 _ _ _ _,qE3 _ _ _ _,rfl,rfl,qXK n _ _ _ _ r h⟩;cases h) hd
def qL6 (x0 x1 x2:Int):List AV:= [(ci x0),(ci x1),(ci x2)]
def qL7 (x0 x1 x2:Int):FR:= []
def qRV (r:Bool):Res:=⟨(cb r),[],[]⟩
abbrev qVu (n:Nat):zX:=zd []
abbrev qdF (n:Nat):za:=zN []
def qRW (n:Nat) (x0 x1 x2:Int):Tr (Bool):=(.ask ((decide (x0≥x1))) (.done (decide (x0≤x2))) (.done false))
def qAV:Nat→Int→Int→Int→Option (Bool)
 |0,_,_,_=>none
 |n+1,x0,x1,x2=>(qRW n x0 x1 x2).run
theorem qdG (n:Nat) (x0 x1 x2:Int):ze (qVu n) (qdF n) qLg (qL6 x0 x1 x2) (qL7 x0 x1 x2)=(qRW n x0 x1 x2).bind fun r=> .done (qRV r):=by kernel_rfl
theorem qdH (n:Nat):zW (qVu n) (Rn n):=zG
theorem qdI:∀(n:Nat) (x0 x1 x2:Int) r,qAV n x0 x1 x2=some r→Rn n 48 (qL6 x0 x1 x2) (qL7 x0 x1 x2)=some (qRV r)
 |0,x0,x1,x2,r,h=>by cases h
 |n+1,x0,x1,x2,r,h=>zH (kf:=qLg) rfl (qdH n) (zI rfl) (qdG n x0 x1 x2) h
def qVv (n:Nat):zS→Option (Bool)
 |([[[.i x0]],[[.i x1]],[[.i x2]]],[])=>qAV n x0 x1 x2
 |_=>none
def qFX (n:Nat) (d:ED):ED:=zR (qL6 (0) (0) (0)) (qL7 (0) (0) (0)) (qVv n) qRV d
theorem qGG (n:Nat) {d:ED} (hd:RK n 48 d):RK n 48 (qFX n d):=
 zF (fun hs r h=>by unfold qVv at h;split at h;exact ⟨qL6 _ _ _,qL7 _ _ _,rfl,rfl,qdI n _ _ _ r h⟩;cases h) hd
def qJ6 (x0 x1:Int) (x2:BA):List AV:= [(.agg [(vi x0),(vi x1),(vs x2)])]
def qJ7 (x0 x1:Int) (x2:BA):FR:= []
def qPF (r:Bool):Res:=⟨(cb r),[],[]⟩
abbrev qT6 (n:Nat):zX:=zd [(35,qL4 n (zD)),(48,qFX n (zD))]
abbrev qb4 (n:Nat):za:=zN []
def qPG (n:Nat) (x0 x1:Int) (x2:BA):Tr (Bool):=(.ask ((x0==(2:Int))) (.ask ((x1==(0:Int))) (.opt (qDw n x2 (200:Int)) fun r280=>(.done r280)) (.done false)) (.ask ((!(x2.toList==(⟨#[]⟩:BA).toList))) (.done false) (.ask ((x0==(0:Int))) (.done (x1==(0:Int))) (.ask ((x0==(1:Int))) (.opt (qAV n x1 (-1000000000000000:Int) (1000000000000000:Int)) fun r281=>(.done r281)) (.ask ((x0==(3:Int))) (.opt (qAV n x1 (0:Int) (1:Int)) fun r282=>(.done r282)) (.ask ((x0==(4:Int))) (.opt (qAV n x1 (1:Int) (5:Int)) fun r283=>(.done r283)) (.done false)))))))
def qAK:Nat→Int→Int→BA→Option (Bool)
 |0,_,_,_=>none
 |n+1,x0,x1,x2=>(qPG n x0 x1 x2).run
theorem qb5 (n:Nat) (x0 x1:Int) (x2:BA):ze (qT6 n) (qb4 n) qJC (qJ6 x0 x1 x2) (qJ7 x0 x1 x2)=(qPG n x0 x1 x2).bind fun r=> .done (qPF r):=by kernel_rfl
theorem qb6 (n:Nat):zW (qT6 n) (Rn n):=zA (qO8 n (zB)) (zA (qGG n (zB)) (zG))
theorem qb7:∀(n:Nat) (x0 x1:Int) (x2:BA) r,qAK n x0 x1 x2=some r→Rn n 63 (qJ6 x0 x1 x2) (qJ7 x0 x1 x2)=some (qPF r)
 |0,x0,x1,x2,r,h=>by cases h
 |n+1,x0,x1,x2,r,h=>zH (kf:=qJC) rfl (qb6 n) (zI rfl) (qb5 n x0 x1 x2) h
def qT7 (n:Nat):zS→Option (Bool)
 |([[[.i x0],[.i x1],[.s x2]]],[])=>qAK n x0 x1 x2
 |_=>none
def qJ8 (n:Nat) (d:ED):ED:=zR (qJ6 (0) (0) (⟨#[]⟩)) (qJ7 (0) (0) (⟨#[]⟩)) (qT7 n) qPF d
theorem qM8 (n:Nat) {d:ED} (hd:RK n 63 d):RK n 63 (qJ8 n d):=
 zF (fun hs r h=>by unfold qT7 at h;split at h;exact ⟨qJ6 _ _ _,qJ7 _ _ _,rfl,rfl,qb7 n _ _ _ r h⟩;cases h) hd
def qHR (x0 x1:Int):List AV:= [(ci x0),(ci x1)]
def qHS (x0 x1:Int):FR:= []
def qNg (r:(BA)):Res:=⟨(cs r),[],[]⟩
def qD7:Nat→Int→Int→Option ((BA))
 |0,_,_=>none
 |n+1,x0,x1=>zu x0 x1
theorem qVw:∀(n:Nat) (x0 x1:Int) r,qD7 n x0 x1=some r→Rn n 122 (qHR x0 x1) (qHS x0 x1)=some (qNg r)
 |0,x0,x1,r,h=>by cases h
 |n+1,x0,x1,r,h=>by
  have h:zu x0 x1=some r:=h
  exact zA2 rfl (congrArg (Option.map fun r:(BA)=>((.c (.p (.s r))):AV)) h)
def qMY (n:Nat):zS→Option ((BA))
 |([[[.i x0]],[[.i x1]]],[])=>qD7 n x0 x1
 |_=>none
def qNh (n:Nat) (d:ED):ED:=zR (qHR (0) (0)) (qHS (0) (0)) (qMY n) qNg d
theorem qVx (n:Nat) {d:ED} (hd:RK n 122 d):RK n 122 (qNh n d):=
 zF (fun hs r h=>by unfold qMY at h;split at h;exact ⟨qHR _ _,qHS _ _,rfl,rfl,qVw n _ _ r h⟩;cases h) hd
def qJ9 (x0:Int):List AV:= [(ci x0)]
def qKA (x0:Int):FR:= []
def qPH (r:BA):Res:=⟨(cs r),[],[]⟩
abbrev qT8 (n:Nat):zX:=zd [(122,qNh n (zD))]
abbrev qb8 (n:Nat):za:=zN []
def qPI (n:Nat) (x0:Int):Tr (BA):=(.opt (qD7 n x0 (10:Int)) fun r285=>(.done r285))
def qA8:Nat→Int→Option (BA)
 |0,_=>none
 |n+1,x0=>(qPI n x0).run
theorem qb9 (n:Nat) (x0:Int):ze (qT8 n) (qb8 n) qJD (qJ9 x0) (qKA x0)=(qPI n x0).bind fun r=> .done (qPH r):=by kernel_rfl
theorem qcA (n:Nat):zW (qT8 n) (Rn n):=zA (qVx n (zB)) (zG)
theorem qcB:∀(n:Nat) (x0:Int) r,qA8 n x0=some r→Rn n 65 (qJ9 x0) (qKA x0)=some (qPH r)
 |0,x0,r,h=>by cases h
 |n+1,x0,r,h=>zH (kf:=qJD) rfl (qcA n) (zI rfl) (qb9 n x0) h
def qT9 (n:Nat):zS→Option (BA)
 |([[[.i x0]]],[])=>qA8 n x0
 |_=>none
def qKB (n:Nat) (d:ED):ED:=zR (qJ9 (0)) (qKA (0)) (qT9 n) qPH d
theorem qM9 (n:Nat) {d:ED} (hd:RK n 65 d):RK n 65 (qKB n d):=
 zF (fun hs r h=>by unfold qT9 at h;split at h;exact ⟨qJ9 _,qKA _,rfl,rfl,qcB n _ r h⟩;cases h) hd
def qGt (x0 x1:Int) (x2:BA):List AV:= [(.agg [(vi x0),(vi x1),(vs x2)])]
def qGu (x0 x1:Int) (x2:BA):FR:= []
def qLR (r:BA):Res:=⟨(cs r),[],[]⟩
abbrev qQi (n:Nat):zX:=zd [(65,qKB n (zD)),(70,qGs n (zD))]
abbrev qZi (n:Nat):za:=zN []
def qB1 (n:Nat) (x0 x1:Int) (x2:BA):Tr (BA):=(.ask ((x0==(1:Int))) (.opt (qA8 n x1) fun r286=>(.done r286)) (.ask ((x0==(2:Int))) (.ask (decide ((⟨#[39]⟩:BA).size+x2.size≤9223372036854775807)) (.done ((⟨#[39]⟩:BA)++x2)) .fail) (.ask ((x0==(3:Int))) (.ask (decide (2=([[(.s (⟨#[70,65,76,83,69]⟩:BA))],[(.s (⟨#[84,82,85,69]⟩:BA))]]:RW).length∧0≤x1∧x1<((2:Nat):Int))) (.opt (([[(.s (⟨#[70,65,76,83,69]⟩:BA))],[(.s (⟨#[84,82,85,69]⟩:BA))]]:RW)[(x1).toNat]?) fun e287=>(.opt (zAv e287 0) fun y288=>(.done y288))) .fail) (.ask ((x0==(4:Int))) (.opt (qAP n x1) fun r289=>(.done r289)) (.done (⟨#[]⟩:BA))))))
def ql:Nat→Int→Int→BA→Option (BA)
 |0,_,_,_=>none
 |n+1,x0,x1,x2=>(qB1 n x0 x1 x2).run
theorem qZj (n:Nat) (x0 x1:Int) (x2:BA):ze (qQi n) (qZi n) qGT (qGt x0 x1 x2) (qGu x0 x1 x2)=(qB1 n x0 x1 x2).bind fun r=> .done (qLR r):=by kernel_rfl
theorem qZk (n:Nat):zW (qQi n) (Rn n):=zA (qM9 n (zB)) (zA (qJ5 n (zB)) (zG))
theorem qZl:∀(n:Nat) (x0 x1:Int) (x2:BA) r,ql n x0 x1 x2=some r→Rn n 72 (qGt x0 x1 x2) (qGu x0 x1 x2)=some (qLR r)
 |0,x0,x1,x2,r,h=>by cases h
 |n+1,x0,x1,x2,r,h=>zH (kf:=qGT) rfl (qZk n) (zI rfl) (qZj n x0 x1 x2) h
def qQj (n:Nat):zS→Option (BA)
 |([[[.i x0],[.i x1],[.s x2]]],[])=>ql n x0 x1 x2
 |_=>none
def qLS (n:Nat) (d:ED):ED:=zR (qGt (0) (0) (⟨#[]⟩)) (qGu (0) (0) (⟨#[]⟩)) (qQj n) qLR d
theorem qQk (n:Nat) {d:ED} (hd:RK n 72 d):RK n 72 (qLS n d):=
 zF (fun hs r h=>by unfold qQj at h;split at h;exact ⟨qGt _ _ _,qGu _ _ _,rfl,rfl,qZl n _ _ _ r h⟩;cases h) hd
def qOE (x0:Bool):List AV:= [(cb x0)]
def qOF (x0:Bool):FR:= []
def qSy (r:Int×Int×BA):Res:=⟨(.agg [(vi r.1),(vi r.2.1),(vs r.2.2)]),[],[]⟩
abbrev qX7 (n:Nat):zX:=zd []
abbrev qd9 (n:Nat):za:=zN []
def qSz (n:Nat) (x0:Bool):Tr (Int×Int×BA):=(.ask (x0) (.done ((3:Int),(1:Int),(⟨#[]⟩:BA))) (.done ((3:Int),(0:Int),(⟨#[]⟩:BA))))
def qGv:Nat→Bool→Option (Int×Int×BA)
 |0,_=>none
 |n+1,x0=>(qSz n x0).run
theorem qeA (n:Nat) (x0:Bool):ze (qX7 n) (qd9 n) qN1 (qOE x0) (qOF x0)=(qSz n x0).bind fun r=> .done (qSy r):=by kernel_rfl
theorem qeB (n:Nat):zW (qX7 n) (Rn n):=zG
theorem qeC:∀(n:Nat) (x0:Bool) r,qGv n x0=some r→Rn n 68 (qOE x0) (qOF x0)=some (qSy r)
 |0,x0,r,h=>by cases h
 |n+1,x0,r,h=>zH (kf:=qN1) rfl (qeB n) (zI rfl) (qeA n x0) h
def qX8 (n:Nat):zS→Option (Int×Int×BA)
 |([[[.b x0]]],[])=>qGv n x0
 |_=>none
def qZm (n:Nat) (d:ED):ED:=zR (qOE (false)) (qOF (false)) (qX8 n) qSy d
theorem qeD (n:Nat) {d:ED} (hd:RK n 68 d):RK n 68 (qZm n d):=
 zF (fun hs r h=>by unfold qX8 at h;split at h;exact ⟨qOE _,qOF _,rfl,rfl,qeC n _ r h⟩;cases h) hd
def qIZ (x0:BA) (x1 x2:Int):List AV:= [(cs x0),(ci x1),(ci x2)]
def qIa (x0:BA) (x1 x2:Int):FR:= []
def qPJ:(Int)⊕(Int)→Res:=fun| .inl r=>⟨(.tup [(false,[(vi r)]),(false,[(.p .nif)])]),[],[]⟩| .inr r=>⟨(.tup [(false,[(vi r)]),(false,[(.p .ifc)])]),[],[]⟩
def qAl:Nat→BA→Int→Int→Option ((Int)⊕(Int))
 |0,_,_,_=>none
 |n+1,x0,x1,x2=>zb x0 x1 x2
theorem qXL:∀(n:Nat) (x0:BA) (x1 x2:Int) r,qAl n x0 x1 x2=some r→Rn n 61 (qIZ x0 x1 x2) (qIa x0 x1 x2)=some (qPJ r)
 |0,x0,x1,x2,r,h=>by cases h
 |n+1,x0,x1,x2,r,h=>by
  have h:zb x0 x1 x2=some r:=h
  rcases r with r|r
  ·exact zA2 rfl (congrArg (Option.map zAU) h)
  ·exact zA2 rfl (congrArg (Option.map zAU) h)
def qNi (n:Nat):zS→Option ((Int)⊕(Int))
 |([[[.s x0]],[[.i x1]],[[.i x2]]],[])=>qAl n x0 x1 x2
 |_=>none
def qE4 (n:Nat) (d:ED):ED:=zID (qIZ (⟨#[]⟩) (0) (0)) (qIa (⟨#[]⟩) (0) (0)) (qNi n) qPJ d
theorem qHT (n:Nat) {d:ED} (hd:RK n 61 d):RK n 61 (qE4 n d):=
 zIE (fun hs r h=>by unfold qNi at h;split at h;exact ⟨qIZ _ _ _,qIa _ _ _,rfl,rfl,qXL n _ _ _ r h⟩;cases h) hd
def qL8 (x0:Int):List AV:= [(ci x0)]
def qL9 (x0:Int):FR:= []
def qRX (r:Int×Int×BA):Res:=⟨(.agg [(vi r.1),(vi r.2.1),(vs r.2.2)]),[],[]⟩
abbrev qVy (n:Nat):zX:=zd []
abbrev qdJ (n:Nat):za:=zN []
def qRY (n:Nat) (x0:Int):Tr (Int×Int×BA):=(.done ((1:Int),x0,(⟨#[]⟩:BA)))
def qCr:Nat→Int→Option (Int×Int×BA)
 |0,_=>none
 |n+1,x0=>(qRY n x0).run
theorem qdK (n:Nat) (x0:Int):ze (qVy n) (qdJ n) qLh (qL8 x0) (qL9 x0)=(qRY n x0).bind fun r=> .done (qRX r):=by kernel_rfl
theorem qdL (n:Nat):zW (qVy n) (Rn n):=zG
theorem qdM:∀(n:Nat) (x0:Int) r,qCr n x0=some r→Rn n 64 (qL8 x0) (qL9 x0)=some (qRX r)
 |0,x0,r,h=>by cases h
 |n+1,x0,r,h=>zH (kf:=qLh) rfl (qdL n) (zI rfl) (qdK n x0) h
def qVz (n:Nat):zS→Option (Int×Int×BA)
 |([[[.i x0]]],[])=>qCr n x0
 |_=>none
def qRZ (n:Nat) (d:ED):ED:=zR (qL8 (0)) (qL9 (0)) (qVz n) qRX d
theorem qV0 (n:Nat) {d:ED} (hd:RK n 64 d):RK n 64 (qRZ n d):=
 zF (fun hs r h=>by unfold qVz at h;split at h;exact ⟨qL8 _,qL9 _,rfl,rfl,qdM n _ r h⟩;cases h) hd
def qGw (x0:BA):List AV:= [(cs x0)]
def qGx (x0:BA):FR:= []
def qLT (r:Int×Int×BA×Bool):Res:=⟨(.tup [(true,[(vi r.1),(vi r.2.1),(vs r.2.2.1)]),(false,[(vb r.2.2.2)])]),[],[]⟩
abbrev qKC (n:Nat):zX:=zd [(59,qCX n (zD)),(63,qJ8 n (zD)),(72,qLS n (zD)),(68,qZm n (zD)),(69,qCZ n (zD)),(70,qGs n (zD)),(71,qSx n (zD)),(61,qE4 n (zD)),(64,qRZ n (zD))]
def qFf (v:BA×Int×Int×Int×BA×Int×Int×BA):St:=⟨[(0,(cs v.1)),(2,(.c (.ptr 0 128 0 0 0))),(4,(.c (.ptr 0 256 0 0 0))),(7,(ci v.2.1))],[(128,⟨0,3,37,(.box [(vi v.2.2.1),(vi v.2.2.2.1),(vs v.2.2.2.2.1)])⟩),(256,⟨0,3,37,(.box [(vi v.2.2.2.2.2.1),(vi v.2.2.2.2.2.2.1),(vs v.2.2.2.2.2.2.2)])⟩)],[]⟩
def qA0 (n:Nat) (v:BA×Int×Int×Int×BA×Int×Int×BA):Tr ((BA×Int×Int×Int×BA×Int×Int×BA)⊕((BA×Int×Int×BA×Int×Int×BA))):=(.ask ((decide (v.2.1≤(5:Int)))) (.opt (qAP n v.2.1) fun r298=>(.ask ((r298.toList==v.1.toList)) (.opt (qBk n v.2.1) fun r299=>(.done (.inl (v.1,(IntKind.i64.wrap (v.2.1+(1:Int))),v.2.2.1,v.2.2.2.1,v.2.2.2.2.1,r299.1,r299.2.1,r299.2.2)))) (.done (.inl (v.1,(IntKind.i64.wrap (v.2.1+(1:Int))),v.2.2.1,v.2.2.2.1,v.2.2.2.2.1,v.2.2.2.2.2.1,v.2.2.2.2.2.2.1,v.2.2.2.2.2.2.2))))) (.done (.inr ((v.1,v.2.2.1,v.2.2.2.1,v.2.2.2.2.1,v.2.2.2.2.2.1,v.2.2.2.2.2.2.1,v.2.2.2.2.2.2.2)))))
def qKp:(BA×Int×Int×BA×Int×Int×BA)→Ex×St:=fun r=>((.exit 1),⟨[(0,(cs r.1)),(2,(.c (.ptr 0 128 0 0 0))),(4,(.c (.ptr 0 256 0 0 0)))],[(128,⟨0,3,37,(.box [(vi r.2.1),(vi r.2.2.1),(vs r.2.2.2.1)])⟩),(256,⟨0,3,37,(.box [(vi r.2.2.2.2.1),(vi r.2.2.2.2.2.1),(vs r.2.2.2.2.2.2)])⟩)],[]⟩)
def qS0:(BA×Int×Int×BA×Int×Int×BA)→Tr (Ex×St):=fun r=> .done (qKp r)
def qKD:zw→Option (BA×Int×Int×Int×BA×Int×Int×BA)
 |([[[.s w0]],[[]],[[]],[[.i w1]]],[[[.i w2],[.i w3],[.s w4]],[[.i w5],[.i w6],[.s w7]]],[])=>some (w0,w1,w2,w3,w4,w5,w6,w7)
 |_=>none
abbrev qKE (n:Nat):St→Tr (Ex×St):=zp (qFf (⟨#[]⟩,0,0,0,⟨#[]⟩,0,0,⟨#[]⟩)) qKD (qA0 n) qS0 n
abbrev qQl (n:Nat):za:=zN [(3837,qKE n)]
def qBf (n:Nat) (x0:BA):Tr (Int×Int×BA×Bool):=(.opt (qr n x0 (⟨#[39]⟩:BA)) fun r279=>(.ask (r279.2) (.opt (qAK n (2:Int) (0:Int) r279.1) fun r284=>(.ask ((!r284)) (.done ((0:Int),(0:Int),(⟨#[]⟩:BA),false)) (.opt (ql n (2:Int) (0:Int) r279.1) fun r290=>(.ask ((!(r290.toList==x0.toList))) (.done ((0:Int),(0:Int),(⟨#[]⟩:BA),false)) (.done ((2:Int),(0:Int),r279.1,true)))))) (.ask ((x0.toList==(⟨#[70,65,76,83,69]⟩:BA).toList)) (.opt (qGv n (x0.toList==(⟨#[84,82,85,69]⟩:BA).toList)) fun r291=>(.opt (qAK n r291.1 r291.2.1 r291.2.2) fun r292=>(.ask ((!r292)) (.done ((0:Int),(0:Int),(⟨#[]⟩:BA),false)) (.opt (ql n r291.1 r291.2.1 r291.2.2) fun r293=>(.ask ((!(r293.toList==x0.toList))) (.done ((0:Int),(0:Int),(⟨#[]⟩:BA),false)) (.done (r291.1,r291.2.1,r291.2.2,true))))))) (.ask ((x0.toList==(⟨#[84,82,85,69]⟩:BA).toList)) (.opt (qGv n (x0.toList==(⟨#[84,82,85,69]⟩:BA).toList)) fun r294=>(.opt (qAK n r294.1 r294.2.1 r294.2.2) fun r295=>(.ask ((!r295)) (.done ((0:Int),(0:Int),(⟨#[]⟩:BA),false)) (.opt (ql n r294.1 r294.2.1 r294.2.2) fun r296=>(.ask ((!(r296.toList==x0.toList))) (.done ((0:Int),(0:Int),(⟨#[]⟩:BA),false)) (.done (r294.1,r294.2.1,r294.2.2,true))))))) (.opt (qe n x0 (⟨#[35]⟩:BA)) fun r297=>(.ask (r297) (.opt (zL (qA0 n) n (x0,(1:Int),(0:Int),(0:Int),(⟨#[]⟩:BA),(0:Int),(0:Int),(⟨#[]⟩:BA))) fun r300=>(.opt (qAK n r300.2.2.2.2.1 r300.2.2.2.2.2.1 r300.2.2.2.2.2.2) fun r301=>(.ask ((!r301)) (.done ((0:Int),(0:Int),(⟨#[]⟩:BA),false)) (.opt (ql n r300.2.2.2.2.1 r300.2.2.2.2.2.1 r300.2.2.2.2.2.2) fun r302=>(.ask ((!(r302.toList==r300.1.toList))) (.done ((0:Int),(0:Int),(⟨#[]⟩:BA),false)) (.done (r300.2.2.2.2.1,r300.2.2.2.2.2.1,r300.2.2.2.2.2.2,true))))))) (.ask ((!(x0.toList==(⟨#[]⟩:BA).toList))) (.opt (qAl n x0 (10:Int) (64:Int)) fun r303=>(.alt r303 (fun r304=>(.opt (qCr n r304) fun r306=>(.opt (qAK n r306.1 r306.2.1 r306.2.2) fun r307=>(.ask ((!r307)) (.done ((0:Int),(0:Int),(⟨#[]⟩:BA),false)) (.opt (ql n r306.1 r306.2.1 r306.2.2) fun r308=>(.ask ((!(r308.toList==x0.toList))) (.done ((0:Int),(0:Int),(⟨#[]⟩:BA),false)) (.done (r306.1,r306.2.1,r306.2.2,true)))))))) (fun r305=>(.opt (qCr n r305) fun r309=>(.opt (qAK n r309.1 r309.2.1 r309.2.2) fun r310=>(.ask ((!r310)) (.done ((0:Int),(0:Int),(⟨#[]⟩:BA),false)) (.opt (ql n r309.1 r309.2.1 r309.2.2) fun r311=>(.ask ((!(r311.toList==x0.toList))) (.done ((0:Int),(0:Int),(⟨#[]⟩:BA),false)) (.done (r309.1,r309.2.1,r309.2.2,true)))))))))) (.opt (qAK n (0:Int) (0:Int) (⟨#[]⟩:BA)) fun r312=>(.ask ((!r312)) (.done ((0:Int),(0:Int),(⟨#[]⟩:BA),false)) (.opt (ql n (0:Int) (0:Int) (⟨#[]⟩:BA)) fun r313=>(.ask ((!(r313.toList==x0.toList))) (.done ((0:Int),(0:Int),(⟨#[]⟩:BA),false)) (.done ((0:Int),(0:Int),(⟨#[]⟩:BA),true)))))))))))))
def qZ:Nat→BA→Option (Int×Int×BA×Bool)
 |0,_=>none
 |n+1,x0=>(qBf n x0).run
theorem qZn (n:Nat) (x0:BA):ze (qKC n) (qQl n) qEG (qGw x0) (qGx x0)=(qBf n x0).bind fun r=> .done (qLT r):=by kernel_rfl
theorem qQm (n:Nat):zW (qKC n) (Rn n):=zA (qDa n (zB)) (zA (qM8 n (zB)) (zA (qQk n (zB)) (zA (qeD n (zB)) (zA (qDd n (zB)) (zA (qJ5 n (zB)) (zA (qX6 n (zB)) (zA (qHT n (zB)) (zA (qV0 n (zB)) (zG)))))))))
theorem qS1 (n:Nat) (v:BA×Int×Int×Int×BA×Int×Int×BA):(zf (qKC n) (zN []) qEd (qFf v) []).bind (zx [0,2,4,7] [(.ret,[2,3]),((.exit 1),[0,2,4]),((.exit 0),[0,2,4])])=(qA0 n v).bind (zAQ qFf qKp):=by
 obtain ⟨w0,w1,w2,w3,w4,w5,w6,w7⟩:=v
 kernel_rfl
theorem qS2 (n:Nat):zAX (Rn n) n (3837,[0,2,4,7],[(.ret,[2,3]),((.exit 1),[0,2,4]),((.exit 0),[0,2,4])],qEd) (qKE n):=fun st e s h=>
 zh (qQm n) (zI rfl) (qS1 n) (fun r h=>by cases h) (fun r y h=>by cases h;rfl) (fun hs v h=>by
  unfold qKD at h
  split at h<;>cases h
  rfl) h
theorem qZo (n:Nat):zAK (qQl n) (Rn n) n qEG.body:=lt1 rfl (qS2 n)
theorem qZp:∀(n:Nat) (x0:BA) r,qZ n x0=some r→Rn n 25 (qGw x0) (qGx x0)=some (qLT r)
 |0,x0,r,h=>by cases h
 |n+1,x0,r,h=>zH (kf:=qEG) rfl (qQm n) (qZo n) (qZn n x0) h
def qQn (n:Nat):zS→Option (Int×Int×BA×Bool)
 |([[[.s x0]]],[])=>qZ n x0
 |_=>none
def qLU (n:Nat) (d:ED):ED:=zR (qGw (⟨#[]⟩)) (qGx (⟨#[]⟩)) (qQn n) qLT d
theorem qQo (n:Nat) {d:ED} (hd:RK n 25 d):RK n 25 (qLU n d):=
 zF (fun hs r h=>by unfold qQn at h;split at h;exact ⟨qGw _,qGx _,rfl,rfl,qZp n _ r h⟩;cases h) hd
def qKF (x0:Int):List AV:= [(ci x0)]
def qKG (x0:Int):FR:= []
def qPK (r:BA):Res:=⟨(cs r),[],[]⟩
abbrev qUA (n:Nat):zX:=zd [(48,qFX n (zD))]
abbrev qcC (n:Nat):za:=zN []
def qGH (n:Nat) (x0:Int):Tr (BA):=(.opt (qAV n x0 (1:Int) (52:Int)) fun r319=>(.ask ((!r319)) (.done (⟨#[]⟩:BA)) (.ask ((decide (x0≤(26:Int)))) (.ask (decide (1=([[(.i .u8 (IntKind.u8.wrap (IntKind.i64.wrap ((IntKind.i64.wrap ((65:Int)+x0))-(1:Int)))))]]:RW).length)) (.opt (bytesOf ([[(.i .u8 (IntKind.u8.wrap (IntKind.i64.wrap ((IntKind.i64.wrap ((65:Int)+x0))-(1:Int)))))]]:RW)) fun l320=>(.done (⟨l320.toArray⟩:BA))) .fail) (.ask (decide (2=([[(.i .u8 (IntKind.u8.wrap (IntKind.i64.wrap ((IntKind.i64.wrap ((65:Int)+(IntKind.i64.wrap (Int.tdiv (IntKind.i64.wrap (x0-(1:Int))) (26:Int)))))-(1:Int)))))],[(.i .u8 (IntKind.u8.wrap (IntKind.i64.wrap ((65:Int)+(Int.tmod (IntKind.i64.wrap (x0-(1:Int))) (26:Int))))))]]:RW).length)) (.opt (bytesOf ([[(.i .u8 (IntKind.u8.wrap (IntKind.i64.wrap ((IntKind.i64.wrap ((65:Int)+(IntKind.i64.wrap (Int.tdiv (IntKind.i64.wrap (x0-(1:Int))) (26:Int)))))-(1:Int)))))],[(.i .u8 (IntKind.u8.wrap (IntKind.i64.wrap ((65:Int)+(Int.tmod (IntKind.i64.wrap (x0-(1:Int))) (26:Int))))))]]:RW)) fun l321=>(.done (⟨l321.toArray⟩:BA))) .fail))))
def qBl:Nat→Int→Option (BA)
 |0,_=>none
 |n+1,x0=>(qGH n x0).run
theorem qcD (n:Nat) (x0:Int):ze (qUA n) (qcC n) qJK (qKF x0) (qKG x0)=(qGH n x0).bind fun r=> .done (qPK r):=by kernel_rfl
theorem qcE (n:Nat):zW (qUA n) (Rn n):=zA (qGG n (zB)) (zG)
theorem qcF:∀(n:Nat) (x0:Int) r,qBl n x0=some r→Rn n 141 (qKF x0) (qKG x0)=some (qPK r)
 |0,x0,r,h=>by cases h
 |n+1,x0,r,h=>zH (kf:=qJK) rfl (qcE n) (zI rfl) (qcD n x0) h
def qUB (n:Nat):zS→Option (BA)
 |([[[.i x0]]],[])=>qBl n x0
 |_=>none
def qPL (n:Nat) (d:ED):ED:=zR (qKF (0)) (qKG (0)) (qUB n) qPK d
theorem qUC (n:Nat) {d:ED} (hd:RK n 141 d):RK n 141 (qPL n d):=
 zF (fun hs r h=>by unfold qUB at h;split at h;exact ⟨qKF _,qKG _,rfl,rfl,qcF n _ r h⟩;cases h) hd
def qKH (x0:BA):List AV:= [(cs x0)]
def qKI (x0:BA):FR:= []
def qPM (r:Int):Res:=⟨(ci r),[],[]⟩
abbrev qNA (n:Nat):zX:=zd [(141,qPL n (zD))]
def qKJ (v:BA×Int):St:=⟨[(0,(cs v.1)),(3,(ci v.2))],[],[]⟩
def qCR (n:Nat) (v:BA×Int):Tr ((BA×Int)⊕((Int)⊕(Unit))):=(.ask ((decide (v.2≤(52:Int)))) (.opt (qBl n v.2) fun r319=>(.ask ((r319.toList==v.1.toList)) (.done (.inr (.inl (v.2)))) (.done (.inl (v.1,(IntKind.i64.wrap (v.2+(1:Int)))))))) (.done (.inr (.inr (())))))
def qKK:((Int)⊕(Unit))→Ex×St:=fun| .inl r=>(.ret,⟨[(2,(ci r))],[],[]⟩)| .inr r=>(fun r=>((.exit 0),⟨[],[],[]⟩)) r
def qYk:((Int)⊕(Unit))→Tr (Ex×St):=fun r=> .alt r (fun r=> .done (qKK (.inl r))) (fun r=> .done (qKK (.inr r)))
def qPN:zw→Option (BA×Int)
 |([[[.s w0]],[[.i w1]]],[],[])=>some (w0,w1)
 |_=>none
abbrev qPO (n:Nat):St→Tr (Ex×St):=zp (qKJ (⟨#[]⟩,0)) qPN (qCR n) qYk n
abbrev qUD (n:Nat):za:=zN [(13,qPO n)]
def qPP (n:Nat) (x0:BA):Tr (Int):=(.opt (zL (qCR n) n (x0,(1:Int))) fun r320=>(.alt r320 (fun r321=>(.done r321)) (fun r322=>(.done (0:Int)))))
def qGI:Nat→BA→Option (Int)
 |0,_=>none
 |n+1,x0=>(qPP n x0).run
theorem qcG (n:Nat) (x0:BA):ze (qNA n) (qUD n) qF3 (qKH x0) (qKI x0)=(qPP n x0).bind fun r=> .done (qPM r):=by kernel_rfl
theorem qUE (n:Nat):zW (qNA n) (Rn n):=zA (qUC n (zB)) (zG)
theorem qYl (n:Nat) (v:BA×Int):(zf (qNA n) (zN []) qIJ (qKJ v) []).bind (zx [0,3] [(.ret,[2]),((.exit 0),[])])=(qCR n v).bind (zAQ qKJ qKK):=by
 obtain ⟨w0,w1⟩:=v
 kernel_rfl
theorem qYm (n:Nat):zAX (Rn n) n (13,[0,3],[(.ret,[2]),((.exit 0),[])],qIJ) (qPO n):=fun st e s h=>
 zh (qUE n) (zI rfl) (qYl n) (fun r=>by
  rcases r with r|r<;>(intro h;cases h)) (fun r y h=>by
  rcases r with r|r<;>(cases h;rfl)) (fun hs v h=>by
  unfold qPN at h
  split at h<;>cases h
  rfl) h
theorem qcH (n:Nat):zAK (qUD n) (Rn n) n qF3.body:=lt1 rfl (qYm n)
theorem qcI:∀(n:Nat) (x0:BA) r,qGI n x0=some r→Rn n 187 (qKH x0) (qKI x0)=some (qPM r)
 |0,x0,r,h=>by cases h
 |n+1,x0,r,h=>zH (kf:=qF3) rfl (qUE n) (qcH n) (qcG n x0) h
def qUF (n:Nat):zS→Option (Int)
 |([[[.s x0]]],[])=>qGI n x0
 |_=>none
def qV1 (n:Nat) (d:ED):ED:=zR (qKH (⟨#[]⟩)) (qKI (⟨#[]⟩)) (qUF n) qPM d
theorem qcJ (n:Nat) {d:ED} (hd:RK n 187 d):RK n 187 (qV1 n d):=
 zF (fun hs r h=>by unfold qUF at h;split at h;exact ⟨qKH _,qKI _,rfl,rfl,qcI n _ r h⟩;cases h) hd
def qOG (x0 x1:Int):List AV:= [(.agg [(vi x0),(vi x1)])]
def qOH (x0 x1:Int):FR:= []
def qS3 (r:Bool):Res:=⟨(cb r),[],[]⟩
abbrev qX9 (n:Nat):zX:=zd [(48,qFX n (zD))]
abbrev qeE (n:Nat):za:=zN []
def qS4 (n:Nat) (x0 x1:Int):Tr (Bool):=(.opt (qAV n x0 (1:Int) (52:Int)) fun r328=>(.ask (r328) (.opt (qAV n x1 (1:Int) (99:Int)) fun r329=>(.done r329)) (.done false)))
def qCj:Nat→Int→Int→Option (Bool)
 |0,_,_=>none
 |n+1,x0,x1=>(qS4 n x0 x1).run
theorem qeF (n:Nat) (x0 x1:Int):ze (qX9 n) (qeE n) qN4 (qOG x0 x1) (qOH x0 x1)=(qS4 n x0 x1).bind fun r=> .done (qS3 r):=by kernel_rfl
theorem qeG (n:Nat):zW (qX9 n) (Rn n):=zA (qGG n (zB)) (zG)
theorem qeH:∀(n:Nat) (x0 x1:Int) r,qCj n x0 x1=some r→Rn n 77 (qOG x0 x1) (qOH x0 x1)=some (qS3 r)
 |0,x0,x1,r,h=>by cases h
 |n+1,x0,x1,r,h=>zH (kf:=qN4) rfl (qeG n) (zI rfl) (qeF n x0 x1) h
def qYA (n:Nat):zS→Option (Bool)
 |([[[.i x0],[.i x1]]],[])=>qCj n x0 x1
 |_=>none
def qOI (n:Nat) (d:ED):ED:=zR (qOG (0) (0)) (qOH (0) (0)) (qYA n) qS3 d
theorem qRa (n:Nat) {d:ED} (hd:RK n 77 d):RK n 77 (qOI n d):=
 zF (fun hs r h=>by unfold qYA at h;split at h;exact ⟨qOG _ _,qOH _ _,rfl,rfl,qeH n _ _ r h⟩;cases h) hd
def qGy (x0 x1:Int) (x2 x3:Bool):List AV:= [(.agg [(vi x0),(vi x1),(vb x2),(vb x3)])]
def qGz (x0 x1:Int) (x2 x3:Bool):FR:= []
def qLV (r:BA):Res:=⟨(cs r),[],[]⟩
abbrev qQp (n:Nat):zX:=zd [(77,qOI n (zD)),(141,qPL n (zD)),(65,qKB n (zD))]
abbrev qZq (n:Nat):za:=zN []
def qG0 (n:Nat) (x0 x1:Int) (x2 x3:Bool):Tr (BA):=(.opt (qCj n x0 x1) fun r331=>(.ask ((!r331)) (.done (⟨#[]⟩:BA)) (.ask (x2) (.opt (qBl n x0) fun r332=>(.ask (decide ((⟨#[36]⟩:BA).size+r332.size≤9223372036854775807)) (.ask (x3) (.ask (decide (((⟨#[36]⟩:BA)++r332).size+(⟨#[36]⟩:BA).size≤9223372036854775807)) (.opt (qA8 n x1) fun r333=>(.ask (decide ((((⟨#[36]⟩:BA)++r332)++(⟨#[36]⟩:BA)).size+r333.size≤9223372036854775807)) (.done ((((⟨#[36]⟩:BA)++r332)++(⟨#[36]⟩:BA))++r333)) .fail)) .fail) (.opt (qA8 n x1) fun r334=>(.ask (decide (((⟨#[36]⟩:BA)++r332).size+r334.size≤9223372036854775807)) (.done (((⟨#[36]⟩:BA)++r332)++r334)) .fail))) .fail)) (.opt (qBl n x0) fun r335=>(.ask (decide ((⟨#[]⟩:BA).size+r335.size≤9223372036854775807)) (.ask (x3) (.ask (decide (((⟨#[]⟩:BA)++r335).size+(⟨#[36]⟩:BA).size≤9223372036854775807)) (.opt (qA8 n x1) fun r336=>(.ask (decide ((((⟨#[]⟩:BA)++r335)++(⟨#[36]⟩:BA)).size+r336.size≤9223372036854775807)) (.done ((((⟨#[]⟩:BA)++r335)++(⟨#[36]⟩:BA))++r336)) .fail)) .fail) (.opt (qA8 n x1) fun r337=>(.ask (decide (((⟨#[]⟩:BA)++r335).size+r337.size≤9223372036854775807)) (.done (((⟨#[]⟩:BA)++r335)++r337)) .fail))) .fail)))))
def qAx:Nat→Int→Int→Bool→Bool→Option (BA)
 |0,_,_,_,_=>none
 |n+1,x0,x1,x2,x3=>(qG0 n x0 x1 x2 x3).run
theorem qZr (n:Nat) (x0 x1:Int) (x2 x3:Bool):ze (qQp n) (qZq n) qGV (qGy x0 x1 x2 x3) (qGz x0 x1 x2 x3)=(qG0 n x0 x1 x2 x3).bind fun r=> .done (qLV r):=by kernel_rfl
theorem qZs (n:Nat):zW (qQp n) (Rn n):=zA (qRa n (zB)) (zA (qUC n (zB)) (zA (qM9 n (zB)) (zG)))
theorem qZt:∀(n:Nat) (x0 x1:Int) (x2 x3:Bool) r,qAx n x0 x1 x2 x3=some r→Rn n 102 (qGy x0 x1 x2 x3) (qGz x0 x1 x2 x3)=some (qLV r)
 |0,x0,x1,x2,x3,r,h=>by cases h
 |n+1,x0,x1,x2,x3,r,h=>zH (kf:=qGV) rfl (qZs n) (zI rfl) (qZr n x0 x1 x2 x3) h
def qQq (n:Nat):zS→Option (BA)
 |([[[.i x0],[.i x1],[.b x2],[.b x3]]],[])=>qAx n x0 x1 x2 x3
 |_=>none
def qLW (n:Nat) (d:ED):ED:=zR (qGy (0) (0) (false) (false)) (qGz (0) (0) (false) (false)) (qQq n) qLV d
theorem qQr (n:Nat) {d:ED} (hd:RK n 102 d):RK n 102 (qLW n d):=
 zF (fun hs r h=>by unfold qQq at h;split at h;exact ⟨qGy _ _ _ _,qGz _ _ _ _,rfl,rfl,qZt n _ _ _ _ r h⟩;cases h) hd
def qG1 (x0:BA):List AV:= [(cs x0)]
def qG2 (x0:BA):FR:= []
def qLX (r:Int×Int×Bool×Bool×Bool):Res:=⟨(.tup [(true,[(vi r.1),(vi r.2.1),(vb r.2.2.1),(vb r.2.2.2.1)]),(false,[(vb r.2.2.2.2)])]),[],[]⟩
abbrev qQs (n:Nat):zX:=zd [(59,qCX n (zD)),(90,qEv n (zD)),(187,qV1 n (zD)),(61,qE4 n (zD)),(77,qOI n (zD)),(102,qLW n (zD))]
abbrev qZu (n:Nat):za:=zN []
def qLY (n:Nat) (x0:BA):Tr (Int×Int×Bool×Bool×Bool):=(.opt (qr n x0 (⟨#[36]⟩:BA)) fun r317=>(.opt (qA6 n r317.1 (⟨#[65,66,67,68,69,70,71,72,73,74,75,76,77,78,79,80,81,82,83,84,85,86,87,88,89,90]⟩:BA)) fun r318=>(.ask (decide (0≤(0:Int)∧(0:Int)≤(IntKind.i64.wrap ((r317.1.size:Int)-(r318.size:Int)))∧(IntKind.i64.wrap ((r317.1.size:Int)-(r318.size:Int)))≤r317.1.size)) (.opt (qGI n (r317.1.extract ((0:Int)).toNat ((IntKind.i64.wrap ((r317.1.size:Int)-(r318.size:Int)))).toNat)) fun r323=>(.ask (decide (0≤(IntKind.i64.wrap ((r317.1.size:Int)-(r318.size:Int)))∧(IntKind.i64.wrap ((r317.1.size:Int)-(r318.size:Int)))≤(r317.1.size:Int)∧(r317.1.size:Int)≤r317.1.size)) (.opt (qr n (r317.1.extract ((IntKind.i64.wrap ((r317.1.size:Int)-(r318.size:Int)))).toNat ((r317.1.size:Int)).toNat) (⟨#[36]⟩:BA)) fun r324=>(.opt (qAl n r324.1 (10:Int) (64:Int)) fun r325=>(.alt r325 (fun r326=>(.opt (qCj n r323 r326) fun r330=>(.ask ((!r330)) (.done ((0:Int),(0:Int),false,false,false)) (.opt (qAx n r323 r326 r317.2 r324.2) fun r338=>(.ask ((!(r338.toList==x0.toList))) (.done ((0:Int),(0:Int),false,false,false)) (.done (r323,r326,r317.2,r324.2,true))))))) (fun r327=>(.opt (qCj n r323 r327) fun r339=>(.ask ((!r339)) (.done ((0:Int),(0:Int),false,false,false)) (.opt (qAx n r323 r327 r317.2 r324.2) fun r340=>(.ask ((!(r340.toList==x0.toList))) (.done ((0:Int),(0:Int),false,false,false)) (.done (r323,r327,r317.2,r324.2,true)))))))))) .fail)) .fail)))
def qAQ:Nat→BA→Option (Int×Int×Bool×Bool×Bool)
 |0,_=>none
 |n+1,x0=>(qLY n x0).run
theorem qZv (n:Nat) (x0:BA):ze (qQs n) (qZu n) qGW (qG1 x0) (qG2 x0)=(qLY n x0).bind fun r=> .done (qLX r):=by kernel_rfl
theorem qZw (n:Nat):zW (qQs n) (Rn n):=zA (qDa n (zB)) (zA (qHO n (zB)) (zA (qcJ n (zB)) (zA (qHT n (zB)) (zA (qRa n (zB)) (zA (qQr n (zB)) (zG))))))
theorem qZx:∀(n:Nat) (x0:BA) r,qAQ n x0=some r→Rn n 164 (qG1 x0) (qG2 x0)=some (qLX r)
 |0,x0,r,h=>by cases h
 |n+1,x0,r,h=>zH (kf:=qGW) rfl (qZw n) (zI rfl) (qZv n x0) h
def qQt (n:Nat):zS→Option (Int×Int×Bool×Bool×Bool)
 |([[[.s x0]]],[])=>qAQ n x0
 |_=>none
def qLZ (n:Nat) (d:ED):ED:=zR (qG1 (⟨#[]⟩)) (qG2 (⟨#[]⟩)) (qQt n) qLX d
theorem qQu (n:Nat) {d:ED} (hd:RK n 164 d):RK n 164 (qLZ n d):=
 zF (fun hs r h=>by unfold qQt at h;split at h;exact ⟨qG1 _,qG2 _,rfl,rfl,qZx n _ r h⟩;cases h) hd
def qMA (x0:Int):List AV:= [(ci x0)]
def qMB (x0:Int):FR:= []
def qRb (r:BA):Res:=⟨(cs r),[],[]⟩
abbrev qV2 (n:Nat):zX:=zd []
abbrev qdN (n:Nat):za:=zN []
def qRc (n:Nat) (x0:Int):Tr (BA):=(.ask (decide (11=([[(.s (⟨#[]⟩:BA))],[(.s (⟨#[83,85,77]⟩:BA))],[(.s (⟨#[77,73,78]⟩:BA))],[(.s (⟨#[77,65,88]⟩:BA))],[(.s (⟨#[67,79,85,78,84]⟩:BA))],[(.s (⟨#[73,70]⟩:BA))],[(.s (⟨#[65,78,68]⟩:BA))],[(.s (⟨#[79,82]⟩:BA))],[(.s (⟨#[78,79,84]⟩:BA))],[(.s (⟨#[65,66,83]⟩:BA))],[(.s (⟨#[76,69,78]⟩:BA))]]:RW).length∧0≤x0∧x0<((11:Nat):Int))) (.opt (([[(.s (⟨#[]⟩:BA))],[(.s (⟨#[83,85,77]⟩:BA))],[(.s (⟨#[77,73,78]⟩:BA))],[(.s (⟨#[77,65,88]⟩:BA))],[(.s (⟨#[67,79,85,78,84]⟩:BA))],[(.s (⟨#[73,70]⟩:BA))],[(.s (⟨#[65,78,68]⟩:BA))],[(.s (⟨#[79,82]⟩:BA))],[(.s (⟨#[78,79,84]⟩:BA))],[(.s (⟨#[65,66,83]⟩:BA))],[(.s (⟨#[76,69,78]⟩:BA))]]:RW)[(x0).toNat]?) fun e343=>(.opt (zAv e343 0) fun y344=>(.done y344))) .fail)
def qCB:Nat→Int→Option (BA)
 |0,_=>none
 |n+1,x0=>(qRc n x0).run
theorem qdO (n:Nat) (x0:Int):ze (qV2 n) (qdN n) qLk (qMA x0) (qMB x0)=(qRc n x0).bind fun r=> .done (qRb r):=by kernel_rfl
theorem qdP (n:Nat):zW (qV2 n) (Rn n):=zG
theorem qdQ:∀(n:Nat) (x0:Int) r,qCB n x0=some r→Rn n 103 (qMA x0) (qMB x0)=some (qRb r)
 |0,x0,r,h=>by cases h
 |n+1,x0,r,h=>zH (kf:=qLk) rfl (qdP n) (zI rfl) (qdO n x0) h
def qV3 (n:Nat):zS→Option (BA)
 |([[[.i x0]]],[])=>qCB n x0
 |_=>none
def qRd (n:Nat) (d:ED):ED:=zR (qMA (0)) (qMB (0)) (qV3 n) qRb d
theorem qV4 (n:Nat) {d:ED} (hd:RK n 103 d):RK n 103 (qRd n d):=
 zF (fun hs r h=>by unfold qV3 at h;split at h;exact ⟨qMA _,qMB _,rfl,rfl,qdQ n _ r h⟩;cases h) hd
def qCk (x0:BA) (x1:Nat) (x2:Bool) (x3:RW):List AV:= [(.c (.ptr 0 0 0 0 0))]
def qCl (x0:BA) (x1:Nat) (x2:Bool) (x3:RW):FR:= [[(0,⟨0,3,55,(.box [(vs x0),(.own 0 1 1 x1),(vb x2)])⟩),(1,⟨1,14,64,(.row x3)⟩)]]
def qE5 (r:Int×Int×Int×Int×BA×Int×Int×Bool×Bool×Int×Int×Bool×Bool×RW×Bool×BA×Nat×Bool×RW):Res:=⟨(.tup [(true,[(vi r.1),(vi r.2.1),(vi r.2.2.1),(vi r.2.2.2.1),(vs r.2.2.2.2.1),(vi r.2.2.2.2.2.1),(vi r.2.2.2.2.2.2.1),(vb r.2.2.2.2.2.2.2.1),(vb r.2.2.2.2.2.2.2.2.1),(vi r.2.2.2.2.2.2.2.2.2.1),(vi r.2.2.2.2.2.2.2.2.2.2.1),(vb r.2.2.2.2.2.2.2.2.2.2.2.1),(vb r.2.2.2.2.2.2.2.2.2.2.2.2.1),(.p (.ls r.2.2.2.2.2.2.2.2.2.2.2.2.2.1))]),(false,[(vb r.2.2.2.2.2.2.2.2.2.2.2.2.2.2.1)])]),[[(0,⟨0,3,55,(.box [(vs r.2.2.2.2.2.2.2.2.2.2.2.2.2.2.2.1),(.own 0 1 1 r.2.2.2.2.2.2.2.2.2.2.2.2.2.2.2.2.1),(vb r.2.2.2.2.2.2.2.2.2.2.2.2.2.2.2.2.2.1)])⟩),(1,⟨1,14,64,(.row r.2.2.2.2.2.2.2.2.2.2.2.2.2.2.2.2.2.2)⟩)]],[]⟩
abbrev qIu (n:Nat):zX:=zd [(163,qIY n (zD)),(164,qLZ n (zD)),(88,qB0 n (zD))]
abbrev qSN (n:Nat):za:=zN []
def qKL (n:Nat) (x0:BA) (x1:Nat) (x2:Bool) (x3:RW):Tr (Int×Int×Int×Int×BA×Int×Int×Bool×Bool×Int×Int×Bool×Bool×RW×Bool×BA×Nat×Bool×RW):=(.opt (qA7 n x0 x1 x2 x3) fun r346=>(.opt (qAQ n r346.1) fun r347=>(.ask (r347.2.2.2.2) (.opt (qj n (⟨#[58]⟩:BA) r346.2.1 r346.2.2.1 r346.2.2.2.1 r346.2.2.2.2) fun r348=>(.ask ((!r348.1)) (.done ((0:Int),(0:Int),(0:Int),(0:Int),(⟨#[]⟩:BA),(0:Int),(0:Int),false,false,(0:Int),(0:Int),false,false,([]:RW),false,x0,r348.2.2.1,r348.2.2.2.1,r348.2.2.2.2)) (.opt (qA7 n r348.2.1 r348.2.2.1 r348.2.2.2.1 r348.2.2.2.2) fun r349=>(.opt (qAQ n r349.1) fun r350=>(.ask (r349.2.2.2.1) (.done ((3:Int),(0:Int),(0:Int),(0:Int),(⟨#[]⟩:BA),r347.1,r347.2.1,r347.2.2.1,r347.2.2.2.1,r350.1,r350.2.1,r350.2.2.1,r350.2.2.2.1,([]:RW),true,r349.2.1,r349.2.2.1,true,r349.2.2.2.2)) (.done ((3:Int),(0:Int),(0:Int),(0:Int),(⟨#[]⟩:BA),r347.1,r347.2.1,r347.2.2.1,r347.2.2.2.1,r350.1,r350.2.1,r350.2.2.1,r350.2.2.2.1,([]:RW),true,r349.2.1,r349.2.2.1,(!r350.2.2.2.2),r349.2.2.2.2))))))) (.done ((0:Int),(0:Int),(0:Int),(0:Int),(⟨#[]⟩:BA),(0:Int),(0:Int),false,false,(0:Int),(0:Int),false,false,([]:RW),false,x0,r346.2.2.1,r346.2.2.2.1,r346.2.2.2.2)))))
def qCm:Nat→BA→Nat→Bool→RW→Option (Int×Int×Int×Int×BA×Int×Int×Bool×Bool×Int×Int×Bool×Bool×RW×Bool×BA×Nat×Bool×RW)
 |0,_,_,_,_=>none
 |n+1,x0,x1,x2,x3=>(qKL n x0 x1 x2 x3).run
theorem qSO (n:Nat) (x0:BA) (x1:Nat) (x2:Bool) (x3:RW):ze (qIu n) (qSN n) qCe (qCk x0 x1 x2 x3) (qCl x0 x1 x2 x3)=(qKL n x0 x1 x2 x3).bind fun r=> .done (qE5 r):=by kernel_rfl
theorem qSP (n:Nat):zW (qIu n) (Rn n):=zA (qNf n (zB)) (zA (qQu n (zB)) (zA (qCa n (zB)) (zG)))
theorem qSQ:∀(n:Nat) (x0:BA) (x1:Nat) (x2:Bool) (x3:RW) r,qCm n x0 x1 x2 x3=some r→Rn n 188 (qCk x0 x1 x2 x3) (qCl x0 x1 x2 x3)=some (qE5 r)
 |0,x0,x1,x2,x3,r,h=>by cases h
 |n+1,x0,x1,x2,x3,r,h=>zH (kf:=qCe) rfl (qSP n) (zI rfl) (qSO n x0 x1 x2 x3) h
def qIv (n:Nat):zS→Option (Int×Int×Int×Int×BA×Int×Int×Bool×Bool×Int×Int×Bool×Bool×RW×Bool×BA×Nat×Bool×RW)
 |([[[]]],[[[[.s x0],[.n x1],[.b x2]],[[.r x3]]]])=>qCm n x0 x1 x2 x3
 |_=>none
def qKM (n:Nat) (d:ED):ED:=zR (qCk (⟨#[]⟩) (0) (false) ([])) (qCl (⟨#[]⟩) (0) (false) ([])) (qIv n) qE5 d
theorem qSR (n:Nat) {d:ED} (hd:RK n 188 d):RK n 188 (qKM n d):=
 zF (fun hs r h=>by unfold qIv at h;split at h;exact ⟨qCk _ _ _ _,qCl _ _ _ _,rfl,rfl,qSQ n _ _ _ _ r h⟩;cases h) hd
def qMC (x0:Int):List AV:= [(ci x0)]
def qMD (x0:Int):FR:= []
def qRe (r:BA):Res:=⟨(cs r),[],[]⟩
abbrev qV5 (n:Nat):zX:=zd []
abbrev qdR (n:Nat):za:=zN []
def qRf (n:Nat) (x0:Int):Tr (BA):=(.ask (decide (12=([[(.s (⟨#[]⟩:BA))],[(.s (⟨#[43]⟩:BA))],[(.s (⟨#[45]⟩:BA))],[(.s (⟨#[42]⟩:BA))],[(.s (⟨#[47]⟩:BA))],[(.s (⟨#[38]⟩:BA))],[(.s (⟨#[61]⟩:BA))],[(.s (⟨#[60,62]⟩:BA))],[(.s (⟨#[60]⟩:BA))],[(.s (⟨#[60,61]⟩:BA))],[(.s (⟨#[62]⟩:BA))],[(.s (⟨#[62,61]⟩:BA))]]:RW).length∧0≤x0∧x0<((12:Nat):Int))) (.opt (([[(.s (⟨#[]⟩:BA))],[(.s (⟨#[43]⟩:BA))],[(.s (⟨#[45]⟩:BA))],[(.s (⟨#[42]⟩:BA))],[(.s (⟨#[47]⟩:BA))],[(.s (⟨#[38]⟩:BA))],[(.s (⟨#[61]⟩:BA))],[(.s (⟨#[60,62]⟩:BA))],[(.s (⟨#[60]⟩:BA))],[(.s (⟨#[60,61]⟩:BA))],[(.s (⟨#[62]⟩:BA))],[(.s (⟨#[62,61]⟩:BA))]]:RW)[(x0).toNat]?) fun e377=>(.opt (zAv e377 0) fun y378=>(.done y378))) .fail)
def qBP:Nat→Int→Option (BA)
 |0,_=>none
 |n+1,x0=>(qRf n x0).run
theorem qdS (n:Nat) (x0:Int):ze (qV5 n) (qdR n) qLi (qMC x0) (qMD x0)=(qRf n x0).bind fun r=> .done (qRe r):=by kernel_rfl
theorem qdT (n:Nat):zW (qV5 n) (Rn n):=zG
theorem qdU:∀(n:Nat) (x0:Int) r,qBP n x0=some r→Rn n 86 (qMC x0) (qMD x0)=some (qRe r)
 |0,x0,r,h=>by cases h
 |n+1,x0,r,h=>zH (kf:=qLi) rfl (qdT n) (zI rfl) (qdS n x0) h
def qV6 (n:Nat):zS→Option (BA)
 |([[[.i x0]]],[])=>qBP n x0
 |_=>none
def qRg (n:Nat) (d:ED):ED:=zR (qMC (0)) (qMD (0)) (qV6 n) qRe d
theorem qV7 (n:Nat) {d:ED} (hd:RK n 86 d):RK n 86 (qRg n d):=
 zF (fun hs r h=>by unfold qV6 at h;split at h;exact ⟨qMC _,qMD _,rfl,rfl,qdU n _ r h⟩;cases h) hd
def qOJ (x0:Int):List AV:= [(ci x0)]
def qOK (x0:Int):FR:= []
def qS5 (r:Int):Res:=⟨(ci r),[],[]⟩
abbrev qYB (n:Nat):zX:=zd []
abbrev qeI (n:Nat):za:=zN []
def qS6 (n:Nat) (x0:Int):Tr (Int):=(.ask ((x0==(3:Int))) (.done (4:Int)) (.ask ((x0==(4:Int))) (.done (4:Int)) (.ask ((x0==(1:Int))) (.done (3:Int)) (.ask ((x0==(2:Int))) (.done (3:Int)) (.ask ((x0==(5:Int))) (.done (2:Int)) (.done (1:Int)))))))
def qE6:Nat→Int→Option (Int)
 |0,_=>none
 |n+1,x0=>(qS6 n x0).run
theorem qeJ (n:Nat) (x0:Int):ze (qYB n) (qeI n) qN5 (qOJ x0) (qOK x0)=(qS6 n x0).bind fun r=> .done (qS5 r):=by kernel_rfl
theorem qeK (n:Nat):zW (qYB n) (Rn n):=zG
theorem qeL:∀(n:Nat) (x0:Int) r,qE6 n x0=some r→Rn n 87 (qOJ x0) (qOK x0)=some (qS5 r)
 |0,x0,r,h=>by cases h
 |n+1,x0,r,h=>zH (kf:=qN5) rfl (qeK n) (zI rfl) (qeJ n x0) h
def qYC (n:Nat):zS→Option (Int)
 |([[[.i x0]]],[])=>qE6 n x0
 |_=>none
def qS7 (n:Nat) (d:ED):ED:=zR (qOJ (0)) (qOK (0)) (qYC n) qS5 d
theorem qYD (n:Nat) {d:ED} (hd:RK n 87 d):RK n 87 (qS7 n d):=
 zF (fun hs r h=>by unfold qYC at h;split at h;exact ⟨qOJ _,qOK _,rfl,rfl,qeL n _ r h⟩;cases h) hd
def q9 (x0 x1:Int) (x2:BA) (x3:Nat) (x4:Bool) (x5:RW):List AV:= [(.c (.ptr 0 0 0 0 0)),(ci x0),(ci x1)]
def qAA (x0 x1:Int) (x2:BA) (x3:Nat) (x4:Bool) (x5:RW):FR:= [[(0,⟨0,3,55,(.box [(vs x2),(.own 0 1 1 x3),(vb x4)])⟩),(1,⟨1,14,64,(.row x5)⟩)]]
def qA9 (r:Int×BA×Nat×Bool×RW):Res:=⟨(ci r.1),[[(0,⟨0,3,55,(.box [(vs r.2.1),(.own 0 1 1 r.2.2.1),(vb r.2.2.2.1)])⟩),(1,⟨1,14,64,(.row r.2.2.2.2)⟩)]],[]⟩
def qBr (x0:Int) (x1:BA) (x2:Nat) (x3:Bool) (x4:RW):List AV:= [(.c (.ptr 0 0 0 0 0)),(ci x0)]
def qBs (x0:Int) (x1:BA) (x2:Nat) (x3:Bool) (x4:RW):FR:= [[(0,⟨0,3,55,(.box [(vs x1),(.own 0 1 1 x2),(vb x3)])⟩),(1,⟨1,14,64,(.row x4)⟩)]]
def qD8 (r:Int×BA×Nat×Bool×RW):Res:=⟨(ci r.1),[[(0,⟨0,3,55,(.box [(vs r.2.1),(.own 0 1 1 r.2.2.1),(vb r.2.2.2.1)])⟩),(1,⟨1,14,64,(.row r.2.2.2.2)⟩)]],[]⟩
def qE7 (x0:Int) (x1:BA) (x2:Nat) (x3:Bool) (x4:RW):List AV:= [(.c (.ptr 0 0 0 0 0)),(ci x0)]
def qE8 (x0:Int) (x1:BA) (x2:Nat) (x3:Bool) (x4:RW):FR:= [[(0,⟨0,3,55,(.box [(vs x1),(.own 0 1 1 x2),(vb x3)])⟩),(1,⟨1,14,64,(.row x4)⟩)]]
def qIb (r:Int×BA×Nat×Bool×RW):Res:=⟨(ci r.1),[[(0,⟨0,3,55,(.box [(vs r.2.1),(.own 0 1 1 r.2.2.1),(vb r.2.2.2.1)])⟩),(1,⟨1,14,64,(.row r.2.2.2.2)⟩)]],[]⟩
def qE9 (x0 x1:Int) (x2:BA) (x3:Nat) (x4:Bool) (x5:RW):List AV:= [(.c (.ptr 0 0 0 0 0)),(ci x0),(ci x1)]
def qFA (x0 x1:Int) (x2:BA) (x3:Nat) (x4:Bool) (x5:RW):FR:= [[(0,⟨0,3,55,(.box [(vs x2),(.own 0 1 1 x3),(vb x4)])⟩),(1,⟨1,14,64,(.row x5)⟩)]]
def qIc (r:Int×BA×Nat×Bool×RW):Res:=⟨(ci r.1),[[(0,⟨0,3,55,(.box [(vs r.2.1),(.own 0 1 1 r.2.2.1),(vb r.2.2.2.1)])⟩),(1,⟨1,14,64,(.row r.2.2.2.2)⟩)]],[]⟩
structure G_impl_reader_binary where
 impl_reader_binary:Int→Int→BA→Nat→Bool→RW→Option (Int×BA×Nat×Bool×RW)
 impl_reader_unary:Int→BA→Nat→Bool→RW→Option (Int×BA×Nat×Bool×RW)
 impl_reader_atom:Int→BA→Nat→Bool→RW→Option (Int×BA×Nat×Bool×RW)
 impl_reader_call:Int→Int→BA→Nat→Bool→RW→Option (Int×BA×Nat×Bool×RW)
def qBF (rec:G_impl_reader_binary):zS→Option (Int×BA×Nat×Bool×RW)
 |([[[]],[[.i x0]],[[.i x1]]],[[[[.s x2],[.n x3],[.b x4]],[[.r x5]]]])=>rec.impl_reader_binary x0 x1 x2 x3 x4 x5
 |_=>none
def qDH (rec:G_impl_reader_binary):zS→Option (Int×BA×Nat×Bool×RW)
 |([[[]],[[.i x0]]],[[[[.s x1],[.n x2],[.b x3]],[[.r x4]]]])=>rec.impl_reader_unary x0 x1 x2 x3 x4
 |_=>none
def qMZ (rec:G_impl_reader_binary):zS→Option (Int×BA×Nat×Bool×RW)
 |([[[]],[[.i x0]]],[[[[.s x1],[.n x2],[.b x3]],[[.r x4]]]])=>rec.impl_reader_atom x0 x1 x2 x3 x4
 |_=>none
def qMa (rec:G_impl_reader_binary):zS→Option (Int×BA×Nat×Bool×RW)
 |([[[]],[[.i x0]],[[.i x1]]],[[[[.s x2],[.n x3],[.b x4]],[[.r x5]]]])=>rec.impl_reader_call x0 x1 x2 x3 x4 x5
 |_=>none
abbrev qDI (rec:G_impl_reader_binary) (n:Nat):zX:=zd [(84,zR (qBr (0) (⟨#[]⟩) (0) (false) ([])) (qBs (0) (⟨#[]⟩) (0) (false) ([])) (fun hs=>qDH rec hs) qD8 (zD)),(85,qIV n (zD)),(86,qRg n (zD)),(87,qS7 n (zD)),(88,qB0 n (zD)),(36,zR (q9 (0) (0) (⟨#[]⟩) (0) (false) ([])) (qAA (0) (0) (⟨#[]⟩) (0) (false) ([])) (fun hs=>qBF rec hs) qA9 (zD)),(89,qCP n (zD))]
def qDx (v:Int×Int×Int×Int×Int×BA×Nat×Bool×RW):St:=⟨[(0,(.c (.ptr 0 0 0 0 0))),(1,(ci v.1)),(2,(ci v.2.1)),(7,(ci v.2.2.1)),(8,(ci v.2.2.2.1)),(9,(ci v.2.2.2.2.1))],[],[[(0,⟨0,3,55,(.box [(vs v.2.2.2.2.2.1),(.own 0 1 1 v.2.2.2.2.2.2.1),(vb v.2.2.2.2.2.2.2.1)])⟩),(1,⟨1,14,64,(.row v.2.2.2.2.2.2.2.2)⟩)]]⟩
def qAy (n:Nat) (v:Int×Int×Int×Int×Int×BA×Nat×Bool×RW):Tr ((Int×Int×Int×Int×Int×BA×Nat×Bool×RW)⊕((Int×Int×Int×Int×BA×Nat×Bool×RW))):=(.ask ((decide (v.2.2.2.2.1≤(11:Int)))) (.opt (qBX n v.2.2.2.2.2.1 v.2.2.2.2.2.2.1 v.2.2.2.2.2.2.2.1 v.2.2.2.2.2.2.2.2) fun r376=>(.opt (qBP n v.2.2.2.2.1) fun r377=>(.ask ((r376.1.toList==r377.toList)) (.done (.inl (v.1,v.2.1,v.2.2.1,v.2.2.2.2.1,(IntKind.i64.wrap (v.2.2.2.2.1+(1:Int))),r376.2.1,r376.2.2.1,r376.2.2.2.1,r376.2.2.2.2))) (.done (.inl (v.1,v.2.1,v.2.2.1,v.2.2.2.1,(IntKind.i64.wrap (v.2.2.2.2.1+(1:Int))),r376.2.1,r376.2.2.1,r376.2.2.2.1,r376.2.2.2.2)))))) (.done (.inr ((v.1,v.2.1,v.2.2.1,v.2.2.2.1,v.2.2.2.2.2.1,v.2.2.2.2.2.2.1,v.2.2.2.2.2.2.2.1,v.2.2.2.2.2.2.2.2)))))
def qHj:(Int×Int×Int×Int×BA×Nat×Bool×RW)→Ex×St:=fun r=>((.exit 2),⟨[(0,(.c (.ptr 0 0 0 0 0))),(1,(ci r.1)),(2,(ci r.2.1)),(7,(ci r.2.2.1)),(8,(ci r.2.2.2.1))],[],[[(0,⟨0,3,55,(.box [(vs r.2.2.2.2.1),(.own 0 1 1 r.2.2.2.2.2.1),(vb r.2.2.2.2.2.2.1)])⟩),(1,⟨1,14,64,(.row r.2.2.2.2.2.2.2)⟩)]]⟩)
def qPs:(Int×Int×Int×Int×BA×Nat×Bool×RW)→Tr (Ex×St):=fun r=> .done (qHj r)
def qG8:zw→Option (Int×Int×Int×Int×Int×BA×Nat×Bool×RW)
 |([[[]],[[.i w0]],[[.i w1]],[[.i w2]],[[.i w3]],[[.i w4]]],[],[[[[.s w5],[.n w6],[.b w7]],[[.r w8]]]])=>some (w0,w1,w2,w3,w4,w5,w6,w7,w8)
 |_=>none
abbrev qBx (n:Nat):St→Tr (Ex×St):=zp (qDx (0,0,0,0,0,⟨#[]⟩,0,false,[])) qG8 (qAy n) qPs n
def qES (v:Int×Int×Int×BA×Nat×Bool×RW):St:=⟨[(0,(.c (.ptr 0 0 0 0 0))),(1,(ci v.1)),(2,(ci v.2.1)),(7,(ci v.2.2.1))],[],[[(0,⟨0,3,55,(.box [(vs v.2.2.2.1),(.own 0 1 1 v.2.2.2.2.1),(vb v.2.2.2.2.2.1)])⟩),(1,⟨1,14,64,(.row v.2.2.2.2.2.2)⟩)]]⟩
def qCS (rec:G_impl_reader_binary) (n:Nat) (v:Int×Int×Int×BA×Nat×Bool×RW):Tr ((Int×Int×Int×BA×Nat×Bool×RW)⊕((Int×BA×Nat×Bool×RW))):=(.ask ((!v.2.2.2.2.2.1)) (.opt (zL (qAy n) n (v.1,v.2.1,v.2.2.1,(0:Int),(1:Int),v.2.2.2.1,v.2.2.2.2.1,v.2.2.2.2.2.1,v.2.2.2.2.2.2)) fun r378=>(.ask ((r378.2.2.2.1==(0:Int))) (.done (.inr ((r378.2.2.1,r378.2.2.2.2.1,r378.2.2.2.2.2.1,r378.2.2.2.2.2.2.1,r378.2.2.2.2.2.2.2)))) (.opt (qE6 n r378.2.2.2.1) fun r379=>(.ask ((decide (r379<r378.1))) (.done (.inr ((r378.2.2.1,r378.2.2.2.2.1,r378.2.2.2.2.2.1,r378.2.2.2.2.2.2.1,r378.2.2.2.2.2.2.2)))) (.opt (qBP n r378.2.2.2.1) fun r380=>(.opt (qj n r380 r378.2.2.2.2.1 r378.2.2.2.2.2.1 r378.2.2.2.2.2.2.1 r378.2.2.2.2.2.2.2) fun r381=>(.opt (qE6 n r378.2.2.2.1) fun r382=>(.opt (rec.impl_reader_binary (IntKind.i64.wrap (r382+(1:Int))) r378.2.1 r381.2.1 r381.2.2.1 r381.2.2.2.1 r381.2.2.2.2) fun r383=>(.ask (decide (2=([[(.i .i64 r378.2.2.1)],[(.i .i64 r383.1)]]:RW).length)) (.opt (qk n (5:Int) r378.2.2.2.1 (0:Int) (0:Int) (⟨#[]⟩:BA) (0:Int) (0:Int) false false (0:Int) (0:Int) false false ([[(.i .i64 r378.2.2.1)],[(.i .i64 r383.1)]]:RW) r383.2.1 r383.2.2.1 r383.2.2.2.1 r383.2.2.2.2) fun r384=>(.done (.inl (r378.1,r378.2.1,r384.1,r384.2.1,r384.2.2.1,r384.2.2.2.1,r384.2.2.2.2)))) .fail))))))))) (.done (.inr ((v.2.2.1,v.2.2.2.1,v.2.2.2.2.1,v.2.2.2.2.2.1,v.2.2.2.2.2.2)))))
def qIw:(Int×BA×Nat×Bool×RW)→Ex×St:=fun r=>((.exit 0),⟨[(7,(ci r.1))],[],[[(0,⟨0,3,55,(.box [(vs r.2.1),(.own 0 1 1 r.2.2.1),(vb r.2.2.2.1)])⟩),(1,⟨1,14,64,(.row r.2.2.2.2)⟩)]]⟩)
def qRh:(Int×BA×Nat×Bool×RW)→Tr (Ex×St):=fun r=> .done (qIw r)
def qHk:zw→Option (Int×Int×Int×BA×Nat×Bool×RW)
 |([[[]],[[.i w0]],[[.i w1]],[[.i w2]]],[],[[[[.s w3],[.n w4],[.b w5]],[[.r w6]]]])=>some (w0,w1,w2,w3,w4,w5,w6)
 |_=>none
abbrev qHl (rec:G_impl_reader_binary) (n:Nat):St→Tr (Ex×St):=zp (qES (0,0,0,⟨#[]⟩,0,false,[])) qHk (qCS rec n) qRh n
abbrev qKq (rec:G_impl_reader_binary) (n:Nat):za:=zN [(14,qHl rec n)]
def qMb (rec:G_impl_reader_binary) (n:Nat) (x0 x1:Int) (x2:BA) (x3:Nat) (x4:Bool) (x5:RW):Tr (Int×BA×Nat×Bool×RW):=(.opt (rec.impl_reader_unary x1 x2 x3 x4 x5) fun r375=>(.opt (zL (qCS rec n) n (x0,x1,r375.1,r375.2.1,r375.2.2.1,r375.2.2.2.1,r375.2.2.2.2)) fun r385=>(.done (r385.1,r385.2.1,r385.2.2.1,r385.2.2.2.1,r385.2.2.2.2))))
abbrev qMc (rec:G_impl_reader_binary) (n:Nat):zX:=zd [(88,qB0 n (zD)),(84,zR (qBr (0) (⟨#[]⟩) (0) (false) ([])) (qBs (0) (⟨#[]⟩) (0) (false) ([])) (fun hs=>qDH rec hs) qD8 (zD)),(89,qCP n (zD)),(134,zR (qE7 (0) (⟨#[]⟩) (0) (false) ([])) (qE8 (0) (⟨#[]⟩) (0) (false) ([])) (fun hs=>qMZ rec hs) qIb (zD))]
abbrev qV8 (rec:G_impl_reader_binary) (n:Nat):za:=zN []
def qNj (rec:G_impl_reader_binary) (n:Nat) (x0:Int) (x1:BA) (x2:Nat) (x3:Bool) (x4:RW):Tr (Int×BA×Nat×Bool×RW):=(.ask ((decide (x0>(400:Int)))) (.ask (true) (.done ((-1:Int),x1,x2,true,x4)) (.opt (qj n (⟨#[45]⟩:BA) x1 x2 true x4) fun r255=>(.ask (r255.1) (.opt (rec.impl_reader_unary (IntKind.i64.wrap (x0+(1:Int))) r255.2.1 r255.2.2.1 r255.2.2.2.1 r255.2.2.2.2) fun r256=>(.ask (decide (1=([[(.i .i64 r256.1)]]:RW).length)) (.opt (qk n (4:Int) (0:Int) (0:Int) (0:Int) (⟨#[]⟩:BA) (0:Int) (0:Int) false false (0:Int) (0:Int) false false ([[(.i .i64 r256.1)]]:RW) r256.2.1 r256.2.2.1 r256.2.2.2.1 r256.2.2.2.2) fun r257=>(.done (r257.1,r257.2.1,r257.2.2.1,r257.2.2.2.1,r257.2.2.2.2))) .fail)) (.opt (rec.impl_reader_atom x0 r255.2.1 r255.2.2.1 r255.2.2.2.1 r255.2.2.2.2) fun r370=>(.done (r370.1,r370.2.1,r370.2.2.1,r370.2.2.2.1,r370.2.2.2.2)))))) (.ask (x3) (.done ((-1:Int),x1,x2,x3,x4)) (.opt (qj n (⟨#[45]⟩:BA) x1 x2 x3 x4) fun r371=>(.ask (r371.1) (.opt (rec.impl_reader_unary (IntKind.i64.wrap (x0+(1:Int))) r371.2.1 r371.2.2.1 r371.2.2.2.1 r371.2.2.2.2) fun r372=>(.ask (decide (1=([[(.i .i64 r372.1)]]:RW).length)) (.opt (qk n (4:Int) (0:Int) (0:Int) (0:Int) (⟨#[]⟩:BA) (0:Int) (0:Int) false false (0:Int) (0:Int) false false ([[(.i .i64 r372.1)]]:RW) r372.2.1 r372.2.2.1 r372.2.2.2.1 r372.2.2.2.2) fun r373=>(.done (r373.1,r373.2.1,r373.2.2.1,r373.2.2.2.1,r373.2.2.2.2))) .fail)) (.opt (rec.impl_reader_atom x0 r371.2.1 r371.2.2.1 r371.2.2.2.1 r371.2.2.2.2) fun r374=>(.done (r374.1,r374.2.1,r374.2.2.1,r374.2.2.2.1,r374.2.2.2.2)))))))
abbrev qD9 (rec:G_impl_reader_binary) (n:Nat):zX:=zd [(37,qCI n (zD)),(69,qCZ n (zD)),(161,qMX n (zD)),(70,qGs n (zD)),(59,qCX n (zD)),(71,qSx n (zD)),(162,qE1 n (zD)),(163,qIY n (zD)),(25,qLU n (zD)),(164,qLZ n (zD)),(89,qCP n (zD)),(103,qRd n (zD)),(165,zR (qE9 (0) (0) (⟨#[]⟩) (0) (false) ([])) (qFA (0) (0) (⟨#[]⟩) (0) (false) ([])) (fun hs=>qMa rec hs) qIc (zD)),(88,qB0 n (zD)),(36,zR (q9 (0) (0) (⟨#[]⟩) (0) (false) ([])) (qAA (0) (0) (⟨#[]⟩) (0) (false) ([])) (fun hs=>qBF rec hs) qA9 (zD))]
def qFB (v:Int×Int×BA×Nat×Bool×RW):St:=⟨[(0,(.c (.ptr 0 0 0 0 0))),(1,(ci v.1)),(5,(ci v.2.1))],[],[[(0,⟨0,3,55,(.box [(vs v.2.2.1),(.own 0 1 1 v.2.2.2.1),(vb v.2.2.2.2.1)])⟩),(1,⟨1,14,64,(.row v.2.2.2.2.2)⟩)]]⟩
def qBm (n:Nat) (v:Int×Int×BA×Nat×Bool×RW):Tr ((Int×Int×BA×Nat×Bool×RW)⊕((Int×BA×Nat×Bool×RW)⊕(Int×BA×Nat×Bool×RW))):=(.ask ((decide (v.2.1≤(5:Int)))) (.opt (qAP n v.2.1) fun r269=>(.opt (qr n v.2.2.1 r269) fun r270=>(.ask (r270.2) (.opt (qBk n v.2.1) fun r271=>(.opt (qc n r271.1 r271.2.1 r271.2.2 r270.1 v.2.2.2.1 v.2.2.2.2.1 v.2.2.2.2.2) fun r272=>(.done (.inr (.inl ((r272.1,r272.2.1,r272.2.2.1,r272.2.2.2.1,r272.2.2.2.2))))))) (.done (.inl (v.1,(IntKind.i64.wrap (v.2.1+(1:Int))),v.2.2.1,v.2.2.2.1,v.2.2.2.2.1,v.2.2.2.2.2)))))) (.done (.inr (.inr ((v.1,v.2.2.1,v.2.2.2.1,v.2.2.2.2.1,v.2.2.2.2.2))))))
def qFC:((Int×BA×Nat×Bool×RW)⊕(Int×BA×Nat×Bool×RW))→Ex×St:=fun| .inl r=>(.ret,⟨[(4,(ci r.1))],[],[[(0,⟨0,3,55,(.box [(vs r.2.1),(.own 0 1 1 r.2.2.1),(vb r.2.2.2.1)])⟩),(1,⟨1,14,64,(.row r.2.2.2.2)⟩)]]⟩)| .inr r=>(fun r=>((.exit 1),⟨[(0,(.c (.ptr 0 0 0 0 0))),(1,(ci r.1))],[],[[(0,⟨0,3,55,(.box [(vs r.2.1),(.own 0 1 1 r.2.2.1),(vb r.2.2.2.1)])⟩),(1,⟨1,14,64,(.row r.2.2.2.2)⟩)]]⟩)) r
def qSS:((Int×BA×Nat×Bool×RW)⊕(Int×BA×Nat×Bool×RW))→Tr (Ex×St):=fun r=> .alt r (fun r=> .done (qFC (.inl r))) (fun r=> .done (qFC (.inr r)))
def qIx:zw→Option (Int×Int×BA×Nat×Bool×RW)
 |([[[]],[[.i w0]],[[.i w1]]],[],[[[[.s w2],[.n w3],[.b w4]],[[.r w5]]]])=>some (w0,w1,w2,w3,w4,w5)
 |_=>none
abbrev qET (n:Nat):St→Tr (Ex×St):=zp (qFB (0,0,⟨#[]⟩,0,false,[])) qIx (qBm n) qSS n
def qFD (v:Int×BA×Int×BA×Nat×Bool×RW):St:=⟨[(0,(.c (.ptr 0 0 0 0 0))),(1,(ci v.1)),(9,(cs v.2.1)),(14,(ci v.2.2.1))],[],[[(0,⟨0,3,55,(.box [(vs v.2.2.2.1),(.own 0 1 1 v.2.2.2.2.1),(vb v.2.2.2.2.2.1)])⟩),(1,⟨1,14,64,(.row v.2.2.2.2.2.2)⟩)]]⟩
def qAT (rec:G_impl_reader_binary) (n:Nat) (v:Int×BA×Int×BA×Nat×Bool×RW):Tr ((Int×BA×Int×BA×Nat×Bool×RW)⊕((Int×BA×Nat×Bool×RW)⊕(BA×Nat×Bool×RW))):=(.ask ((decide (v.2.2.1≤(10:Int)))) (.opt (qCB n v.2.2.1) fun r343=>(.ask ((v.2.1.toList==r343.toList)) (.opt (rec.impl_reader_call v.2.2.1 v.1 v.2.2.2.1 v.2.2.2.2.1 v.2.2.2.2.2.1 v.2.2.2.2.2.2) fun r344=>(.done (.inr (.inl ((r344.1,r344.2.1,r344.2.2.1,r344.2.2.2.1,r344.2.2.2.2)))))) (.done (.inl (v.1,v.2.1,(IntKind.i64.wrap (v.2.2.1+(1:Int))),v.2.2.2.1,v.2.2.2.2.1,v.2.2.2.2.2.1,v.2.2.2.2.2.2))))) (.done (.inr (.inr ((v.2.2.2.1,v.2.2.2.2.1,v.2.2.2.2.2.1,v.2.2.2.2.2.2))))))
def qFE:((Int×BA×Nat×Bool×RW)⊕(BA×Nat×Bool×RW))→Ex×St:=fun| .inl r=>(.ret,⟨[(4,(ci r.1))],[],[[(0,⟨0,3,55,(.box [(vs r.2.1),(.own 0 1 1 r.2.2.1),(vb r.2.2.2.1)])⟩),(1,⟨1,14,64,(.row r.2.2.2.2)⟩)]]⟩)| .inr r=>(fun r=>((.exit 3),⟨[(0,(.c (.ptr 0 0 0 0 0)))],[],[[(0,⟨0,3,55,(.box [(vs r.1),(.own 0 1 1 r.2.1),(vb r.2.2.1)])⟩),(1,⟨1,14,64,(.row r.2.2.2)⟩)]]⟩)) r
def qST:((Int×BA×Nat×Bool×RW)⊕(BA×Nat×Bool×RW))→Tr (Ex×St):=fun r=> .alt r (fun r=> .done (qFE (.inl r))) (fun r=> .done (qFE (.inr r)))
def qIy:zw→Option (Int×BA×Int×BA×Nat×Bool×RW)
 |([[[]],[[.i w0]],[[.s w1]],[[.i w2]]],[],[[[[.s w3],[.n w4],[.b w5]],[[.r w6]]]])=>some (w0,w1,w2,w3,w4,w5,w6)
 |_=>none
abbrev qEU (rec:G_impl_reader_binary) (n:Nat):St→Tr (Ex×St):=zp (qFD (0,⟨#[]⟩,0,⟨#[]⟩,0,false,[])) qIy (qAT rec n) qST n
abbrev qNk (rec:G_impl_reader_binary) (n:Nat):za:=zN [(477,qET n),(509,qEU rec n)]
def qPQ (rec:G_impl_reader_binary) (n:Nat) (x0:Int) (x1:BA) (x2:Nat) (x3:Bool) (x4:RW):Tr (Int×BA×Nat×Bool×RW):=(.opt (qAk n x1 x2 x3 x4) fun r258=>(.opt (qe n r258.1 (⟨#[34]⟩:BA)) fun r259=>(.ask (r259) (.opt (qDg n r258.1 r258.2.1 r258.2.2.1 r258.2.2.2) fun r267=>(.done (r267.1,r267.2.1,r267.2.2.1,r267.2.2.2.1,r267.2.2.2.2))) (.opt (qe n r258.1 (⟨#[35]⟩:BA)) fun r268=>(.ask (r268) (.opt (zL (qBm n) n (x0,(1:Int),r258.1,r258.2.1,r258.2.2.1,r258.2.2.2)) fun r273=>(.alt r273 (fun r274=>(.done (r274.1,r274.2.1,r274.2.2.1,r274.2.2.2.1,r274.2.2.2.2))) (fun r275=>(.opt (qA7 n r275.2.1 r275.2.2.1 r275.2.2.2.1 r275.2.2.2.2) fun r278=>(.opt (qZ n r278.1) fun r314=>(.ask (r314.2.2.2) (.ask ((r314.1==(1:Int))) (.opt (qc n r314.1 r314.2.1 r314.2.2.1 r278.2.1 r278.2.2.1 r278.2.2.2.1 r278.2.2.2.2) fun r315=>(.done (r315.1,r315.2.1,r315.2.2.1,r315.2.2.2.1,r315.2.2.2.2))) (.ask ((r314.1==(3:Int))) (.opt (qc n r314.1 r314.2.1 r314.2.2.1 r278.2.1 r278.2.2.1 r278.2.2.2.1 r278.2.2.2.2) fun r316=>(.done (r316.1,r316.2.1,r316.2.2.1,r316.2.2.2.1,r316.2.2.2.2))) (.opt (qAQ n r278.1) fun r341=>(.ask (r341.2.2.2.2) (.opt (qk n (2:Int) (0:Int) (0:Int) (0:Int) (⟨#[]⟩:BA) r341.1 r341.2.1 r341.2.2.1 r341.2.2.2.1 (0:Int) (0:Int) false false ([]:RW) r278.2.1 r278.2.2.1 r278.2.2.2.1 r278.2.2.2.2) fun r342=>(.done (r342.1,r342.2.1,r342.2.2.1,r342.2.2.2.1,r342.2.2.2.2))) (.opt (zL (qAT rec n) n (r275.1,r278.1,(1:Int),r278.2.1,r278.2.2.1,r278.2.2.2.1,r278.2.2.2.2)) fun r345=>(.alt r345 (fun r346=>(.done (r346.1,r346.2.1,r346.2.2.1,r346.2.2.2.1,r346.2.2.2.2))) (fun r347=>(.done ((-1:Int),r347.1,r347.2.1,true,r347.2.2.2))))))))) (.opt (qAQ n r278.1) fun r348=>(.ask (r348.2.2.2.2) (.opt (qk n (2:Int) (0:Int) (0:Int) (0:Int) (⟨#[]⟩:BA) r348.1 r348.2.1 r348.2.2.1 r348.2.2.2.1 (0:Int) (0:Int) false false ([]:RW) r278.2.1 r278.2.2.1 r278.2.2.2.1 r278.2.2.2.2) fun r349=>(.done (r349.1,r349.2.1,r349.2.2.1,r349.2.2.2.1,r349.2.2.2.2))) (.opt (zL (qAT rec n) n (r275.1,r278.1,(1:Int),r278.2.1,r278.2.2.1,r278.2.2.2.1,r278.2.2.2.2)) fun r350=>(.alt r350 (fun r351=>(.done (r351.1,r351.2.1,r351.2.2.1,r351.2.2.2.1,r351.2.2.2.2))) (fun r352=>(.done ((-1:Int),r352.1,r352.2.1,true,r352.2.2.2))))))))))))) (.opt (qj n (⟨#[40]⟩:BA) r258.1 r258.2.1 r258.2.2.1 r258.2.2.2) fun r353=>(.ask (r353.1) (.opt (rec.impl_reader_binary (1:Int) (IntKind.i64.wrap (x0+(1:Int))) r353.2.1 r353.2.2.1 r353.2.2.2.1 r353.2.2.2.2) fun r354=>(.ask (r354.2.2.2.1) (.done (r354.1,r354.2.1,r354.2.2.1,true,r354.2.2.2.2)) (.opt (qj n (⟨#[41]⟩:BA) r354.2.1 r354.2.2.1 r354.2.2.2.1 r354.2.2.2.2) fun r355=>(.done (r354.1,r355.2.1,r355.2.2.1,(!r355.1),r355.2.2.2.2))))) (.opt (qA7 n r353.2.1 r353.2.2.1 r353.2.2.2.1 r353.2.2.2.2) fun r356=>(.opt (qZ n r356.1) fun r357=>(.ask (r357.2.2.2) (.ask ((r357.1==(1:Int))) (.opt (qc n r357.1 r357.2.1 r357.2.2.1 r356.2.1 r356.2.2.1 r356.2.2.2.1 r356.2.2.2.2) fun r358=>(.done (r358.1,r358.2.1,r358.2.2.1,r358.2.2.2.1,r358.2.2.2.2))) (.ask ((r357.1==(3:Int))) (.opt (qc n r357.1 r357.2.1 r357.2.2.1 r356.2.1 r356.2.2.1 r356.2.2.2.1 r356.2.2.2.2) fun r359=>(.done (r359.1,r359.2.1,r359.2.2.1,r359.2.2.2.1,r359.2.2.2.2))) (.opt (qAQ n r356.1) fun r360=>(.ask (r360.2.2.2.2) (.opt (qk n (2:Int) (0:Int) (0:Int) (0:Int) (⟨#[]⟩:BA) r360.1 r360.2.1 r360.2.2.1 r360.2.2.2.1 (0:Int) (0:Int) false false ([]:RW) r356.2.1 r356.2.2.1 r356.2.2.2.1 r356.2.2.2.2) fun r361=>(.done (r361.1,r361.2.1,r361.2.2.1,r361.2.2.2.1,r361.2.2.2.2))) (.opt (zL (qAT rec n) n (x0,r356.1,(1:Int),r356.2.1,r356.2.2.1,r356.2.2.2.1,r356.2.2.2.2)) fun r362=>(.alt r362 (fun r363=>(.done (r363.1,r363.2.1,r363.2.2.1,r363.2.2.2.1,r363.2.2.2.2))) (fun r364=>(.done ((-1:Int),r364.1,r364.2.1,true,r364.2.2.2))))))))) (.opt (qAQ n r356.1) fun r365=>(.ask (r365.2.2.2.2) (.opt (qk n (2:Int) (0:Int) (0:Int) (0:Int) (⟨#[]⟩:BA) r365.1 r365.2.1 r365.2.2.1 r365.2.2.2.1 (0:Int) (0:Int) false false ([]:RW) r356.2.1 r356.2.2.1 r356.2.2.2.1 r356.2.2.2.2) fun r366=>(.done (r366.1,r366.2.1,r366.2.2.1,r366.2.2.2.1,r366.2.2.2.2))) (.opt (zL (qAT rec n) n (x0,r356.1,(1:Int),r356.2.1,r356.2.2.1,r356.2.2.2.1,r356.2.2.2.2)) fun r367=>(.alt r367 (fun r368=>(.done (r368.1,r368.2.1,r368.2.2.1,r368.2.2.2.1,r368.2.2.2.2))) (fun r369=>(.done ((-1:Int),r369.1,r369.2.1,true,r369.2.2.2)))))))))))))))))
abbrev qHU (rec:G_impl_reader_binary) (n:Nat):zX:=zd [(188,qKM n (zD)),(89,qCP n (zD)),(88,qB0 n (zD)),(36,zR (q9 (0) (0) (⟨#[]⟩) (0) (false) ([])) (qAA (0) (0) (⟨#[]⟩) (0) (false) ([])) (fun hs=>qBF rec hs) qA9 (zD))]
def qFg (v:Int×Int×Nat×RW×BA×Nat×Bool×RW):St:=⟨[(0,(.c (.ptr 0 0 0 0 0))),(1,(ci v.1)),(2,(ci v.2.1)),(7,(.c (.own 1 640 0 v.2.2.1)))],[(640,⟨0,1,2,(.row v.2.2.2.1)⟩)],[[(0,⟨0,3,55,(.box [(vs v.2.2.2.2.1),(.own 0 1 1 v.2.2.2.2.2.1),(vb v.2.2.2.2.2.2.1)])⟩),(1,⟨1,14,64,(.row v.2.2.2.2.2.2.2)⟩)]]⟩
def qBz (rec:G_impl_reader_binary) (n:Nat) (v:Int×Int×Nat×RW×BA×Nat×Bool×RW):Tr ((Int×Int×Nat×RW×BA×Nat×Bool×RW)⊕((Int×Nat×RW×BA×Nat×Bool×RW))):=(.ask ((!v.2.2.2.2.2.2.1)) (.opt (qCm n v.2.2.2.2.1 v.2.2.2.2.2.1 v.2.2.2.2.2.2.1 v.2.2.2.2.2.2.2) fun r346=>(.ask (r346.2.2.2.2.2.2.2.2.2.2.2.2.2.2.1) (.opt (qk n r346.1 r346.2.1 r346.2.2.1 r346.2.2.2.1 r346.2.2.2.2.1 r346.2.2.2.2.2.1 r346.2.2.2.2.2.2.1 r346.2.2.2.2.2.2.2.1 r346.2.2.2.2.2.2.2.2.1 r346.2.2.2.2.2.2.2.2.2.1 r346.2.2.2.2.2.2.2.2.2.2.1 r346.2.2.2.2.2.2.2.2.2.2.2.1 r346.2.2.2.2.2.2.2.2.2.2.2.2.1 r346.2.2.2.2.2.2.2.2.2.2.2.2.2.1 r346.2.2.2.2.2.2.2.2.2.2.2.2.2.2.2.1 r346.2.2.2.2.2.2.2.2.2.2.2.2.2.2.2.2.1 r346.2.2.2.2.2.2.2.2.2.2.2.2.2.2.2.2.2.1 r346.2.2.2.2.2.2.2.2.2.2.2.2.2.2.2.2.2.2) fun r347=>(.ask (decide (1=([[(.i .i64 r347.1)]]:RW).length)) (.ask (decide (v.2.2.1=v.2.2.2.1.length∧0<1∧0<8∧(v.2.2.1+([[(.i .i64 r347.1)]]:RW).length)*8≤140737488355328∧([[(.i .i64 r347.1)]]:RW).all (fun e=>e.length==1)=true)) (.opt (qj n (⟨#[44]⟩:BA) r347.2.1 r347.2.2.1 r347.2.2.2.1 r347.2.2.2.2) fun r348=>(.ask ((!r348.1)) (.ask (r348.2.2.2.1) (.done (.inr ((v.1,(v.2.2.1+1),(v.2.2.2.1++([[(.i .i64 r347.1)]]:RW)),r348.2.1,r348.2.2.1,true,r348.2.2.2.2)))) (.opt (qj n (⟨#[41]⟩:BA) r348.2.1 r348.2.2.1 r348.2.2.2.1 r348.2.2.2.2) fun r349=>(.done (.inr ((v.1,(v.2.2.1+1),(v.2.2.2.1++([[(.i .i64 r347.1)]]:RW)),r349.2.1,r349.2.2.1,(!r349.1),r349.2.2.2.2)))))) (.done (.inl (v.1,v.2.1,(v.2.2.1+1),(v.2.2.2.1++([[(.i .i64 r347.1)]]:RW)),r348.2.1,r348.2.2.1,r348.2.2.2.1,r348.2.2.2.2))))) .fail) .fail)) (.opt (rec.impl_reader_binary (1:Int) (IntKind.i64.wrap (v.2.1+(1:Int))) r346.2.2.2.2.2.2.2.2.2.2.2.2.2.2.2.1 r346.2.2.2.2.2.2.2.2.2.2.2.2.2.2.2.2.1 r346.2.2.2.2.2.2.2.2.2.2.2.2.2.2.2.2.2.1 r346.2.2.2.2.2.2.2.2.2.2.2.2.2.2.2.2.2.2) fun r350=>(.ask (decide (1=([[(.i .i64 r350.1)]]:RW).length)) (.ask (decide (v.2.2.1=v.2.2.2.1.length∧0<1∧0<8∧(v.2.2.1+([[(.i .i64 r350.1)]]:RW).length)*8≤140737488355328∧([[(.i .i64 r350.1)]]:RW).all (fun e=>e.length==1)=true)) (.opt (qj n (⟨#[44]⟩:BA) r350.2.1 r350.2.2.1 r350.2.2.2.1 r350.2.2.2.2) fun r351=>(.ask ((!r351.1)) (.ask (r351.2.2.2.1) (.done (.inr ((v.1,(v.2.2.1+1),(v.2.2.2.1++([[(.i .i64 r350.1)]]:RW)),r351.2.1,r351.2.2.1,true,r351.2.2.2.2)))) (.opt (qj n (⟨#[41]⟩:BA) r351.2.1 r351.2.2.1 r351.2.2.2.1 r351.2.2.2.2) fun r352=>(.done (.inr ((v.1,(v.2.2.1+1),(v.2.2.2.1++([[(.i .i64 r350.1)]]:RW)),r352.2.1,r352.2.2.1,(!r352.1),r352.2.2.2.2)))))) (.done (.inl (v.1,v.2.1,(v.2.2.1+1),(v.2.2.2.1++([[(.i .i64 r350.1)]]:RW)),r351.2.1,r351.2.2.1,r351.2.2.2.1,r351.2.2.2.2))))) .fail) .fail)))) (.done (.inr ((v.1,v.2.2.1,v.2.2.2.1,v.2.2.2.2.1,v.2.2.2.2.2.1,v.2.2.2.2.2.2.1,v.2.2.2.2.2.2.2)))))
def qKr:(Int×Nat×RW×BA×Nat×Bool×RW)→Ex×St:=fun r=>((.exit 0),⟨[(0,(.c (.ptr 0 0 0 0 0))),(1,(ci r.1)),(7,(.c (.own 1 640 0 r.2.1)))],[(640,⟨0,1,2,(.row r.2.2.1)⟩)],[[(0,⟨0,3,55,(.box [(vs r.2.2.2.1),(.own 0 1 1 r.2.2.2.2.1),(vb r.2.2.2.2.2.1)])⟩),(1,⟨1,14,64,(.row r.2.2.2.2.2.2)⟩)]]⟩)
def qS8:(Int×Nat×RW×BA×Nat×Bool×RW)→Tr (Ex×St):=fun r=> .done (qKr r)
def qKN:zw→Option (Int×Int×Nat×RW×BA×Nat×Bool×RW)
 |([[[]],[[.i w0]],[[.i w1]],[[.n w2]]],[[[.r w3]]],[[[[.s w4],[.n w5],[.b w6]],[[.r w7]]]])=>some (w0,w1,w2,w3,w4,w5,w6,w7)
 |_=>none
abbrev qKO (rec:G_impl_reader_binary) (n:Nat):St→Tr (Ex×St):=zp (qFg (0,0,0,[],⟨#[]⟩,0,false,[])) qKN (qBz rec n) qS8 n
abbrev qNl (rec:G_impl_reader_binary) (n:Nat):za:=zN [(30,qKO rec n)]
def qPR (rec:G_impl_reader_binary) (n:Nat) (x0 x1:Int) (x2:BA) (x3:Nat) (x4:Bool) (x5:RW):Tr (Int×BA×Nat×Bool×RW):=(.ask (x4) (.opt (zL (qBz rec n) n (x0,x1,(0:Nat),([]:RW),x2,x3,true,x5)) fun r353=>(.ask (decide (r353.2.1=r353.2.2.1.length)) (.opt (qk n (6:Int) r353.1 (0:Int) (0:Int) (⟨#[]⟩:BA) (0:Int) (0:Int) false false (0:Int) (0:Int) false false r353.2.2.1 r353.2.2.2.1 r353.2.2.2.2.1 r353.2.2.2.2.2.1 r353.2.2.2.2.2.2) fun r354=>(.done (r354.1,r354.2.1,r354.2.2.1,r354.2.2.2.1,r354.2.2.2.2))) .fail)) (.opt (qj n (⟨#[40]⟩:BA) x2 x3 x4 x5) fun r355=>(.opt (zL (qBz rec n) n (x0,x1,(0:Nat),([]:RW),r355.2.1,r355.2.2.1,(!r355.1),r355.2.2.2.2)) fun r356=>(.ask (decide (r356.2.1=r356.2.2.1.length)) (.opt (qk n (6:Int) r356.1 (0:Int) (0:Int) (⟨#[]⟩:BA) (0:Int) (0:Int) false false (0:Int) (0:Int) false false r356.2.2.1 r356.2.2.2.1 r356.2.2.2.2.1 r356.2.2.2.2.2.1 r356.2.2.2.2.2.2) fun r357=>(.done (r357.1,r357.2.1,r357.2.2.1,r357.2.2.2.1,r357.2.2.2.2))) .fail))))
def qL:Nat→G_impl_reader_binary
 |0=>⟨fun _ _ _ _ _ _=>none,fun _ _ _ _ _=>none,fun _ _ _ _ _=>none,fun _ _ _ _ _ _=>none⟩
 |n+1=>⟨fun x0 x1 x2 x3 x4 x5=>(qMb (qL n) n x0 x1 x2 x3 x4 x5).run,fun x0 x1 x2 x3 x4=>(qNj (qL n) n x0 x1 x2 x3 x4).run,fun x0 x1 x2 x3 x4=>(qPQ (qL n) n x0 x1 x2 x3 x4).run,fun x0 x1 x2 x3 x4 x5=>(qPR (qL n) n x0 x1 x2 x3 x4 x5).run⟩
def qCJ (n:Nat) (x0 x1:Int) (x2:BA) (x3:Nat) (x4:Bool) (x5:RW):Option (Int×BA×Nat×Bool×RW):=(qL n).impl_reader_binary x0 x1 x2 x3 x4 x5
def qNm (n:Nat) (x0:Int) (x1:BA) (x2:Nat) (x3:Bool) (x4:RW):Option (Int×BA×Nat×Bool×RW):=(qL n).impl_reader_unary x0 x1 x2 x3 x4
def qPS (n:Nat) (x0:Int) (x1:BA) (x2:Nat) (x3:Bool) (x4:RW):Option (Int×BA×Nat×Bool×RW):=(qL n).impl_reader_atom x0 x1 x2 x3 x4
def qC6 (n:Nat) (x0 x1:Int) (x2:BA) (x3:Nat) (x4:Bool) (x5:RW):Option (Int×BA×Nat×Bool×RW):=(qL n).impl_reader_call x0 x1 x2 x3 x4 x5
theorem qUm (rec:G_impl_reader_binary) (n:Nat) (x0 x1:Int) (x2:BA) (x3:Nat) (x4:Bool) (x5:RW):ze (qDI rec n) (qKq rec n) qCD (q9 x0 x1 x2 x3 x4 x5) (qAA x0 x1 x2 x3 x4 x5)=(qMb rec n x0 x1 x2 x3 x4 x5).bind fun r=> .done (qA9 r):=by kernel_rfl
theorem qV9 (rec:G_impl_reader_binary) (n:Nat) (x0:Int) (x1:BA) (x2:Nat) (x3:Bool) (x4:RW):ze (qMc rec n) (qV8 rec n) qD1 (qBr x0 x1 x2 x3 x4) (qBs x0 x1 x2 x3 x4)=(qNj rec n x0 x1 x2 x3 x4).bind fun r=> .done (qD8 r):=by kernel_rfl
theorem qXM (rec:G_impl_reader_binary) (n:Nat) (x0:Int) (x1:BA) (x2:Nat) (x3:Bool) (x4:RW):ze (qD9 rec n) (qNk rec n) qCz (qE7 x0 x1 x2 x3 x4) (qE8 x0 x1 x2 x3 x4)=(qPQ rec n x0 x1 x2 x3 x4).bind fun r=> .done (qIb r):=by kernel_rfl
theorem qXN (rec:G_impl_reader_binary) (n:Nat) (x0 x1:Int) (x2:BA) (x3:Nat) (x4:Bool) (x5:RW):ze (qHU rec n) (qNl rec n) qC0 (qE9 x0 x1 x2 x3 x4 x5) (qFA x0 x1 x2 x3 x4 x5)=(qPR rec n x0 x1 x2 x3 x4 x5).bind fun r=> .done (qIc r):=by kernel_rfl
def qb (n:Nat):Prop:=
 (∀(x0 x1:Int) (x2:BA) (x3:Nat) (x4:Bool) (x5:RW) r,qCJ n x0 x1 x2 x3 x4 x5=some r→Rn n 36 (q9 x0 x1 x2 x3 x4 x5) (qAA x0 x1 x2 x3 x4 x5)=some (qA9 r))∧
 (∀(x0:Int) (x1:BA) (x2:Nat) (x3:Bool) (x4:RW) r,qNm n x0 x1 x2 x3 x4=some r→Rn n 84 (qBr x0 x1 x2 x3 x4) (qBs x0 x1 x2 x3 x4)=some (qD8 r))∧
 (∀(x0:Int) (x1:BA) (x2:Nat) (x3:Bool) (x4:RW) r,qPS n x0 x1 x2 x3 x4=some r→Rn n 134 (qE7 x0 x1 x2 x3 x4) (qE8 x0 x1 x2 x3 x4)=some (qIb r))∧
 (∀(x0 x1:Int) (x2:BA) (x3:Nat) (x4:Bool) (x5:RW) r,qC6 n x0 x1 x2 x3 x4 x5=some r→Rn n 165 (qE9 x0 x1 x2 x3 x4 x5) (qFA x0 x1 x2 x3 x4 x5)=some (qIc r))
theorem qFh (n:Nat) (ih:qb n):zW (qDI (qL n) n) (Rn n):=zA (zF (fun hs r h=>by
  unfold qDH at h
  split at h
  ·exact ⟨qBr _ _ _ _ _,qBs _ _ _ _ _,rfl,rfl,ih.2.1 _ _ _ _ _ r h⟩
  ·cases h) (zB)) (zA (qNa n (zB)) (zA (qV7 n (zB)) (zA (qYD n (zB)) (zA (qCa n (zB)) (zA (zF (fun hs r h=>by
  unfold qBF at h
  split at h
  ·exact ⟨q9 _ _ _ _ _ _,qAA _ _ _ _ _ _,rfl,rfl,ih.1 _ _ _ _ _ _ r h⟩
  ·cases h) (zB)) (zA (qC5 n (zB)) (zG)))))))
theorem qPt (n:Nat) (v:Int×Int×Int×Int×Int×BA×Nat×Bool×RW):(zf (qDI (qL n) n) (zN []) qBw (qDx v) []).bind (zx [0,1,2,7,8,9] [(.ret,[6]),((.exit 2),[0,1,2,7,8]),((.exit 1),[0,1,2,7]),((.exit 0),[7])])=(qAy n v).bind (zAQ qDx qHj):=by
 obtain ⟨w0,w1,w2,w3,w4,w5,w6,w7,w8⟩:=v
 kernel_rfl
theorem qPu (n:Nat) (ih:qb n):zAX (Rn n) n (237,[0,1,2,7,8,9],[(.ret,[6]),((.exit 2),[0,1,2,7,8]),((.exit 1),[0,1,2,7]),((.exit 0),[7])],qBw) (qBx n):=fun st e s h=>
 zh (qFh n ih) (zI rfl) (qPt n) (fun r h=>by cases h) (fun r y h=>by cases h;rfl) (fun hs v h=>by
  unfold qG8 at h
  split at h<;>cases h
  rfl) h
theorem qRi (n:Nat) (ih:qb n):zAK (zN [(237,qBx n)]) (Rn n) n qB3:=zCt (by
 intro x hx
 have hx:x∈([(237,[0,1,2,7,8,9],[(.ret,[6]),((.exit 2),[0,1,2,7,8]),((.exit 1),[0,1,2,7]),((.exit 0),[7])],qBw)]:List (Nat×List Nat×List (Ex×List Nat)×KCode)):=hx
 simp only [List.mem_cons,List.not_mem_nil,or_false] at hx
 rcases hx with rfl
 ·exact ⟨qBx n,fun st=>rfl,qPu n ih⟩)
theorem qRj (n:Nat) (v:Int×Int×Int×BA×Nat×Bool×RW):(zf (qDI (qL n) n) (zN [(237,qBx n)]) qB3 (qES v) []).bind (zx [0,1,2,7] [(.ret,[6]),((.exit 0),[7])])=(qCS (qL n) n v).bind (zAQ qES qIw):=by
 obtain ⟨w0,w1,w2,w3,w4,w5,w6⟩:=v
 kernel_rfl
theorem qRk (n:Nat) (ih:qb n):zAX (Rn n) n (14,[0,1,2,7],[(.ret,[6]),((.exit 0),[7])],qB3) (qHl (qL n) n):=fun st e s h=>
 zh (qFh n ih) (qRi n ih) (qRj n) (fun r h=>by cases h) (fun r y h=>by cases h;rfl) (fun hs v h=>by
  unfold qHk at h
  split at h<;>cases h
  rfl) h
theorem qUn (n:Nat) (ih:qb n):zAK (qKq (qL n) n) (Rn n) n qCD.body:=lt1 rfl (qRk n ih)
theorem qWA (n:Nat) (ih:qb n):zW (qMc (qL n) n) (Rn n):=zA (qCa n (zB)) (zA (zF (fun hs r h=>by
  unfold qDH at h
  split at h
  ·exact ⟨qBr _ _ _ _ _,qBs _ _ _ _ _,rfl,rfl,ih.2.1 _ _ _ _ _ r h⟩
  ·cases h) (zB)) (zA (qC5 n (zB)) (zA (zF (fun hs r h=>by
  unfold qMZ at h
  split at h
  ·exact ⟨qE7 _ _ _ _ _,qE8 _ _ _ _ _,rfl,rfl,ih.2.2.1 _ _ _ _ _ r h⟩
  ·cases h) (zB)) (zG))))
theorem qHV (n:Nat) (ih:qb n):zW (qD9 (qL n) n) (Rn n):=zA (qDG n (zB)) (zA (qDd n (zB)) (zA (qUl n (zB)) (zA (qJ5 n (zB)) (zA (qDa n (zB)) (zA (qX6 n (zB)) (zA (qIt n (zB)) (zA (qNf n (zB)) (zA (qQo n (zB)) (zA (qQu n (zB)) (zA (qC5 n (zB)) (zA (qV4 n (zB)) (zA (zF (fun hs r h=>by
  unfold qMa at h
  split at h
  ·exact ⟨qE9 _ _ _ _ _ _,qFA _ _ _ _ _ _,rfl,rfl,ih.2.2.2 _ _ _ _ _ _ r h⟩
  ·cases h) (zB)) (zA (qCa n (zB)) (zA (zF (fun hs r h=>by
  unfold qBF at h
  split at h
  ·exact ⟨q9 _ _ _ _ _ _,qAA _ _ _ _ _ _,rfl,rfl,ih.1 _ _ _ _ _ _ r h⟩
  ·cases h) (zB)) (zG)))))))))))))))
theorem qSU (n:Nat) (v:Int×Int×BA×Nat×Bool×RW):(zf (qD9 (qL n) n) (zN []) qCL (qFB v) []).bind (zx [0,1,5] [(.ret,[4]),((.exit 1),[0,1]),((.exit 0),[0,1])])=(qBm n v).bind (zAQ qFB qFC):=by
 obtain ⟨w0,w1,w2,w3,w4,w5⟩:=v
 kernel_rfl
theorem qSV (n:Nat) (ih:qb n):zAX (Rn n) n (477,[0,1,5],[(.ret,[4]),((.exit 1),[0,1]),((.exit 0),[0,1])],qCL) (qET n):=fun st e s h=>
 zh (qHV n ih) (zI rfl) (qSU n) (fun r=>by
  rcases r with r|r<;>(intro h;cases h)) (fun r y h=>by
  rcases r with r|r<;>(cases h;rfl)) (fun hs v h=>by
  unfold qIx at h
  split at h<;>cases h
  rfl) h
theorem qSW (n:Nat) (v:Int×BA×Int×BA×Nat×Bool×RW):(zf (qD9 (qL n) n) (zN []) qCM (qFD v) []).bind (zx [0,1,9,14] [(.ret,[4]),((.exit 3),[0])])=(qAT (qL n) n v).bind (zAQ qFD qFE):=by
 obtain ⟨w0,w1,w2,w3,w4,w5,w6⟩:=v
 kernel_rfl
theorem qSX (n:Nat) (ih:qb n):zAX (Rn n) n (509,[0,1,9,14],[(.ret,[4]),((.exit 3),[0])],qCM) (qEU (qL n) n):=fun st e s h=>
 zh (qHV n ih) (zI rfl) (qSW n) (fun r=>by
  rcases r with r|r<;>(intro h;cases h)) (fun r y h=>by
  rcases r with r|r<;>(cases h;rfl)) (fun hs v h=>by
  unfold qIy at h
  split at h<;>cases h
  rfl) h
theorem qXO (n:Nat) (ih:qb n):zAK (qNk (qL n) n) (Rn n) n qCz.body:=zCt (by
 intro x hx
 have hx:x∈([(477,[0,1,5],[(.ret,[4]),((.exit 1),[0,1]),((.exit 0),[0,1])],qCL),(509,[0,1,9,14],[(.ret,[4]),((.exit 3),[0])],qCM)]:List (Nat×List Nat×List (Ex×List Nat)×KCode)):=hx
 simp only [List.mem_cons,List.not_mem_nil,or_false] at hx
 rcases hx with rfl|rfl
 ·exact ⟨qET n,fun st=>rfl,qSV n ih⟩
 ·exact ⟨qEU (qL n) n,fun st=>rfl,qSX n ih⟩)
theorem qNn (n:Nat) (ih:qb n):zW (qHU (qL n) n) (Rn n):=zA (qSR n (zB)) (zA (qC5 n (zB)) (zA (qCa n (zB)) (zA (zF (fun hs r h=>by
  unfold qBF at h
  split at h
  ·exact ⟨q9 _ _ _ _ _ _,qAA _ _ _ _ _ _,rfl,rfl,ih.1 _ _ _ _ _ _ r h⟩
  ·cases h) (zB)) (zG))))
theorem qS9 (n:Nat) (v:Int×Int×Nat×RW×BA×Nat×Bool×RW):(zf (qHU (qL n) n) (zN []) qEi (qFg v) []).bind (zx [0,1,2,7] [(.ret,[6]),((.exit 0),[0,1,7])])=(qBz (qL n) n v).bind (zAQ qFg qKr):=by
 obtain ⟨w0,w1,w2,w3,w4,w5,w6,w7⟩:=v
 kernel_rfl
theorem qTA (n:Nat) (ih:qb n):zAX (Rn n) n (30,[0,1,2,7],[(.ret,[6]),((.exit 0),[0,1,7])],qEi) (qKO (qL n) n):=fun st e s h=>
 zh (qNn n ih) (zI rfl) (qS9 n) (fun r h=>by cases h) (fun r y h=>by cases h;rfl) (fun hs v h=>by
  unfold qKN at h
  split at h<;>cases h
  rfl) h
theorem qXP (n:Nat) (ih:qb n):zAK (qNl (qL n) n) (Rn n) n qC0.body:=lt1 rfl (qTA n ih)
theorem qAh:∀n,qb n
 |0=>⟨(fun x0 x1 x2 x3 x4 x5 r h=>by have h:(none:Option _)=some r:=h;cases h),(fun x0 x1 x2 x3 x4 r h=>by have h:(none:Option _)=some r:=h;cases h),(fun x0 x1 x2 x3 x4 r h=>by have h:(none:Option _)=some r:=h;cases h),(fun x0 x1 x2 x3 x4 x5 r h=>by have h:(none:Option _)=some r:=h;cases h)⟩
 |n+1=>⟨(fun x0 x1 x2 x3 x4 x5 r h=>zH (kf:=qCD) rfl (qFh n (qAh n)) (qUn n (qAh n)) (qUm (qL n) n x0 x1 x2 x3 x4 x5) h),(fun x0 x1 x2 x3 x4 r h=>zH (kf:=qD1) rfl (qWA n (qAh n)) (zI rfl) (qV9 (qL n) n x0 x1 x2 x3 x4) h),(fun x0 x1 x2 x3 x4 r h=>zH (kf:=qCz) rfl (qHV n (qAh n)) (qXO n (qAh n)) (qXM (qL n) n x0 x1 x2 x3 x4) h),(fun x0 x1 x2 x3 x4 x5 r h=>zH (kf:=qC0) rfl (qNn n (qAh n)) (qXP n (qAh n)) (qXN (qL n) n x0 x1 x2 x3 x4 x5) h)⟩
theorem qUo (n:Nat) (x0 x1:Int) (x2:BA) (x3:Nat) (x4:Bool) (x5:RW) (r:Int×BA×Nat×Bool×RW) (h:qCJ n x0 x1 x2 x3 x4 x5=some r):Rn n 36 (q9 x0 x1 x2 x3 x4 x5) (qAA x0 x1 x2 x3 x4 x5)=some (qA9 r):=(qAh n).1 x0 x1 x2 x3 x4 x5 r h
def qKs (n:Nat):zS→Option (Int×BA×Nat×Bool×RW)
 |([[[]],[[.i x0]],[[.i x1]]],[[[[.s x2],[.n x3],[.b x4]],[[.r x5]]]])=>qCJ n x0 x1 x2 x3 x4 x5
 |_=>none
def qMd (n:Nat) (d:ED):ED:=zR (q9 (0) (0) (⟨#[]⟩) (0) (false) ([])) (qAA (0) (0) (⟨#[]⟩) (0) (false) ([])) (qKs n) qA9 d
theorem qUp (n:Nat) {d:ED} (hd:RK n 36 d):RK n 36 (qMd n d):=
 zF (fun hs r h=>by unfold qKs at h;split at h;exact ⟨q9 _ _ _ _ _ _,qAA _ _ _ _ _ _,rfl,rfl,qUo n _ _ _ _ _ _ r h⟩;cases h) hd
def qFq (x0 x1 x2 x3:Int) (x4:BA) (x5 x6:Int) (x7 x8:Bool) (x9 x10:Int) (x11 x12:Bool) (x13:RW):List AV:= [(.agg [(vi x0),(vi x1),(vi x2),(vi x3),(vs x4),(vi x5),(vi x6),(vb x7),(vb x8),(vi x9),(vi x10),(vb x11),(vb x12),(.p (.ls x13))])]
def qFr (x0 x1 x2 x3:Int) (x4:BA) (x5 x6:Int) (x7 x8:Bool) (x9 x10:Int) (x11 x12:Bool) (x13:RW):FR:= []
def qKP (r:Int×Int×Int×Int):Res:=⟨(.agg [(vi r.1),(vi r.2.1),(vi r.2.2.1),(vi r.2.2.2)]),[],[]⟩
abbrev qPT (n:Nat):zX:=zd []
abbrev qYn (n:Nat):za:=zN []
def qKQ (n:Nat) (x0 x1 x2 x3:Int) (x4:BA) (x5 x6:Int) (x7 x8:Bool) (x9 x10:Int) (x11 x12:Bool) (x13:RW):Tr (Int×Int×Int×Int):=(.ask ((x0==(2:Int))) (.done (x5,x6,x5,x6)) (.done (x5,x6,x9,x10)))
def qCT:Nat→Int→Int→Int→Int→BA→Int→Int→Bool→Bool→Int→Int→Bool→Bool→RW→Option (Int×Int×Int×Int)
 |0,_,_,_,_,_,_,_,_,_,_,_,_,_,_=>none
 |n+1,x0,x1,x2,x3,x4,x5,x6,x7,x8,x9,x10,x11,x12,x13=>(qKQ n x0 x1 x2 x3 x4 x5 x6 x7 x8 x9 x10 x11 x12 x13).run
theorem qYo (n:Nat) (x0 x1 x2 x3:Int) (x4:BA) (x5 x6:Int) (x7 x8:Bool) (x9 x10:Int) (x11 x12:Bool) (x13:RW):ze (qPT n) (qYn n) qFl (qFq x0 x1 x2 x3 x4 x5 x6 x7 x8 x9 x10 x11 x12 x13) (qFr x0 x1 x2 x3 x4 x5 x6 x7 x8 x9 x10 x11 x12 x13)=(qKQ n x0 x1 x2 x3 x4 x5 x6 x7 x8 x9 x10 x11 x12 x13).bind fun r=> .done (qKP r):=by kernel_rfl
theorem qYp (n:Nat):zW (qPT n) (Rn n):=zG
theorem qYq:∀(n:Nat) (x0 x1 x2 x3:Int) (x4:BA) (x5 x6:Int) (x7 x8:Bool) (x9 x10:Int) (x11 x12:Bool) (x13:RW) r,qCT n x0 x1 x2 x3 x4 x5 x6 x7 x8 x9 x10 x11 x12 x13=some r→Rn n 174 (qFq x0 x1 x2 x3 x4 x5 x6 x7 x8 x9 x10 x11 x12 x13) (qFr x0 x1 x2 x3 x4 x5 x6 x7 x8 x9 x10 x11 x12 x13)=some (qKP r)
 |0,x0,x1,x2,x3,x4,x5,x6,x7,x8,x9,x10,x11,x12,x13,r,h=>by cases h
 |n+1,x0,x1,x2,x3,x4,x5,x6,x7,x8,x9,x10,x11,x12,x13,r,h=>zH (kf:=qFl) rfl (qYp n) (zI rfl) (qYo n x0 x1 x2 x3 x4 x5 x6 x7 x8 x9 x10 x11 x12 x13) h
def qPU (n:Nat):zS→Option (Int×Int×Int×Int)
 |([[[.i x0],[.i x1],[.i x2],[.i x3],[.s x4],[.i x5],[.i x6],[.b x7],[.b x8],[.i x9],[.i x10],[.b x11],[.b x12],[.r x13]]],[])=>qCT n x0 x1 x2 x3 x4 x5 x6 x7 x8 x9 x10 x11 x12 x13
 |_=>none
def qQv (n:Nat) (d:ED):ED:=zR (qFq (0) (0) (0) (0) (⟨#[]⟩) (0) (0) (false) (false) (0) (0) (false) (false) ([])) (qFr (0) (0) (0) (0) (⟨#[]⟩) (0) (0) (false) (false) (0) (0) (false) (false) ([])) (qPU n) qKP d
theorem qYr (n:Nat) {d:ED} (hd:RK n 174 d):RK n 174 (qQv n d):=
 zF (fun hs r h=>by unfold qPU at h;split at h;exact ⟨qFq _ _ _ _ _ _ _ _ _ _ _ _ _ _,qFr _ _ _ _ _ _ _ _ _ _ _ _ _ _,rfl,rfl,qYq n _ _ _ _ _ _ _ _ _ _ _ _ _ _ r h⟩;cases h) hd
def qME (x0 x1 x2 x3:Int):List AV:= [(.agg [(vi x0),(vi x1),(vi x2),(vi x3)])]
def qMF (x0 x1 x2 x3:Int):FR:= []
def qRl (r:Bool):Res:=⟨(cb r),[],[]⟩
abbrev qWB (n:Nat):zX:=zd [(77,qOI n (zD))]
abbrev qdV (n:Nat):za:=zN []
def qRm (n:Nat) (x0 x1 x2 x3:Int):Tr (Bool):=(.opt (qCj n x0 x1) fun r408=>(.ask (r408) (.opt (qCj n x2 x3) fun r409=>(.ask (r409) (.ask ((decide (x0≤x2))) (.done (decide (x1≤x3))) (.done false)) (.done false))) (.done false)))
def qFY:Nat→Int→Int→Int→Int→Option (Bool)
 |0,_,_,_,_=>none
 |n+1,x0,x1,x2,x3=>(qRm n x0 x1 x2 x3).run
theorem qdW (n:Nat) (x0 x1 x2 x3:Int):ze (qWB n) (qdV n) qLp (qME x0 x1 x2 x3) (qMF x0 x1 x2 x3)=(qRm n x0 x1 x2 x3).bind fun r=> .done (qRl r):=by kernel_rfl
theorem qdX (n:Nat):zW (qWB n) (Rn n):=zA (qRa n (zB)) (zG)
theorem qdY:∀(n:Nat) (x0 x1 x2 x3:Int) r,qFY n x0 x1 x2 x3=some r→Rn n 173 (qME x0 x1 x2 x3) (qMF x0 x1 x2 x3)=some (qRl r)
 |0,x0,x1,x2,x3,r,h=>by cases h
 |n+1,x0,x1,x2,x3,r,h=>zH (kf:=qLp) rfl (qdX n) (zI rfl) (qdW n x0 x1 x2 x3) h
def qWC (n:Nat):zS→Option (Bool)
 |([[[.i x0],[.i x1],[.i x2],[.i x3]]],[])=>qFY n x0 x1 x2 x3
 |_=>none
def qYE (n:Nat) (d:ED):ED:=zR (qME (0) (0) (0) (0)) (qMF (0) (0) (0) (0)) (qWC n) qRl d
theorem qdZ (n:Nat) {d:ED} (hd:RK n 173 d):RK n 173 (qYE n d):=
 zF (fun hs r h=>by unfold qWC at h;split at h;exact ⟨qME _ _ _ _,qMF _ _ _ _,rfl,rfl,qdY n _ _ _ _ r h⟩;cases h) hd
def qDJ (x0 x1 x2 x3:Int) (x4:BA) (x5 x6:Int) (x7 x8:Bool) (x9 x10:Int) (x11 x12:Bool) (x13:RW):List AV:= [(.agg [(vi x0),(vi x1),(vi x2),(vi x3),(vs x4),(vi x5),(vi x6),(vb x7),(vb x8),(vi x9),(vi x10),(vb x11),(vb x12),(.p (.ls x13))])]
def qDK (x0 x1 x2 x3:Int) (x4:BA) (x5 x6:Int) (x7 x8:Bool) (x9 x10:Int) (x11 x12:Bool) (x13:RW):FR:= []
def qFi (r:Bool):Res:=⟨(cb r),[],[]⟩
abbrev qKR (n:Nat):zX:=zd [(174,qQv n (zD)),(173,qYE n (zD))]
abbrev qTB (n:Nat):za:=zN []
def qFj (n:Nat) (x0 x1 x2 x3:Int) (x4:BA) (x5 x6:Int) (x7 x8:Bool) (x9 x10:Int) (x11 x12:Bool) (x13:RW):Tr (Bool):=(.ask ((x0 !=(2:Int))) (.ask ((x0 !=(3:Int))) (.done true) (.opt (qCT n x0 x1 x2 x3 x4 x5 x6 x7 x8 x9 x10 x11 x12 x13) fun r407=>(.opt (qFY n r407.1 r407.2.1 r407.2.2.1 r407.2.2.2) fun r410=>(.done r410)))) (.opt (qCT n x0 x1 x2 x3 x4 x5 x6 x7 x8 x9 x10 x11 x12 x13) fun r411=>(.opt (qFY n r411.1 r411.2.1 r411.2.2.1 r411.2.2.2) fun r412=>(.done r412))))
def qp:Nat→Int→Int→Int→Int→BA→Int→Int→Bool→Bool→Int→Int→Bool→Bool→RW→Option (Bool)
 |0,_,_,_,_,_,_,_,_,_,_,_,_,_,_=>none
 |n+1,x0,x1,x2,x3,x4,x5,x6,x7,x8,x9,x10,x11,x12,x13=>(qFj n x0 x1 x2 x3 x4 x5 x6 x7 x8 x9 x10 x11 x12 x13).run
theorem qTC (n:Nat) (x0 x1 x2 x3:Int) (x4:BA) (x5 x6:Int) (x7 x8:Bool) (x9 x10:Int) (x11 x12:Bool) (x13:RW):ze (qKR n) (qTB n) qDE (qDJ x0 x1 x2 x3 x4 x5 x6 x7 x8 x9 x10 x11 x12 x13) (qDK x0 x1 x2 x3 x4 x5 x6 x7 x8 x9 x10 x11 x12 x13)=(qFj n x0 x1 x2 x3 x4 x5 x6 x7 x8 x9 x10 x11 x12 x13).bind fun r=> .done (qFi r):=by kernel_rfl
theorem qTD (n:Nat):zW (qKR n) (Rn n):=zA (qYr n (zB)) (zA (qdZ n (zB)) (zG))
theorem qTE:∀(n:Nat) (x0 x1 x2 x3:Int) (x4:BA) (x5 x6:Int) (x7 x8:Bool) (x9 x10:Int) (x11 x12:Bool) (x13:RW) r,qp n x0 x1 x2 x3 x4 x5 x6 x7 x8 x9 x10 x11 x12 x13=some r→Rn n 145 (qDJ x0 x1 x2 x3 x4 x5 x6 x7 x8 x9 x10 x11 x12 x13) (qDK x0 x1 x2 x3 x4 x5 x6 x7 x8 x9 x10 x11 x12 x13)=some (qFi r)
 |0,x0,x1,x2,x3,x4,x5,x6,x7,x8,x9,x10,x11,x12,x13,r,h=>by cases h
 |n+1,x0,x1,x2,x3,x4,x5,x6,x7,x8,x9,x10,x11,x12,x13,r,h=>zH (kf:=qDE) rfl (qTD n) (zI rfl) (qTC n x0 x1 x2 x3 x4 x5 x6 x7 x8 x9 x10 x11 x12 x13) h
def qKS (n:Nat):zS→Option (Bool)
 |([[[.i x0],[.i x1],[.i x2],[.i x3],[.s x4],[.i x5],[.i x6],[.b x7],[.b x8],[.i x9],[.i x10],[.b x11],[.b x12],[.r x13]]],[])=>qp n x0 x1 x2 x3 x4 x5 x6 x7 x8 x9 x10 x11 x12 x13
 |_=>none
def qKt (n:Nat) (d:ED):ED:=zR (qDJ (0) (0) (0) (0) (⟨#[]⟩) (0) (0) (false) (false) (0) (0) (false) (false) ([])) (qDK (0) (0) (0) (0) (⟨#[]⟩) (0) (0) (false) (false) (0) (0) (false) (false) ([])) (qKS n) qFi d
theorem qTF (n:Nat) {d:ED} (hd:RK n 145 d):RK n 145 (qKt n d):=
 zF (fun hs r h=>by unfold qKS at h;split at h;exact ⟨qDJ _ _ _ _ _ _ _ _ _ _ _ _ _ _,qDK _ _ _ _ _ _ _ _ _ _ _ _ _ _,rfl,rfl,qTE n _ _ _ _ _ _ _ _ _ _ _ _ _ _ r h⟩;cases h) hd
def qEA (x0 x1 x2 x3:Int) (x4:BA) (x5 x6:Int) (x7 x8:Bool) (x9 x10:Int) (x11 x12:Bool) (x13:RW):List AV:= [(.agg [(vi x0),(vi x1),(vi x2),(vi x3),(vs x4),(vi x5),(vi x6),(vb x7),(vb x8),(vi x9),(vi x10),(vb x11),(vb x12),(.p (.ls x13))])]
def qEB (x0 x1 x2 x3:Int) (x4:BA) (x5 x6:Int) (x7 x8:Bool) (x9 x10:Int) (x11 x12:Bool) (x13:RW):FR:= []
def qHW (r:Bool):Res:=⟨(cb r),[],[]⟩
abbrev qMe (n:Nat):zX:=zd [(48,qFX n (zD))]
abbrev qWD (n:Nat):za:=zN []
def qHX (n:Nat) (x0 x1 x2 x3:Int) (x4:BA) (x5 x6:Int) (x7 x8:Bool) (x9 x10:Int) (x11 x12:Bool) (x13:RW):Tr (Bool):=(.ask ((x0==(4:Int))) (.ask ((x1==(0:Int))) (.done ((x13.length:Int)==(1:Int))) (.done false)) (.ask ((x0==(5:Int))) (.opt (qAV n x1 (1:Int) (11:Int)) fun r414=>(.ask (r414) (.done ((x13.length:Int)==(2:Int))) (.done false))) (.ask ((x0==(6:Int))) (.opt (qAV n x1 (1:Int) (10:Int)) fun r415=>(.ask ((!r415)) (.done false) (.ask ((x1==(5:Int))) (.opt (qAV n (x13.length:Int) (2:Int) (3:Int)) fun r416=>(.done r416)) (.ask ((decide (x1≥(8:Int)))) (.done ((x13.length:Int)==(1:Int))) (.opt (qAV n (x13.length:Int) (1:Int) (10:Int)) fun r417=>(.done r417)))))) (.ask ((x1==(0:Int))) (.done ((x13.length:Int)==(0:Int))) (.done false)))))
def qAG:Nat→Int→Int→Int→Int→BA→Int→Int→Bool→Bool→Int→Int→Bool→Bool→RW→Option (Bool)
 |0,_,_,_,_,_,_,_,_,_,_,_,_,_,_=>none
 |n+1,x0,x1,x2,x3,x4,x5,x6,x7,x8,x9,x10,x11,x12,x13=>(qHX n x0 x1 x2 x3 x4 x5 x6 x7 x8 x9 x10 x11 x12 x13).run
theorem qWE (n:Nat) (x0 x1 x2 x3:Int) (x4:BA) (x5 x6:Int) (x7 x8:Bool) (x9 x10:Int) (x11 x12:Bool) (x13:RW):ze (qMe n) (qWD n) qD2 (qEA x0 x1 x2 x3 x4 x5 x6 x7 x8 x9 x10 x11 x12 x13) (qEB x0 x1 x2 x3 x4 x5 x6 x7 x8 x9 x10 x11 x12 x13)=(qHX n x0 x1 x2 x3 x4 x5 x6 x7 x8 x9 x10 x11 x12 x13).bind fun r=> .done (qHW r):=by kernel_rfl
theorem qWF (n:Nat):zW (qMe n) (Rn n):=zA (qGG n (zB)) (zG)
theorem qWG:∀(n:Nat) (x0 x1 x2 x3:Int) (x4:BA) (x5 x6:Int) (x7 x8:Bool) (x9 x10:Int) (x11 x12:Bool) (x13:RW) r,qAG n x0 x1 x2 x3 x4 x5 x6 x7 x8 x9 x10 x11 x12 x13=some r→Rn n 146 (qEA x0 x1 x2 x3 x4 x5 x6 x7 x8 x9 x10 x11 x12 x13) (qEB x0 x1 x2 x3 x4 x5 x6 x7 x8 x9 x10 x11 x12 x13)=some (qHW r)
 |0,x0,x1,x2,x3,x4,x5,x6,x7,x8,x9,x10,x11,x12,x13,r,h=>by cases h
 |n+1,x0,x1,x2,x3,x4,x5,x6,x7,x8,x9,x10,x11,x12,x13,r,h=>zH (kf:=qD2) rfl (qWF n) (zI rfl) (qWE n x0 x1 x2 x3 x4 x5 x6 x7 x8 x9 x10 x11 x12 x13) h
def qMf (n:Nat):zS→Option (Bool)
 |([[[.i x0],[.i x1],[.i x2],[.i x3],[.s x4],[.i x5],[.i x6],[.b x7],[.b x8],[.i x9],[.i x10],[.b x11],[.b x12],[.r x13]]],[])=>qAG n x0 x1 x2 x3 x4 x5 x6 x7 x8 x9 x10 x11 x12 x13
 |_=>none
def qNo (n:Nat) (d:ED):ED:=zR (qEA (0) (0) (0) (0) (⟨#[]⟩) (0) (0) (false) (false) (0) (0) (false) (false) ([])) (qEB (0) (0) (0) (0) (⟨#[]⟩) (0) (0) (false) (false) (0) (0) (false) (false) ([])) (qMf n) qHW d
theorem qWH (n:Nat) {d:ED} (hd:RK n 146 d):RK n 146 (qNo n d):=
 zF (fun hs r h=>by unfold qMf at h;split at h;exact ⟨qEA _ _ _ _ _ _ _ _ _ _ _ _ _ _,qEB _ _ _ _ _ _ _ _ _ _ _ _ _ _,rfl,rfl,qWG n _ _ _ _ _ _ _ _ _ _ _ _ _ _ r h⟩;cases h) hd
def qFF (x0 x1 x2 x3:Int) (x4:BA) (x5 x6:Int) (x7 x8:Bool) (x9 x10:Int) (x11 x12:Bool) (x13:RW):List AV:= [(.agg [(vi x0),(vi x1),(vi x2),(vi x3),(vs x4),(vi x5),(vi x6),(vb x7),(vb x8),(vi x9),(vi x10),(vb x11),(vb x12),(.p (.ls x13))])]
def qFG (x0 x1 x2 x3:Int) (x4:BA) (x5 x6:Int) (x7 x8:Bool) (x9 x10:Int) (x11 x12:Bool) (x13:RW):FR:= []
def qId (r:Bool):Res:=⟨(cb r),[],[]⟩
abbrev qNp (n:Nat):zX:=zd [(63,qJ8 n (zD)),(145,qKt n (zD)),(146,qNo n (zD))]
abbrev qXQ (n:Nat):za:=zN []
def qIe (n:Nat) (x0 x1 x2 x3:Int) (x4:BA) (x5 x6:Int) (x7 x8:Bool) (x9 x10:Int) (x11 x12:Bool) (x13:RW):Tr (Bool):=(.ask ((x0==(1:Int))) (.opt (qAK n x2 x3 x4) fun r406=>(.ask ((!r406)) (.done false) (.ask ((x2==(0:Int))) (.done false) (.ask ((x2==(1:Int))) (.ask ((decide (x3<(0:Int)))) (.done false) (.opt (qp n x0 x1 x2 x3 x4 x5 x6 x7 x8 x9 x10 x11 x12 x13) fun r413=>(.ask (r413) (.opt (qAG n x0 x1 x2 x3 x4 x5 x6 x7 x8 x9 x10 x11 x12 x13) fun r418=>(.ask (r418) (.ask (((x2==x2)&&((x3==x3)&&((x4.toList==x4.toList)&&true)))) (.ask ((((0:Int)==x5)&&(((0:Int)==x6)&&((false==x7)&&((false==x8)&&true))))) (.done (((0:Int)==x9)&&(((0:Int)==x10)&&((false==x11)&&((false==x12)&&true))))) (.done false)) (.done false)) (.done false))) (.done false)))) (.opt (qp n x0 x1 x2 x3 x4 x5 x6 x7 x8 x9 x10 x11 x12 x13) fun r419=>(.ask (r419) (.opt (qAG n x0 x1 x2 x3 x4 x5 x6 x7 x8 x9 x10 x11 x12 x13) fun r420=>(.ask (r420) (.ask (((x2==x2)&&((x3==x3)&&((x4.toList==x4.toList)&&true)))) (.ask ((((0:Int)==x5)&&(((0:Int)==x6)&&((false==x7)&&((false==x8)&&true))))) (.done (((0:Int)==x9)&&(((0:Int)==x10)&&((false==x11)&&((false==x12)&&true))))) (.done false)) (.done false)) (.done false))) (.done false))))))) (.ask ((x0==(2:Int))) (.opt (qp n x0 x1 x2 x3 x4 x5 x6 x7 x8 x9 x10 x11 x12 x13) fun r421=>(.ask (r421) (.opt (qAG n x0 x1 x2 x3 x4 x5 x6 x7 x8 x9 x10 x11 x12 x13) fun r422=>(.ask (r422) (.ask ((((0:Int)==x2)&&(((0:Int)==x3)&&(((⟨#[]⟩:BA).toList==x4.toList)&&true)))) (.ask (((x5==x5)&&((x6==x6)&&((x7==x7)&&((x8==x8)&&true))))) (.done (((0:Int)==x9)&&(((0:Int)==x10)&&((false==x11)&&((false==x12)&&true))))) (.done false)) (.done false)) (.done false))) (.done false))) (.ask ((x0==(3:Int))) (.opt (qp n x0 x1 x2 x3 x4 x5 x6 x7 x8 x9 x10 x11 x12 x13) fun r423=>(.ask (r423) (.opt (qAG n x0 x1 x2 x3 x4 x5 x6 x7 x8 x9 x10 x11 x12 x13) fun r424=>(.ask (r424) (.ask ((((0:Int)==x2)&&(((0:Int)==x3)&&(((⟨#[]⟩:BA).toList==x4.toList)&&true)))) (.ask (((x5==x5)&&((x6==x6)&&((x7==x7)&&((x8==x8)&&true))))) (.done ((x9==x9)&&((x10==x10)&&((x11==x11)&&((x12==x12)&&true))))) (.done false)) (.done false)) (.done false))) (.done false))) (.ask ((x0==(4:Int))) (.opt (qp n x0 x1 x2 x3 x4 x5 x6 x7 x8 x9 x10 x11 x12 x13) fun r425=>(.ask (r425) (.opt (qAG n x0 x1 x2 x3 x4 x5 x6 x7 x8 x9 x10 x11 x12 x13) fun r426=>(.ask (r426) (.ask ((((0:Int)==x2)&&(((0:Int)==x3)&&(((⟨#[]⟩:BA).toList==x4.toList)&&true)))) (.ask ((((0:Int)==x5)&&(((0:Int)==x6)&&((false==x7)&&((false==x8)&&true))))) (.done (((0:Int)==x9)&&(((0:Int)==x10)&&((false==x11)&&((false==x12)&&true))))) (.done false)) (.done false)) (.done false))) (.done false))) (.ask ((x0==(5:Int))) (.opt (qp n x0 x1 x2 x3 x4 x5 x6 x7 x8 x9 x10 x11 x12 x13) fun r427=>(.ask (r427) (.opt (qAG n x0 x1 x2 x3 x4 x5 x6 x7 x8 x9 x10 x11 x12 x13) fun r428=>(.ask (r428) (.ask ((((0:Int)==x2)&&(((0:Int)==x3)&&(((⟨#[]⟩:BA).toList==x4.toList)&&true)))) (.ask ((((0:Int)==x5)&&(((0:Int)==x6)&&((false==x7)&&((false==x8)&&true))))) (.done (((0:Int)==x9)&&(((0:Int)==x10)&&((false==x11)&&((false==x12)&&true))))) (.done false)) (.done false)) (.done false))) (.done false))) (.ask ((x0==(6:Int))) (.opt (qp n x0 x1 x2 x3 x4 x5 x6 x7 x8 x9 x10 x11 x12 x13) fun r429=>(.ask (r429) (.opt (qAG n x0 x1 x2 x3 x4 x5 x6 x7 x8 x9 x10 x11 x12 x13) fun r430=>(.ask (r430) (.ask ((((0:Int)==x2)&&(((0:Int)==x3)&&(((⟨#[]⟩:BA).toList==x4.toList)&&true)))) (.ask ((((0:Int)==x5)&&(((0:Int)==x6)&&((false==x7)&&((false==x8)&&true))))) (.done (((0:Int)==x9)&&(((0:Int)==x10)&&((false==x11)&&((false==x12)&&true))))) (.done false)) (.done false)) (.done false))) (.done false))) (.done false)))))))
def qC7:Nat→Int→Int→Int→Int→BA→Int→Int→Bool→Bool→Int→Int→Bool→Bool→RW→Option (Bool)
 |0,_,_,_,_,_,_,_,_,_,_,_,_,_,_=>none
 |n+1,x0,x1,x2,x3,x4,x5,x6,x7,x8,x9,x10,x11,x12,x13=>(qIe n x0 x1 x2 x3 x4 x5 x6 x7 x8 x9 x10 x11 x12 x13).run
theorem qXR (n:Nat) (x0 x1 x2 x3:Int) (x4:BA) (x5 x6:Int) (x7 x8:Bool) (x9 x10:Int) (x11 x12:Bool) (x13:RW):ze (qNp n) (qXQ n) qEg (qFF x0 x1 x2 x3 x4 x5 x6 x7 x8 x9 x10 x11 x12 x13) (qFG x0 x1 x2 x3 x4 x5 x6 x7 x8 x9 x10 x11 x12 x13)=(qIe n x0 x1 x2 x3 x4 x5 x6 x7 x8 x9 x10 x11 x12 x13).bind fun r=> .done (qId r):=by kernel_rfl
theorem qXS (n:Nat):zW (qNp n) (Rn n):=zA (qM8 n (zB)) (zA (qTF n (zB)) (zA (qWH n (zB)) (zG)))
theorem qXT:∀(n:Nat) (x0 x1 x2 x3:Int) (x4:BA) (x5 x6:Int) (x7 x8:Bool) (x9 x10:Int) (x11 x12:Bool) (x13:RW) r,qC7 n x0 x1 x2 x3 x4 x5 x6 x7 x8 x9 x10 x11 x12 x13=some r→Rn n 105 (qFF x0 x1 x2 x3 x4 x5 x6 x7 x8 x9 x10 x11 x12 x13) (qFG x0 x1 x2 x3 x4 x5 x6 x7 x8 x9 x10 x11 x12 x13)=some (qId r)
 |0,x0,x1,x2,x3,x4,x5,x6,x7,x8,x9,x10,x11,x12,x13,r,h=>by cases h
 |n+1,x0,x1,x2,x3,x4,x5,x6,x7,x8,x9,x10,x11,x12,x13,r,h=>zH (kf:=qEg) rfl (qXS n) (zI rfl) (qXR n x0 x1 x2 x3 x4 x5 x6 x7 x8 x9 x10 x11 x12 x13) h
def qNq (n:Nat):zS→Option (Bool)
 |([[[.i x0],[.i x1],[.i x2],[.i x3],[.s x4],[.i x5],[.i x6],[.b x7],[.b x8],[.i x9],[.i x10],[.b x11],[.b x12],[.r x13]]],[])=>qC7 n x0 x1 x2 x3 x4 x5 x6 x7 x8 x9 x10 x11 x12 x13
 |_=>none
def qPV (n:Nat) (d:ED):ED:=zR (qFF (0) (0) (0) (0) (⟨#[]⟩) (0) (0) (false) (false) (0) (0) (false) (false) ([])) (qFG (0) (0) (0) (0) (⟨#[]⟩) (0) (0) (false) (false) (0) (0) (false) (false) ([])) (qNq n) qId d
theorem qXU (n:Nat) {d:ED} (hd:RK n 105 d):RK n 105 (qPV n d):=
 zF (fun hs r h=>by unfold qNq at h;split at h;exact ⟨qFF _ _ _ _ _ _ _ _ _ _ _ _ _ _,qFG _ _ _ _ _ _ _ _ _ _ _ _ _ _,rfl,rfl,qXT n _ _ _ _ _ _ _ _ _ _ _ _ _ _ r h⟩;cases h) hd
def qDh (x0:RW) (x1 x2:Int):List AV:= [(.c (.p (.ls x0))),(ci x1),(ci x2)]
def qDi (x0:RW) (x1 x2:Int):FR:= []
def qGJ (r:Int):Res:=⟨(ci r),[],[]⟩
def qYF (rec:RW→Int→Int→Option (Int)):zS→Option (Int)
 |([[[.r x0]],[[.i x1]],[[.i x2]]],[])=>rec x0 x1 x2
 |_=>none
abbrev qTG (rec:RW→Int→Int→Option (Int)) (n:Nat):zX:=zd [(105,qPV n (zD)),(49,zR (qDh ([]) (0) (0)) (qDi ([]) (0) (0)) (fun hs=>qYF rec hs) qGJ (zD))]
def qPW (v:RW×Int×Int×Int×Int):St:=⟨[(0,(.c (.p (.ls v.1)))),(1,(ci v.2.1)),(2,(ci v.2.2.1)),(7,(ci v.2.2.2.1)),(8,(ci v.2.2.2.2))],[],[]⟩
def qAL (rec:RW→Int→Int→Option (Int)) (n:Nat) (v:RW×Int×Int×Int×Int):Tr ((RW×Int×Int×Int×Int)⊕((Int)⊕(Int))):=(.ask ((decide (v.2.2.2.2≥(0:Int)))) (.ask (decide (0≤v.2.1∧v.2.1<v.1.length)) (.opt (v.1[(v.2.1).toNat]?) fun e434=>(.ask (decide (e434.length=14)) (.opt (zBD e434 13) fun y435=>(.ask (decide (0≤v.2.2.2.2∧v.2.2.2.2<y435.length)) (.opt (y435[(v.2.2.2.2).toNat]?) fun e436=>(.ask (decide (e436.length=1)) (.opt (zU .i64 e436 0) fun y437=>(.ask ((y437 !=(IntKind.i64.wrap (v.2.2.2.1-(1:Int))))) (.done (.inr (.inl ((-1:Int))))) (.ask ((decide (y437<(0:Int)))) (.done (.inr (.inl ((-1:Int))))) (.ask (decide (0≤y437∧y437<v.1.length)) (.opt (v.1[(y437).toNat]?) fun e438=>(.ask (decide (e438.length=14)) (.opt (zU .i64 e438 0) fun y439=>(.ask ((y439==(3:Int))) (.ask (decide (0≤v.2.1∧v.2.1<v.1.length)) (.opt (v.1[(v.2.1).toNat]?) fun e440=>(.ask (decide (e440.length=14)) (.opt (zU .i64 e440 0) fun y441=>(.ask ((y441 !=(6:Int))) (.done (.inr (.inl ((-1:Int))))) (.opt (rec v.1 y437 (IntKind.i64.wrap (v.2.2.1+(1:Int)))) fun r442=>(.ask ((decide (r442<(0:Int)))) (.done (.inr (.inl ((-1:Int))))) (.done (.inl (v.1,v.2.1,v.2.2.1,r442,(IntKind.i64.wrap (v.2.2.2.2-(1:Int)))))))))) .fail)) .fail) (.opt (rec v.1 y437 (IntKind.i64.wrap (v.2.2.1+(1:Int)))) fun r443=>(.ask ((decide (r443<(0:Int)))) (.done (.inr (.inl ((-1:Int))))) (.done (.inl (v.1,v.2.1,v.2.2.1,r443,(IntKind.i64.wrap (v.2.2.2.2-(1:Int)))))))))) .fail)) .fail)))) .fail)) .fail)) .fail)) .fail) (.done (.inr (.inr (v.2.2.2.1)))))
def qPX:((Int)⊕(Int))→Ex×St:=fun| .inl r=>(.ret,⟨[(6,(ci r))],[],[]⟩)| .inr r=>(fun r=>((.exit 0),⟨[(7,(ci r))],[],[]⟩)) r
def qcK:((Int)⊕(Int))→Tr (Ex×St):=fun r=> .alt r (fun r=> .done (qPX (.inl r))) (fun r=> .done (qPX (.inr r)))
def qUG:zw→Option (RW×Int×Int×Int×Int)
 |([[[.r w0]],[[.i w1]],[[.i w2]],[[.i w3]],[[.i w4]]],[],[])=>some (w0,w1,w2,w3,w4)
 |_=>none
abbrev qUH (rec:RW→Int→Int→Option (Int)) (n:Nat):St→Tr (Ex×St):=zp (qPW ([],0,0,0,0)) qUG (qAL rec n) qcK n
abbrev qZy (rec:RW→Int→Int→Option (Int)) (n:Nat):za:=zN [(61,qUH rec n)]
def qMg (rec:RW→Int→Int→Option (Int)) (n:Nat) (x0:RW) (x1 x2:Int):Tr (Int):=(.ask ((decide (x1<(0:Int)))) (.done (-1:Int)) (.ask ((decide (x2≥(12:Int)))) (.done (-1:Int)) (.ask (decide (0≤x1∧x1<x0.length)) (.opt (x0[(x1).toNat]?) fun e391=>(.ask (decide (e391.length=14)) (.opt (zU .i64 e391 0) fun y392=>(.opt (zU .i64 e391 1) fun y393=>(.opt (zU .i64 e391 2) fun y394=>(.opt (zU .i64 e391 3) fun y395=>(.opt (zAv e391 4) fun y396=>(.opt (zU .i64 e391 5) fun y397=>(.opt (zU .i64 e391 6) fun y398=>(.opt (zAd e391 7) fun y399=>(.opt (zAd e391 8) fun y400=>(.opt (zU .i64 e391 9) fun y401=>(.opt (zU .i64 e391 10) fun y402=>(.opt (zAd e391 11) fun y403=>(.opt (zAd e391 12) fun y404=>(.opt (zBD e391 13) fun y405=>(.opt (qC7 n y392 y393 y394 y395 y396 y397 y398 y399 y400 y401 y402 y403 y404 y405) fun r431=>(.ask ((!r431)) (.done (-1:Int)) (.ask (decide (0≤x1∧x1<x0.length)) (.opt (x0[(x1).toNat]?) fun e432=>(.ask (decide (e432.length=14)) (.opt (zBD e432 13) fun y433=>(.opt (zL (qAL rec n) n (x0,x1,x2,x1,(IntKind.i64.wrap ((y433.length:Int)-(1:Int))))) fun r444=>(.alt r444 (fun r445=>(.done r445)) (fun r446=>(.done r446))))) .fail)) .fail))))))))))))))))) .fail)) .fail)))
def qAB:Nat→RW→Int→Int→Option (Int)
 |0,_,_,_=>none
 |n+1,x0,x1,x2=>(qMg (qAB n) n x0 x1 x2).run
theorem qew (rec:RW→Int→Int→Option (Int)) (n:Nat) (x0:RW) (x1 x2:Int):ze (qTG rec n) (qZy rec n) qMH (qDh x0 x1 x2) (qDi x0 x1 x2)=(qMg rec n x0 x1 x2).bind fun r=> .done (qGJ r):=by kernel_rfl
theorem qZz (n:Nat) (ih:∀(x0:RW) (x1 x2:Int) r,qAB n x0 x1 x2=some r→Rn n 49 (qDh x0 x1 x2) (qDi x0 x1 x2)=some (qGJ r)):zW (qTG (qAB n) n) (Rn n):=zA (qXU n (zB)) (zA (zF (fun hs r h=>by
  unfold qYF at h
  split at h
  ·exact ⟨qDh _ _ _,qDi _ _ _,rfl,rfl,ih _ _ _ r h⟩
  ·cases h) (zB)) (zG))
theorem qcL (n:Nat) (v:RW×Int×Int×Int×Int):(zf (qTG (qAB n) n) (zN []) qMr (qPW v) []).bind (zx [0,1,2,7,8] [(.ret,[6]),((.exit 0),[7])])=(qAL (qAB n) n v).bind (zAQ qPW qPX):=by
 obtain ⟨w0,w1,w2,w3,w4⟩:=v
 kernel_rfl
theorem qcM (n:Nat) (ih:∀(x0:RW) (x1 x2:Int) r,qAB n x0 x1 x2=some r→Rn n 49 (qDh x0 x1 x2) (qDi x0 x1 x2)=some (qGJ r)):zAX (Rn n) n (61,[0,1,2,7,8],[(.ret,[6]),((.exit 0),[7])],qMr) (qUH (qAB n) n):=fun st e s h=>
 zh (qZz n ih) (zI rfl) (qcL n) (fun r=>by
  rcases r with r|r<;>(intro h;cases h)) (fun r y h=>by
  rcases r with r|r<;>(cases h;rfl)) (fun hs v h=>by
  unfold qUG at h
  split at h<;>cases h
  rfl) h
theorem qex (n:Nat) (ih:∀(x0:RW) (x1 x2:Int) r,qAB n x0 x1 x2=some r→Rn n 49 (qDh x0 x1 x2) (qDi x0 x1 x2)=some (qGJ r)):zAK (qZy (qAB n) n) (Rn n) n qMH.body:=lt1 rfl (qcM n ih)
theorem qTH:∀(n:Nat) (x0:RW) (x1 x2:Int) r,qAB n x0 x1 x2=some r→Rn n 49 (qDh x0 x1 x2) (qDi x0 x1 x2)=some (qGJ r)
 |0,x0,x1,x2,r,h=>by cases h
 |n+1,x0,x1,x2,r,h=>zH (kf:=qMH) rfl (qZz n (qTH n)) (qex n (qTH n)) (qew (qAB n) n x0 x1 x2) h
def qZ0 (n:Nat):zS→Option (Int)
 |([[[.r x0]],[[.i x1]],[[.i x2]]],[])=>qAB n x0 x1 x2
 |_=>none
def qbI (n:Nat) (d:ED):ED:=zR (qDh ([]) (0) (0)) (qDi ([]) (0) (0)) (qZ0 n) qGJ d
theorem qey (n:Nat) {d:ED} (hd:RK n 49 d):RK n 49 (qbI n d):=
 zF (fun hs r h=>by unfold qZ0 at h;split at h;exact ⟨qDh _ _ _,qDi _ _ _,rfl,rfl,qTH n _ _ _ r h⟩;cases h) hd
def qG3 (x0:RW):List AV:= [(.c (.p (.ls x0)))]
def qG4 (x0:RW):FR:= []
def qLa (r:Bool):Res:=⟨(cb r),[],[]⟩
abbrev qQw (n:Nat):zX:=zd [(48,qFX n (zD)),(49,qbI n (zD))]
abbrev qZ1 (n:Nat):za:=zN []
def qEV (n:Nat) (x0:RW):Tr (Bool):=(.opt (qAV n (x0.length:Int) (1:Int) (60:Int)) fun r388=>(.ask (r388) (.ask (decide (0≤(IntKind.i64.wrap ((x0.length:Int)-(1:Int)))∧(IntKind.i64.wrap ((x0.length:Int)-(1:Int)))<x0.length)) (.opt (x0[((IntKind.i64.wrap ((x0.length:Int)-(1:Int)))).toNat]?) fun e389=>(.ask (decide (e389.length=14)) (.opt (zU .i64 e389 0) fun y390=>(.ask ((y390 !=(3:Int))) (.opt (qAB n x0 (IntKind.i64.wrap ((x0.length:Int)-(1:Int))) (0:Int)) fun r447=>(.done (r447==(0:Int)))) (.done false))) .fail)) .fail) (.done false)))
def qBg:Nat→RW→Option (Bool)
 |0,_=>none
 |n+1,x0=>(qEV n x0).run
theorem qZ2 (n:Nat) (x0:RW):ze (qQw n) (qZ1 n) qGQ (qG3 x0) (qG4 x0)=(qEV n x0).bind fun r=> .done (qLa r):=by kernel_rfl
theorem qZ3 (n:Nat):zW (qQw n) (Rn n):=zA (qGG n (zB)) (zA (qey n (zB)) (zG))
theorem qZ4:∀(n:Nat) (x0:RW) r,qBg n x0=some r→Rn n 18 (qG3 x0) (qG4 x0)=some (qLa r)
 |0,x0,r,h=>by cases h
 |n+1,x0,r,h=>zH (kf:=qGQ) rfl (qZ3 n) (zI rfl) (qZ2 n x0) h
def qQx (n:Nat):zS→Option (Bool)
 |([[[.r x0]]],[])=>qBg n x0
 |_=>none
def qLb (n:Nat) (d:ED):ED:=zR (qG3 ([])) (qG4 ([])) (qQx n) qLa d
theorem qQy (n:Nat) {d:ED} (hd:RK n 18 d):RK n 18 (qLb n d):=
 zF (fun hs r h=>by unfold qQx at h;split at h;exact ⟨qG3 _,qG4 _,rfl,rfl,qZ4 n _ r h⟩;cases h) hd
def qFH (x0:BA):List AV:= [(cs x0)]
def qFI (x0:BA):FR:= []
def qIf (r:RW×Bool):Res:=⟨(.tup [(false,[(.p (.ls r.1))]),(false,[(vb r.2)])]),[],[]⟩
abbrev qNr (n:Nat):zX:=zd [(35,qL4 n (zD)),(36,qMd n (zD)),(37,qCI n (zD)),(18,qLb n (zD))]
abbrev qXV (n:Nat):za:=zN []
def qPY (n:Nat) (x0:BA):Tr (RW×Bool):=(.opt (qDw n x0 (200:Int)) fun r245=>(.ask ((!r245)) (.ask (decide (0=([]:RW).length)) (.done (([]:RW),false)) .fail) (.opt (qCJ n (1:Int) (0:Int) x0 (0:Nat) false ([]:RW)) fun r386=>(.opt (qAk n r386.2.1 r386.2.2.1 r386.2.2.2.1 r386.2.2.2.2) fun r387=>(.ask (r387.2.2.1) (.ask (decide (0=([]:RW).length)) (.done (([]:RW),false)) .fail) (.ask ((!(r387.1.toList==(⟨#[]⟩:BA).toList))) (.ask (decide (0=([]:RW).length)) (.done (([]:RW),false)) .fail) (.ask (decide (r387.2.1=r387.2.2.2.length)) (.opt (qBg n r387.2.2.2) fun r448=>(.ask (zBT (⟨(.c (.p (.b r448))),[],[]⟩:Res)) (.ask ((!r448)) (.ask (decide (0=([]:RW).length)) (.done (([]:RW),false)) .fail) (.ask (decide (r387.2.1=r387.2.2.2.length)) (.done (r387.2.2.2,true)) .fail)) .fail)) .fail)))))))
def qFJ:Nat→BA→Option (RW×Bool)
 |0,_=>none
 |n+1,x0=>(qPY n x0).run
theorem qXW (n:Nat) (x0:BA):ze (qNr n) (qXV n) qEa (qFH x0) (qFI x0)=(qPY n x0).bind fun r=> .done (qIf r):=by kernel_rfl
theorem qXX (n:Nat):zW (qNr n) (Rn n):=zA (qO8 n (zB)) (zA (qUp n (zB)) (zA (qDG n (zB)) (zA (qQy n (zB)) (zG))))
theorem qXY:∀(n:Nat) (x0:BA) r,qFJ n x0=some r→Rn n 10 (qFH x0) (qFI x0)=some (qIf r)
 |0,x0,r,h=>by cases h
 |n+1,x0,r,h=>zH (kf:=qEa) rfl (qXX n) (zI rfl) (qXW n x0) h
def qNs (n:Nat):zS→Option (RW×Bool)
 |([[[.s x0]]],[])=>qFJ n x0
 |_=>none
def qPZ (n:Nat) (d:ED):ED:=zR (qFH (⟨#[]⟩)) (qFI (⟨#[]⟩)) (qNs n) qIf d
theorem qXZ (n:Nat) {d:ED} (hd:RK n 10 d):RK n 10 (qPZ n d):=
 zF (fun hs r h=>by unfold qNs at h;split at h;exact ⟨qFH _,qFI _,rfl,rfl,qXY n _ r h⟩;cases h) hd
def qGK (x0 x1 x2:BA):List AV:= [(cs x0),(cs x1),(cs x2)]
def qGL (x0 x1 x2:BA):FR:= []
def qMh (r:(BA)):Res:=⟨(cs r),[],[]⟩
def qDj:Nat→BA→BA→BA→Option ((BA))
 |0,_,_,_=>none
 |n+1,x0,x1,x2=>zq x0 x1 x2
theorem qUq:∀(n:Nat) (x0 x1 x2:BA) r,qDj n x0 x1 x2=some r→Rn n 101 (qGK x0 x1 x2) (qGL x0 x1 x2)=some (qMh r)
 |0,x0,x1,x2,r,h=>by cases h
 |n+1,x0,x1,x2,r,h=>by
  have h:zq x0 x1 x2=some r:=h
  exact zA2 rfl (congrArg (Option.map fun r:(BA)=>((.c (.p (.s r))):AV)) h)
def qKu (n:Nat):zS→Option ((BA))
 |([[[.s x0]],[[.s x1]],[[.s x2]]],[])=>qDj n x0 x1 x2
 |_=>none
def qMi (n:Nat) (d:ED):ED:=zR (qGK (⟨#[]⟩) (⟨#[]⟩) (⟨#[]⟩)) (qGL (⟨#[]⟩) (⟨#[]⟩) (⟨#[]⟩)) (qKu n) qMh d
theorem qUr (n:Nat) {d:ED} (hd:RK n 101 d):RK n 101 (qMi n d):=
 zF (fun hs r h=>by unfold qKu at h;split at h;exact ⟨qGK _ _ _,qGL _ _ _,rfl,rfl,qUq n _ _ _ r h⟩;cases h) hd
def qPa (x0:RW) (x1:BA):List AV:= [(.c (.p (.ls x0))),(cs x1)]
def qPb (x0:RW) (x1:BA):FR:= []
def qWI (r:(BA)):Res:=⟨(cs r),[],[]⟩
def qKT:Nat→RW→BA→Option ((BA))
 |0,_,_=>none
 |n+1,x0,x1=>zAg x0 x1
theorem qcN:∀(n:Nat) (x0:RW) (x1:BA) r,qKT n x0 x1=some r→Rn n 104 (qPa x0 x1) (qPb x0 x1)=some (qWI r)
 |0,x0,x1,r,h=>by cases h
 |n+1,x0,x1,r,h=>by
  have h:zAg x0 x1=some r:=h
  exact zA2 rfl (congrArg (Option.map fun r:(BA)=>((.c (.p (.s r))):AV)) h)
def qUI (n:Nat):zS→Option ((BA))
 |([[[.r x0]],[[.s x1]]],[])=>qKT n x0 x1
 |_=>none
def qWJ (n:Nat) (d:ED):ED:=zR (qPa ([]) (⟨#[]⟩)) (qPb ([]) (⟨#[]⟩)) (qUI n) qWI d
theorem qcO (n:Nat) {d:ED} (hd:RK n 104 d):RK n 104 (qWJ n d):=
 zF (fun hs r h=>by unfold qUI at h;split at h;exact ⟨qPa _ _,qPb _ _,rfl,rfl,qcN n _ _ r h⟩;cases h) hd
def qAm (x0:RW) (x1 x2:Int):List AV:= [(.c (.p (.ls x0))),(ci x1),(ci x2)]
def qAn (x0:RW) (x1 x2:Int):FR:= []
def qBY (r:BA):Res:=⟨(cs r),[],[]⟩
def qMj (rec:RW→Int→Int→Option (BA)):zS→Option (BA)
 |([[[.r x0]],[[.i x1]],[[.i x2]]],[])=>rec x0 x1 x2
 |_=>none
abbrev qHY (rec:RW→Int→Int→Option (BA)) (n:Nat):zX:=zd [(101,qMi n (zD)),(72,qLS n (zD)),(102,qLW n (zD)),(47,zR (qAm ([]) (0) (0)) (qAn ([]) (0) (0)) (fun hs=>qMj rec hs) qBY (zD)),(87,qS7 n (zD)),(86,qRg n (zD)),(103,qRd n (zD)),(104,qWJ n (zD))]
def qFK (v:RW×Nat×RW×Int×Int×Int×Int×Int×Int×BA×Int×Int×Bool×Bool×Int×Int×Bool×Bool×RW×RW):St:=⟨[(0,(.c (.p (.ls v.1)))),(7,(.c (.ptr 0 448 0 0 0))),(10,(.c (.own 0 5760 0 v.2.1))),(92,(.c (.p (.ls v.2.2.1)))),(93,(ci v.2.2.2.1)),(94,(ci v.2.2.2.2.1))],[(448,⟨0,14,64,(.box [(vi v.2.2.2.2.2.1),(vi v.2.2.2.2.2.2.1),(vi v.2.2.2.2.2.2.2.1),(vi v.2.2.2.2.2.2.2.2.1),(vs v.2.2.2.2.2.2.2.2.2.1),(vi v.2.2.2.2.2.2.2.2.2.2.1),(vi v.2.2.2.2.2.2.2.2.2.2.2.1),(vb v.2.2.2.2.2.2.2.2.2.2.2.2.1),(vb v.2.2.2.2.2.2.2.2.2.2.2.2.2.1),(vi v.2.2.2.2.2.2.2.2.2.2.2.2.2.2.1),(vi v.2.2.2.2.2.2.2.2.2.2.2.2.2.2.2.1),(vb v.2.2.2.2.2.2.2.2.2.2.2.2.2.2.2.2.1),(vb v.2.2.2.2.2.2.2.2.2.2.2.2.2.2.2.2.2.1),(.p (.ls v.2.2.2.2.2.2.2.2.2.2.2.2.2.2.2.2.2.2.1))])⟩),(5760,⟨0,1,9,(.row v.2.2.2.2.2.2.2.2.2.2.2.2.2.2.2.2.2.2.2)⟩)],[]⟩
def qBG (rec:RW→Int→Int→Option (BA)) (n:Nat) (v:RW×Nat×RW×Int×Int×Int×Int×Int×Int×BA×Int×Int×Bool×Bool×Int×Int×Bool×Bool×RW×RW):Tr ((RW×Nat×RW×Int×Int×Int×Int×Int×Int×BA×Int×Int×Bool×Bool×Int×Int×Bool×Bool×RW×RW)⊕((Nat×Int×Int×Int×Int×BA×Int×Int×Bool×Bool×Int×Int×Bool×Bool×RW×RW))):=(.ask ((decide (v.2.2.2.2.1<v.2.2.2.1))) (.ask (decide (0≤v.2.2.2.2.1∧v.2.2.2.2.1<v.2.2.1.length)) (.opt (v.2.2.1[(v.2.2.2.2.1).toNat]?) fun e482=>(.ask (decide (e482.length=1)) (.opt (zU .i64 e482 0) fun y483=>(.opt (rec v.1 y483 (1:Int)) fun r484=>(.ask (decide (1=([[(.s r484)]]:RW).length)) (.ask (decide (v.2.1=v.2.2.2.2.2.2.2.2.2.2.2.2.2.2.2.2.2.2.2.length∧0<1∧0<16∧(v.2.1+([[(.s r484)]]:RW).length)*16≤140737488355328∧([[(.s r484)]]:RW).all (fun e=>e.length==1)=true)) (.done (.inl (v.1,(v.2.1+1),v.2.2.1,v.2.2.2.1,(IntKind.i64.wrap (v.2.2.2.2.1+(1:Int))),v.2.2.2.2.2.1,v.2.2.2.2.2.2.1,v.2.2.2.2.2.2.2.1,v.2.2.2.2.2.2.2.2.1,v.2.2.2.2.2.2.2.2.2.1,v.2.2.2.2.2.2.2.2.2.2.1,v.2.2.2.2.2.2.2.2.2.2.2.1,v.2.2.2.2.2.2.2.2.2.2.2.2.1,v.2.2.2.2.2.2.2.2.2.2.2.2.2.1,v.2.2.2.2.2.2.2.2.2.2.2.2.2.2.1,v.2.2.2.2.2.2.2.2.2.2.2.2.2.2.2.1,v.2.2.2.2.2.2.2.2.2.2.2.2.2.2.2.2.1,v.2.2.2.2.2.2.2.2.2.2.2.2.2.2.2.2.2.1,v.2.2.2.2.2.2.2.2.2.2.2.2.2.2.2.2.2.2.1,(v.2.2.2.2.2.2.2.2.2.2.2.2.2.2.2.2.2.2.2++([[(.s r484)]]:RW))))) .fail) .fail))) .fail)) .fail) (.done (.inr ((v.2.1,v.2.2.2.2.2.1,v.2.2.2.2.2.2.1,v.2.2.2.2.2.2.2.1,v.2.2.2.2.2.2.2.2.1,v.2.2.2.2.2.2.2.2.2.1,v.2.2.2.2.2.2.2.2.2.2.1,v.2.2.2.2.2.2.2.2.2.2.2.1,v.2.2.2.2.2.2.2.2.2.2.2.2.1,v.2.2.2.2.2.2.2.2.2.2.2.2.2.1,v.2.2.2.2.2.2.2.2.2.2.2.2.2.2.1,v.2.2.2.2.2.2.2.2.2.2.2.2.2.2.2.1,v.2.2.2.2.2.2.2.2.2.2.2.2.2.2.2.2.1,v.2.2.2.2.2.2.2.2.2.2.2.2.2.2.2.2.2.1,v.2.2.2.2.2.2.2.2.2.2.2.2.2.2.2.2.2.2.1,v.2.2.2.2.2.2.2.2.2.2.2.2.2.2.2.2.2.2.2)))))
def qKU:(Nat×Int×Int×Int×Int×BA×Int×Int×Bool×Bool×Int×Int×Bool×Bool×RW×RW)→Ex×St:=fun r=>((.exit 1),⟨[(7,(.c (.ptr 0 448 0 0 0))),(10,(.c (.own 0 5760 0 r.1)))],[(448,⟨0,14,64,(.box [(vi r.2.1),(vi r.2.2.1),(vi r.2.2.2.1),(vi r.2.2.2.2.1),(vs r.2.2.2.2.2.1),(vi r.2.2.2.2.2.2.1),(vi r.2.2.2.2.2.2.2.1),(vb r.2.2.2.2.2.2.2.2.1),(vb r.2.2.2.2.2.2.2.2.2.1),(vi r.2.2.2.2.2.2.2.2.2.2.1),(vi r.2.2.2.2.2.2.2.2.2.2.2.1),(vb r.2.2.2.2.2.2.2.2.2.2.2.2.1),(vb r.2.2.2.2.2.2.2.2.2.2.2.2.2.1),(.p (.ls r.2.2.2.2.2.2.2.2.2.2.2.2.2.2.1))])⟩),(5760,⟨0,1,9,(.row r.2.2.2.2.2.2.2.2.2.2.2.2.2.2.2)⟩)],[]⟩)
def qSY:(Nat×Int×Int×Int×Int×BA×Int×Int×Bool×Bool×Int×Int×Bool×Bool×RW×RW)→Tr (Ex×St):=fun r=> .done (qKU r)
def qIz:zw→Option (RW×Nat×RW×Int×Int×Int×Int×Int×Int×BA×Int×Int×Bool×Bool×Int×Int×Bool×Bool×RW×RW)
 |([[[.r w0]],[[]],[[.n w1]],[[.r w2]],[[.i w3]],[[.i w4]]],[[[.i w5],[.i w6],[.i w7],[.i w8],[.s w9],[.i w10],[.i w11],[.b w12],[.b w13],[.i w14],[.i w15],[.b w16],[.b w17],[.r w18]],[[.r w19]]],[])=>some (w0,w1,w2,w3,w4,w5,w6,w7,w8,w9,w10,w11,w12,w13,w14,w15,w16,w17,w18,w19)
 |_=>none
abbrev qI0 (rec:RW→Int→Int→Option (BA)) (n:Nat):St→Tr (Ex×St):=zp (qFK ([],0,[],0,0,0,0,0,0,⟨#[]⟩,0,0,false,false,0,0,false,false,[],[])) qIz (qBG rec n) qSY n
abbrev qNt (rec:RW→Int→Int→Option (BA)) (n:Nat):za:=zN [(125,qI0 rec n)]
def qAo (rec:RW→Int→Int→Option (BA)) (n:Nat) (x0:RW) (x1 x2:Int):Tr (BA):=(.ask (decide (0≤x1∧x1<x0.length)) (.opt (x0[(x1).toNat]?) fun e451=>(.ask (decide (e451.length=14)) (.opt (zU .i64 e451 0) fun y452=>(.opt (zU .i64 e451 1) fun y453=>(.opt (zU .i64 e451 2) fun y454=>(.opt (zU .i64 e451 3) fun y455=>(.opt (zAv e451 4) fun y456=>(.opt (zU .i64 e451 5) fun y457=>(.opt (zU .i64 e451 6) fun y458=>(.opt (zAd e451 7) fun y459=>(.opt (zAd e451 8) fun y460=>(.opt (zU .i64 e451 9) fun y461=>(.opt (zU .i64 e451 10) fun y462=>(.opt (zAd e451 11) fun y463=>(.opt (zAd e451 12) fun y464=>(.opt (zBD e451 13) fun y465=>(.ask ((y452==(1:Int))) (.ask ((y454==(2:Int))) (.opt (qDj n y456 (⟨#[34]⟩:BA) (⟨#[34,34]⟩:BA)) fun r466=>(.ask (decide ((⟨#[34]⟩:BA).size+r466.size≤9223372036854775807)) (.ask (decide (((⟨#[34]⟩:BA)++r466).size+(⟨#[34]⟩:BA).size≤9223372036854775807)) (.done (((⟨#[34]⟩:BA)++r466)++(⟨#[34]⟩:BA))) .fail) .fail)) (.opt (ql n y454 y455 y456) fun r467=>(.done r467))) (.ask ((y452==(2:Int))) (.opt (qAx n y457 y458 y459 y460) fun r468=>(.done r468)) (.ask ((y452==(3:Int))) (.opt (qAx n y457 y458 y459 y460) fun r469=>(.ask (decide (r469.size+(⟨#[58]⟩:BA).size≤9223372036854775807)) (.opt (qAx n y461 y462 y463 y464) fun r470=>(.ask (decide ((r469++(⟨#[58]⟩:BA)).size+r470.size≤9223372036854775807)) (.done ((r469++(⟨#[58]⟩:BA))++r470)) .fail)) .fail)) (.ask ((y452==(4:Int))) (.ask (decide (0≤(0:Int)∧(0:Int)<y465.length)) (.opt (y465[((0:Int)).toNat]?) fun e471=>(.ask (decide (e471.length=1)) (.opt (zU .i64 e471 0) fun y472=>(.opt (rec x0 y472 (5:Int)) fun r473=>(.ask (decide ((⟨#[45]⟩:BA).size+r473.size≤9223372036854775807)) (.done ((⟨#[45]⟩:BA)++r473)) .fail))) .fail)) .fail) (.ask ((y452==(5:Int))) (.opt (qE6 n y453) fun r474=>(.ask (decide (0≤(0:Int)∧(0:Int)<y465.length)) (.opt (y465[((0:Int)).toNat]?) fun e475=>(.ask (decide (e475.length=1)) (.opt (zU .i64 e475 0) fun y476=>(.ask (decide (0≤(1:Int)∧(1:Int)<y465.length)) (.opt (y465[((1:Int)).toNat]?) fun e477=>(.ask (decide (e477.length=1)) (.opt (zU .i64 e477 0) fun y478=>(.opt (rec x0 y476 r474) fun r479=>(.opt (qBP n y453) fun r480=>(.ask (decide (r479.size+r480.size≤9223372036854775807)) (.opt (rec x0 y478 (IntKind.i64.wrap (r474+(1:Int)))) fun r481=>(.ask (decide ((r479++r480).size+r481.size≤9223372036854775807)) (.ask ((decide (r474<x2))) (.ask (decide ((⟨#[40]⟩:BA).size+((r479++r480)++r481).size≤9223372036854775807)) (.ask (decide (((⟨#[40]⟩:BA)++((r479++r480)++r481)).size+(⟨#[41]⟩:BA).size≤9223372036854775807)) (.done (((⟨#[40]⟩:BA)++((r479++r480)++r481))++(⟨#[41]⟩:BA))) .fail) .fail) (.done ((r479++r480)++r481))) .fail)) .fail)))) .fail)) .fail)) .fail)) .fail)) (.opt (zL (qBG rec n) n (x0,(0:Nat),y465,(y465.length:Int),(0:Int),y452,y453,y454,y455,y456,y457,y458,y459,y460,y461,y462,y463,y464,y465,([]:RW))) fun r485=>(.opt (qCB n r485.2.2.1) fun r486=>(.ask (decide (r486.size+(⟨#[40]⟩:BA).size≤9223372036854775807)) (.ask (decide (r485.1=r485.2.2.2.2.2.2.2.2.2.2.2.2.2.2.2.length)) (.opt (qKT n r485.2.2.2.2.2.2.2.2.2.2.2.2.2.2.2 (⟨#[44]⟩:BA)) fun r487=>(.ask (zBT (⟨(.c (.p (.s r487))),[],[]⟩:Res)) (.ask (decide ((r486++(⟨#[40]⟩:BA)).size+r487.size≤9223372036854775807)) (.ask (decide (((r486++(⟨#[40]⟩:BA))++r487).size+(⟨#[41]⟩:BA).size≤9223372036854775807)) (.done (((r486++(⟨#[40]⟩:BA))++r487)++(⟨#[41]⟩:BA))) .fail) .fail) .fail)) .fail) .fail)))))))))))))))))))))) .fail)) .fail)
def qQ:Nat→RW→Int→Int→Option (BA)
 |0,_,_,_=>none
 |n+1,x0,x1,x2=>(qAo (qQ n) n x0 x1 x2).run
theorem qXa (rec:RW→Int→Int→Option (BA)) (n:Nat) (x0:RW) (x1 x2:Int):ze (qHY rec n) (qNt rec n) qCx (qAm x0 x1 x2) (qAn x0 x1 x2)=(qAo rec n x0 x1 x2).bind fun r=> .done (qBY r):=by kernel_rfl
theorem qNu (n:Nat) (ih:∀(x0:RW) (x1 x2:Int) r,qQ n x0 x1 x2=some r→Rn n 47 (qAm x0 x1 x2) (qAn x0 x1 x2)=some (qBY r)):zW (qHY (qQ n) n) (Rn n):=zA (qUr n (zB)) (zA (qQk n (zB)) (zA (qQr n (zB)) (zA (zF (fun hs r h=>by
  unfold qMj at h
  split at h
  ·exact ⟨qAm _ _ _,qAn _ _ _,rfl,rfl,ih _ _ _ r h⟩
  ·cases h) (zB)) (zA (qYD n (zB)) (zA (qV7 n (zB)) (zA (qV4 n (zB)) (zA (qcO n (zB)) (zG))))))))
set_option maxHeartbeats 4000000 in
theorem qSZ (n:Nat) (v:RW×Nat×RW×Int×Int×Int×Int×Int×Int×BA×Int×Int×Bool×Bool×Int×Int×Bool×Bool×RW×RW):(zf (qHY (qQ n) n) (zN []) qEH (qFK v) []).bind (zx [0,7,10,92,93,94] [(.ret,[6]),((.exit 1),[7,10])])=(qBG (qQ n) n v).bind (zAQ qFK qKU):=by
 obtain ⟨w0,w1,w2,w3,w4,w5,w6,w7,w8,w9,w10,w11,w12,w13,w14,w15,w16,w17,w18,w19⟩:=v
 kernel_rfl
theorem qSa (n:Nat) (ih:∀(x0:RW) (x1 x2:Int) r,qQ n x0 x1 x2=some r→Rn n 47 (qAm x0 x1 x2) (qAn x0 x1 x2)=some (qBY r)):zAX (Rn n) n (125,[0,7,10,92,93,94],[(.ret,[6]),((.exit 1),[7,10])],qEH) (qI0 (qQ n) n):=fun st e s h=>
 zh (qNu n ih) (zI rfl) (qSZ n) (fun r h=>by cases h) (fun r y h=>by cases h;rfl) (fun hs v h=>by
  unfold qIz at h
  split at h<;>cases h
  rfl) h
theorem qXb (n:Nat) (ih:∀(x0:RW) (x1 x2:Int) r,qQ n x0 x1 x2=some r→Rn n 47 (qAm x0 x1 x2) (qAn x0 x1 x2)=some (qBY r)):zAK (qNt (qQ n) n) (Rn n) n qCx.body:=lt1 rfl (qSa n ih)
theorem qHZ:∀(n:Nat) (x0:RW) (x1 x2:Int) r,qQ n x0 x1 x2=some r→Rn n 47 (qAm x0 x1 x2) (qAn x0 x1 x2)=some (qBY r)
 |0,x0,x1,x2,r,h=>by cases h
 |n+1,x0,x1,x2,r,h=>zH (kf:=qCx) rfl (qNu n (qHZ n)) (qXb n (qHZ n)) (qXa (qQ n) n x0 x1 x2) h
def qNv (n:Nat):zS→Option (BA)
 |([[[.r x0]],[[.i x1]],[[.i x2]]],[])=>qQ n x0 x1 x2
 |_=>none
def qPc (n:Nat) (d:ED):ED:=zR (qAm ([]) (0) (0)) (qAn ([]) (0) (0)) (qNv n) qBY d
theorem qXc (n:Nat) {d:ED} (hd:RK n 47 d):RK n 47 (qPc n d):=
 zF (fun hs r h=>by unfold qNv at h;split at h;exact ⟨qAm _ _ _,qAn _ _ _,rfl,rfl,qHZ n _ _ _ r h⟩;cases h) hd
def qFL (x0:RW):List AV:= [(.c (.p (.ls x0)))]
def qFM (x0:RW):FR:= []
def qIg (r:BA):Res:=⟨(cs r),[],[]⟩
abbrev qNw (n:Nat):zX:=zd [(18,qLb n (zD)),(47,qPc n (zD))]
abbrev qXd (n:Nat):za:=zN []
def qFN (n:Nat) (x0:RW):Tr (BA):=(.opt (qBg n x0) fun r450=>(.ask ((!r450)) (.done (⟨#[]⟩:BA)) (.opt (qQ n x0 (IntKind.i64.wrap ((x0.length:Int)-(1:Int))) (1:Int)) fun r488=>(.ask ((decide ((r488.size:Int)>(200:Int)))) (.done (⟨#[]⟩:BA)) (.done r488)))))
def qBZ:Nat→RW→Option (BA)
 |0,_=>none
 |n+1,x0=>(qFN n x0).run
theorem qXe (n:Nat) (x0:RW):ze (qNw n) (qXd n) qEb (qFL x0) (qFM x0)=(qFN n x0).bind fun r=> .done (qIg r):=by kernel_rfl
theorem qXf (n:Nat):zW (qNw n) (Rn n):=zA (qQy n (zB)) (zA (qXc n (zB)) (zG))
theorem qXg:∀(n:Nat) (x0:RW) r,qBZ n x0=some r→Rn n 17 (qFL x0) (qFM x0)=some (qIg r)
 |0,x0,r,h=>by cases h
 |n+1,x0,r,h=>zH (kf:=qEb) rfl (qXf n) (zI rfl) (qXe n x0) h
def qNx (n:Nat):zS→Option (BA)
 |([[[.r x0]]],[])=>qBZ n x0
 |_=>none
def qPd (n:Nat) (d:ED):ED:=zR (qFL ([])) (qFM ([])) (qNx n) qIg d
theorem qXh (n:Nat) {d:ED} (hd:RK n 17 d):RK n 17 (qPd n d):=
 zF (fun hs r h=>by unfold qNx at h;split at h;exact ⟨qFL _,qFM _,rfl,rfl,qXg n _ r h⟩;cases h) hd
def qH8 (x0:RW):List AV:= [(.c (.p (.ls x0)))]
def qH9 (x0:RW):FR:= []
def qNB (r:BA×Bool):Res:=⟨(.tup [(false,[(vs r.1)]),(false,[(vb r.2)])]),[],[]⟩
abbrev qSb (n:Nat):zX:=zd [(17,qPd n (zD))]
abbrev qar (n:Nat):za:=zN []
def qUJ (n:Nat) (x0:RW):Tr (BA×Bool):=(.opt (qBZ n x0) fun r489=>(.ask (decide ((⟨#[61]⟩:BA).size+r489.size≤9223372036854775807)) (.ask ((!(r489.toList==(⟨#[]⟩:BA).toList))) (.done (((⟨#[61]⟩:BA)++r489),(decide ((r489.size:Int)<(200:Int))))) (.done (((⟨#[61]⟩:BA)++r489),false))) .fail))
def qIA:Nat→RW→Option (BA×Bool)
 |0,_=>none
 |n+1,x0=>(qUJ n x0).run
theorem qas (n:Nat) (x0:RW):ze (qSb n) (qar n) qHr (qH8 x0) (qH9 x0)=(qUJ n x0).bind fun r=> .done (qNB r):=by kernel_rfl
theorem qat (n:Nat):zW (qSb n) (Rn n):=zA (qXh n (zB)) (zG)
theorem qau:∀(n:Nat) (x0:RW) r,qIA n x0=some r→Rn n 60 (qH8 x0) (qH9 x0)=some (qNB r)
 |0,x0,r,h=>by cases h
 |n+1,x0,r,h=>zH (kf:=qHr) rfl (qat n) (zI rfl) (qas n x0) h
def qSc (n:Nat):zS→Option (BA×Bool)
 |([[[.r x0]]],[])=>qIA n x0
 |_=>none
def qUK (n:Nat) (d:ED):ED:=zR (qH8 ([])) (qH9 ([])) (qSc n) qNB d
theorem qav (n:Nat) {d:ED} (hd:RK n 60 d):RK n 60 (qUK n d):=
 zF (fun hs r h=>by unfold qSc at h;split at h;exact ⟨qH8 _,qH9 _,rfl,rfl,qau n _ r h⟩;cases h) hd
def qAt (x0 x1:BA):List AV:= [(cs x0),(cs x1)]
def qAu (x0 x1:BA):FR:= []
def qBh (r:BA):Res:=⟨(cs r),[],[]⟩
abbrev qC8 (n:Nat):zX:=zd [(123,qBj n (zD))]
abbrev qIh (n:Nat):za:=zN []
def qDQ (n:Nat) (x0 x1:BA):Tr (BA):=(.opt (qo n x0 x1) fun r494=>(.ask (r494) (.ask (decide (0≤(x1.size:Int)∧(x1.size:Int)≤(x0.size:Int)∧(x0.size:Int)≤x0.size)) (.done (x0.extract ((x1.size:Int)).toNat ((x0.size:Int)).toNat)) .fail) (.done x0)))
def qAv:Nat→BA→BA→Option (BA)
 |0,_,_=>none
 |n+1,x0,x1=>(qDQ n x0 x1).run
theorem qIi (n:Nat) (x0 x1:BA):ze (qC8 n) (qIh n) qAs (qAt x0 x1) (qAu x0 x1)=(qDQ n x0 x1).bind fun r=> .done (qBh r):=by kernel_rfl
theorem qIj (n:Nat):zW (qC8 n) (Rn n):=zA (qDP n (zB)) (zG)
theorem qIk:∀(n:Nat) (x0 x1:BA) r,qAv n x0 x1=some r→Rn n 153 (qAt x0 x1) (qAu x0 x1)=some (qBh r)
 |0,x0,x1,r,h=>by cases h
 |n+1,x0,x1,r,h=>zH (kf:=qAs) rfl (qIj n) (zI rfl) (qIi n x0 x1) h
def qC9 (n:Nat):zS→Option (BA)
 |([[[.s x0]],[[.s x1]]],[])=>qAv n x0 x1
 |_=>none
def qDR (n:Nat) (d:ED):ED:=zR (qAt (⟨#[]⟩) (⟨#[]⟩)) (qAu (⟨#[]⟩) (⟨#[]⟩)) (qC9 n) qBh d
theorem qIl (n:Nat) {d:ED} (hd:RK n 153 d):RK n 153 (qDR n d):=
 zF (fun hs r h=>by unfold qC9 at h;split at h;exact ⟨qAt _ _,qAu _ _,rfl,rfl,qIk n _ _ r h⟩;cases h) hd
def qDk (x0 x1:BA):List AV:= [(cs x0),(cs x1)]
def qDl (x0 x1:BA):FR:= []
def qGM (r:BA):Res:=⟨(cs r),[],[]⟩
abbrev qKv (n:Nat):zX:=zd [(153,qDR n (zD))]
abbrev qUs (n:Nat):za:=zN []
def qMk (n:Nat) (x0 x1:BA):Tr (BA):=(.opt (qAv n x0 x1) fun r495=>(.done r495))
def qDm:Nat→BA→BA→Option (BA)
 |0,_,_=>none
 |n+1,x0,x1=>(qMk n x0 x1).run
theorem qUt (n:Nat) (x0 x1:BA):ze (qKv n) (qUs n) qDY (qDk x0 x1) (qDl x0 x1)=(qMk n x0 x1).bind fun r=> .done (qGM r):=by kernel_rfl
theorem qUu (n:Nat):zW (qKv n) (Rn n):=zA (qIl n (zB)) (zG)
theorem qUv:∀(n:Nat) (x0 x1:BA) r,qDm n x0 x1=some r→Rn n 120 (qDk x0 x1) (qDl x0 x1)=some (qGM r)
 |0,x0,x1,r,h=>by cases h
 |n+1,x0,x1,r,h=>zH (kf:=qDY) rfl (qUu n) (zI rfl) (qUt n x0 x1) h
def qKw (n:Nat):zS→Option (BA)
 |([[[.s x0]],[[.s x1]]],[])=>qDm n x0 x1
 |_=>none
def qMl (n:Nat) (d:ED):ED:=zR (qDk (⟨#[]⟩) (⟨#[]⟩)) (qDl (⟨#[]⟩) (⟨#[]⟩)) (qKw n) qGM d
theorem qUw (n:Nat) {d:ED} (hd:RK n 120 d):RK n 120 (qMl n d):=
 zF (fun hs r h=>by unfold qKw at h;split at h;exact ⟨qDk _ _,qDl _ _,rfl,rfl,qUv n _ _ r h⟩;cases h) hd
def qPe (x0 x1:BA):List AV:= [(cs x0),(cs x1)]
def qPf (x0 x1:BA):FR:= []
def qWK (r:(BA)):Res:=⟨(cs r),[],[]⟩
def qKV:Nat→BA→BA→Option ((BA))
 |0,_,_=>none
 |n+1,x0,x1=>zAL x0 x1
theorem qcP:∀(n:Nat) (x0 x1:BA) r,qKV n x0 x1=some r→Rn n 121 (qPe x0 x1) (qPf x0 x1)=some (qWK r)
 |0,x0,x1,r,h=>by cases h
 |n+1,x0,x1,r,h=>by
  have h:zAL x0 x1=some r:=h
  exact zA2 rfl (congrArg (Option.map fun r:(BA)=>((.c (.p (.s r))):AV)) h)
def qUL (n:Nat):zS→Option ((BA))
 |([[[.s x0]],[[.s x1]]],[])=>qKV n x0 x1
 |_=>none
def qWL (n:Nat) (d:ED):ED:=zR (qPe (⟨#[]⟩) (⟨#[]⟩)) (qPf (⟨#[]⟩) (⟨#[]⟩)) (qUL n) qWK d
theorem qcQ (n:Nat) {d:ED} (hd:RK n 121 d):RK n 121 (qWL n d):=
 zF (fun hs r h=>by unfold qUL at h;split at h;exact ⟨qPe _ _,qPf _ _,rfl,rfl,qcP n _ _ r h⟩;cases h) hd
def qIB (x0:BA):List AV:= [(cs x0)]
def qIC (x0:BA):FR:= []
def qNC (r:Bool):Res:=⟨(cb r),[],[]⟩
abbrev qSd (n:Nat):zX:=zd [(120,qMl n (zD)),(121,qWL n (zD))]
abbrev qaw (n:Nat):za:=zN []
def qUM (n:Nat) (x0:BA):Tr (Bool):=(.opt (qDm n x0 (⟨#[45]⟩:BA)) fun r496=>(.ask ((!(r496.toList==(⟨#[]⟩:BA).toList))) (.opt (qKV n r496 (⟨#[48,49,50,51,52,53,54,55,56,57]⟩:BA)) fun r497=>(.done (r497.toList==(⟨#[]⟩:BA).toList))) (.done false)))
def qFU:Nat→BA→Option (Bool)
 |0,_=>none
 |n+1,x0=>(qUM n x0).run
theorem qax (n:Nat) (x0:BA):ze (qSd n) (qaw n) qHs (qIB x0) (qIC x0)=(qUM n x0).bind fun r=> .done (qNC r):=by kernel_rfl
theorem qay (n:Nat):zW (qSd n) (Rn n):=zA (qUw n (zB)) (zA (qcQ n (zB)) (zG))
theorem qaz:∀(n:Nat) (x0:BA) r,qFU n x0=some r→Rn n 62 (qIB x0) (qIC x0)=some (qNC r)
 |0,x0,r,h=>by cases h
 |n+1,x0,r,h=>zH (kf:=qHs) rfl (qay n) (zI rfl) (qax n x0) h
def qSe (n:Nat):zS→Option (Bool)
 |([[[.s x0]]],[])=>qFU n x0
 |_=>none
def qUN (n:Nat) (d:ED):ED:=zR (qIB (⟨#[]⟩)) (qIC (⟨#[]⟩)) (qSe n) qNC d
theorem qa0 (n:Nat) {d:ED} (hd:RK n 62 d):RK n 62 (qUN n d):=
 zF (fun hs r h=>by unfold qSe at h;split at h;exact ⟨qIB _,qIC _,rfl,rfl,qaz n _ r h⟩;cases h) hd
def qKW (x0:BA):List AV:= [(cs x0)]
def qKX (x0:BA):FR:= []
def qPg (r:BA×Bool):Res:=⟨(.tup [(false,[(vs r.1)]),(false,[(vb r.2)])]),[],[]⟩
abbrev qUO (n:Nat):zX:=zd [(35,qL4 n (zD)),(59,qCX n (zD)),(10,qPZ n (zD)),(60,qUK n (zD)),(61,qE4 n (zD)),(62,qUN n (zD)),(64,qRZ n (zD)),(63,qJ8 n (zD)),(65,qKB n (zD)),(25,qLU n (zD))]
abbrev qcR (n:Nat):za:=zN []
def qWM (n:Nat) (x0:BA):Tr (BA×Bool):=(.opt (qDw n x0 (200:Int)) fun r243=>(.ask ((!r243)) (.done ((⟨#[]⟩:BA),(x0.toList==(⟨#[]⟩:BA).toList))) (.ask ((x0.toList==(⟨#[]⟩:BA).toList)) (.done ((⟨#[]⟩:BA),(x0.toList==(⟨#[]⟩:BA).toList))) (.opt (qr n x0 (⟨#[61]⟩:BA)) fun r244=>(.ask (r244.2) (.opt (qFJ n r244.1) fun r449=>(.opt (qIA n r449.1) fun r490=>(.ask ((!r449.2)) (.done ((⟨#[]⟩:BA),false)) (.ask ((!r490.2)) (.done ((⟨#[]⟩:BA),false)) (.done (r490.1,true)))))) (.opt (qAl n x0 (10:Int) (64:Int)) fun r491=>(.alt r491 (fun r492=>(.ask (true) (.opt (qFU n x0) fun r498=>(.ask (r498) (.opt (qCr n r492) fun r499=>(.opt (qAK n r499.1 r499.2.1 r499.2.2) fun r500=>(.ask (r500) (.opt (qA8 n r492) fun r501=>(.done (r501,true))) (.opt (qZ n x0) fun r502=>(.ask (r502.2.2.2) (.done (x0,true)) (.ask (((x0.size:Int)==(200:Int))) (.done ((⟨#[]⟩:BA),false)) (.ask (decide ((⟨#[39]⟩:BA).size+x0.size≤9223372036854775807)) (.done (((⟨#[39]⟩:BA)++x0),true)) .fail))))))) (.opt (qZ n x0) fun r503=>(.ask (r503.2.2.2) (.done (x0,true)) (.ask (((x0.size:Int)==(200:Int))) (.done ((⟨#[]⟩:BA),false)) (.ask (decide ((⟨#[39]⟩:BA).size+x0.size≤9223372036854775807)) (.done (((⟨#[39]⟩:BA)++x0),true)) .fail)))))) (.opt (qZ n x0) fun r504=>(.ask (r504.2.2.2) (.done (x0,true)) (.ask (((x0.size:Int)==(200:Int))) (.done ((⟨#[]⟩:BA),false)) (.ask (decide ((⟨#[39]⟩:BA).size+x0.size≤9223372036854775807)) (.done (((⟨#[39]⟩:BA)++x0),true)) .fail)))))) (fun r493=>(.ask (false) (.opt (qFU n x0) fun r505=>(.ask (r505) (.opt (qCr n r493) fun r506=>(.opt (qAK n r506.1 r506.2.1 r506.2.2) fun r507=>(.ask (r507) (.opt (qA8 n r493) fun r508=>(.done (r508,true))) (.opt (qZ n x0) fun r509=>(.ask (r509.2.2.2) (.done (x0,true)) (.ask (((x0.size:Int)==(200:Int))) (.done ((⟨#[]⟩:BA),false)) (.ask (decide ((⟨#[39]⟩:BA).size+x0.size≤9223372036854775807)) (.done (((⟨#[39]⟩:BA)++x0),true)) .fail))))))) (.opt (qZ n x0) fun r510=>(.ask (r510.2.2.2) (.done (x0,true)) (.ask (((x0.size:Int)==(200:Int))) (.done ((⟨#[]⟩:BA),false)) (.ask (decide ((⟨#[39]⟩:BA).size+x0.size≤9223372036854775807)) (.done (((⟨#[39]⟩:BA)++x0),true)) .fail)))))) (.opt (qZ n x0) fun r511=>(.ask (r511.2.2.2) (.done (x0,true)) (.ask (((x0.size:Int)==(200:Int))) (.done ((⟨#[]⟩:BA),false)) (.ask (decide ((⟨#[39]⟩:BA).size+x0.size≤9223372036854775807)) (.done (((⟨#[39]⟩:BA)++x0),true)) .fail)))))))))))))
def qKY:Nat→BA→Option (BA×Bool)
 |0,_=>none
 |n+1,x0=>(qWM n x0).run
theorem qcS (n:Nat) (x0:BA):ze (qUO n) (qcR n) qI8 (qKW x0) (qKX x0)=(qWM n x0).bind fun r=> .done (qPg r):=by kernel_rfl
theorem qcT (n:Nat):zW (qUO n) (Rn n):=zA (qO8 n (zB)) (zA (qDa n (zB)) (zA (qXZ n (zB)) (zA (qav n (zB)) (zA (qHT n (zB)) (zA (qa0 n (zB)) (zA (qV0 n (zB)) (zA (qM8 n (zB)) (zA (qM9 n (zB)) (zA (qQo n (zB)) (zG))))))))))
theorem qcU:∀(n:Nat) (x0:BA) r,qKY n x0=some r→Rn n 23 (qKW x0) (qKX x0)=some (qPg r)
 |0,x0,r,h=>by cases h
 |n+1,x0,r,h=>zH (kf:=qI8) rfl (qcT n) (zI rfl) (qcS n x0) h
def qUP (n:Nat):zS→Option (BA×Bool)
 |([[[.s x0]]],[])=>qKY n x0
 |_=>none
def qWN (n:Nat) (d:ED):ED:=zR (qKW (⟨#[]⟩)) (qKX (⟨#[]⟩)) (qUP n) qPg d
theorem qcV (n:Nat) {d:ED} (hd:RK n 23 d):RK n 23 (qWN n d):=
 zF (fun hs r h=>by unfold qUP at h;split at h;exact ⟨qKW _,qKX _,rfl,rfl,qcU n _ r h⟩;cases h) hd
def qKx (x0:BA):List AV:= [(cs x0)]
def qKy (x0:BA):FR:= []
def qKz (r:Bool):Res:=⟨(cb r),[],[]⟩
abbrev qKZ (n:Nat):zX:=zd [(22,qVk n (zD)),(23,qWN n (zD))]
abbrev qTI (n:Nat):za:=zN []
def qDL (n:Nat) (x0:BA):Tr (Bool):=(.ask ((decide ((x0.size:Int)>(1048576:Int)))) (.done true) (.opt (qJ0 n x0) fun r237=>(.opt (qKY n x0) fun r512=>(.ask ((!(r512.1.toList==r237.1.toList))) (.done false) (.ask ((!(r512.2==r237.2))) (.done false) (.done true))))))
def qDM:Nat→BA→Option (Bool)
 |0,_=>none
 |n+1,x0=>(qDL n x0).run
theorem qTJ (n:Nat) (x0:BA):ze (qKZ n) (qTI n) qDB (qKx x0) (qKy x0)=(qDL n x0).bind fun r=> .done (qKz r):=by kernel_rfl
theorem qTK (n:Nat):zW (qKZ n) (Rn n):=zA (qb3 n (zB)) (zA (qcV n (zB)) (zG))
theorem qTL:∀(n:Nat) (x0:BA) r,qDM n x0=some r→Rn n 6 (qKx x0) (qKy x0)=some (qKz r)
 |0,x0,r,h=>by cases h
 |n+1,x0,r,h=>zH (kf:=qDB) rfl (qTK n) (zI rfl) (qTJ n x0) h
end Go.Proofs.YthhngmnbcmkhpaaGreatDoor.KFnExactInputOf

