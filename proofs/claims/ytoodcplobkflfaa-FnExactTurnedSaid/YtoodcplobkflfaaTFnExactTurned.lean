/-
  The trees of what FnExactTurned calls: plain functions, and that the engine reckons just these. No condition.
-/
import Derived.Test.YtoodcplobkflfaaKFnExactTurned
import Derived.Test.YtoodcplobkflfaaE31
import Derived.KernelRfl
namespace Go.Proofs.Ytoodcplobkflfaa.KFnExactTurned
open Go.Eng
set_option linter.unusedVariables false
set_option maxRecDepth 100000
def lib : FuncId → List AV → Option AV := fun _ _ => none
/-! ### laws.szChange -/
def A_laws_szChange (x0 : Int) (x1 : Int) (x2 : ByteArray) (x3 : ByteArray) (x4 : Int) : List AV := [(.agg [(.p (.i .i64 x0)), (.p (.i .i64 x1)), (.p (.s x2)), (.p (.s x3))]), (.c (.p (.i .i64 x4)))]
def U_laws_szChange (x0 : Int) (x1 : Int) (x2 : ByteArray) (x3 : ByteArray) (x4 : Int) : List Go.Eng.Frame := []
def O_laws_szChange (r : Int) : Res := ⟨(.c (.p (.i .i64 r))), [], []⟩
abbrev CT_laws_szChange (n : Nat) : CTab := mkCT []
abbrev LT_laws_szChange (n : Nat) : LTab := mkLT []
def T_laws_szChange (n : Nat) (x0 : Int) (x1 : Int) (x2 : ByteArray) (x3 : ByteArray) (x4 : Int) : Tr (Int) := (.ask ((decide ((IntKind.i64.wrap (x4 - (x2.size : Int))) < (0 : Int)))) (.done (-1 : Int)) (.ask ((decide ((IntKind.i64.wrap ((IntKind.i64.wrap (x4 - (x2.size : Int))) - (x3.size : Int))) < (0 : Int)))) (.done (-1 : Int)) (.done (IntKind.i64.wrap ((IntKind.i64.wrap (x4 - (x2.size : Int))) - (x3.size : Int))))))
def F_laws_szChange : Nat → Int → Int → ByteArray → ByteArray → Int → Option (Int)
  | 0, _, _, _, _, _ => none
  | n + 1, x0, x1, x2, x3, x4 => (T_laws_szChange n x0 x1 x2 x3 x4).run
theorem ft_laws_szChange (n : Nat) (x0 : Int) (x1 : Int) (x2 : ByteArray) (x3 : ByteArray) (x4 : Int) : funT (CT_laws_szChange n) (LT_laws_szChange n) K_laws_szChange (A_laws_szChange x0 x1 x2 x3 x4) (U_laws_szChange x0 x1 x2 x3 x4) = (T_laws_szChange n x0 x1 x2 x3 x4).bind fun r => .done (O_laws_szChange r) := by kernel_rfl
theorem ct_laws_szChange (n : Nat) : CTok (CT_laws_szChange n) (runs KP lib n) := mkCT_nil
theorem th_laws_szChange : ∀ (n : Nat) (x0 : Int) (x1 : Int) (x2 : ByteArray) (x3 : ByteArray) (x4 : Int) (r : Int), F_laws_szChange n x0 x1 x2 x3 x4 = some r → runs KP lib n 60 (A_laws_szChange x0 x1 x2 x3 x4) (U_laws_szChange x0 x1 x2 x3 x4) = some (O_laws_szChange r)
  | 0, x0, x1, x2, x3, x4, r, h => by cases h
  | n + 1, x0, x1, x2, x3, x4, r, h => fun_step (kf := K_laws_szChange) rfl (ct_laws_szChange n) (noLoops rfl) (ft_laws_szChange n x0 x1 x2 x3 x4) h
def FH_laws_szChange (n : Nat) : Cont → Option (Int)
  | ([[[.i x0], [.i x1], [.s x2], [.s x3]], [[.i x4]]], []) => F_laws_szChange n x0 x1 x2 x3 x4
  | _ => none
def E_laws_szChange (n : Nat) (d : List AV → List Go.Eng.Frame → Tr Res) : List AV → List Go.Eng.Frame → Tr Res := cent (A_laws_szChange (0) (0) (⟨#[]⟩) (⟨#[]⟩) (0)) (U_laws_szChange (0) (0) (⟨#[]⟩) (⟨#[]⟩) (0)) (FH_laws_szChange n) O_laws_szChange d
theorem eo_laws_szChange (n : Nat) {d : List AV → List Go.Eng.Frame → Tr Res} (hd : ∀ ar up r, (d ar up).run = some r → runs KP lib n 60 ar up = some r) : ∀ ar up r, (E_laws_szChange n d ar up).run = some r → runs KP lib n 60 ar up = some r :=
  cent_ok (fun hs r h => by
    unfold FH_laws_szChange at h
    split at h
    · exact ⟨A_laws_szChange _ _ _ _ _, U_laws_szChange _ _ _ _ _, rfl, rfl, th_laws_szChange n _ _ _ _ _ r h⟩
    · cases h) hd
/-! ### laws.szChangeS -/
def A_laws_szChangeS (x0 : List (List PV)) (x1 : Int) : List AV := [(.c (.p (.ls x0))), (.c (.p (.i .i64 x1)))]
def U_laws_szChangeS (x0 : List (List PV)) (x1 : Int) : List Go.Eng.Frame := []
def O_laws_szChangeS (r : Int) : Res := ⟨(.c (.p (.i .i64 r))), [], []⟩
abbrev CT_laws_szChangeS (n : Nat) : CTab := mkCT [(60, E_laws_szChange n (noEnt))]
def S_laws_szChangeS_61 (v : (List (List PV)) × Int × Int) : St := ⟨[(0, (.c (.p (.ls v.1)))), (1, (.c (.p (.i .i64 v.2.1)))), (5, (.c (.p (.i .i64 v.2.2))))], [], []⟩
def B_laws_szChangeS_61 (n : Nat) (v : (List (List PV)) × Int × Int) : Tr (((List (List PV)) × Int × Int) ⊕ ((Int) ⊕ (Int))) := (.ask ((decide (v.2.2 < (v.1.length : Int)))) (.ask (decide (0 ≤ v.2.2 ∧ v.2.2 < v.1.length)) (.opt (v.1[(v.2.2).toNat]?) fun e1 => (.ask (decide (e1.length = 4)) (.opt (cellI .i64 e1 0) fun y2 => (.opt (cellI .i64 e1 1) fun y3 => (.opt (cellS e1 2) fun y4 => (.opt (cellS e1 3) fun y5 => (.opt (F_laws_szChange n y2 y3 y4 y5 v.2.1) fun r6 => (.ask ((decide (r6 < (0 : Int)))) (.done (.inr (.inl ((-1 : Int))))) (.done (.inl (v.1, r6, (IntKind.i64.wrap (v.2.2 + (1 : Int)))))))))))) .fail)) .fail) (.done (.inr (.inr (v.2.1)))))
def D_laws_szChangeS_61 : ((Int) ⊕ (Int)) → Ex × St := fun | .inl r => (.ret, ⟨[(4, (.c (.p (.i .i64 r))))], [], []⟩) | .inr r => (fun r => ((.exit 0), ⟨[(1, (.c (.p (.i .i64 r))))], [], []⟩)) r
def DT_laws_szChangeS_61 : ((Int) ⊕ (Int)) → Tr (Ex × St) := fun r => .alt r (fun r => .done (.ret, ⟨[(4, (.c (.p (.i .i64 r))))], [], []⟩)) (fun r => .done ((.exit 0), ⟨[(1, (.c (.p (.i .i64 r))))], [], []⟩))
def VH_laws_szChangeS_61 : Cont3 → Option ((List (List PV)) × Int × Int)
  | ([[[.r w0]], [[.i w1]], [[.i w2]]], [], []) => some (w0, w1, w2)
  | _ => none
abbrev LE_laws_szChangeS_61 (n : Nat) : St → Tr (Ex × St) := lent (S_laws_szChangeS_61 ([], 0, 0)) VH_laws_szChangeS_61 (B_laws_szChangeS_61 n) DT_laws_szChangeS_61 n
abbrev LT_laws_szChangeS (n : Nat) : LTab := mkLT [(61, LE_laws_szChangeS_61 n)]
def T_laws_szChangeS (n : Nat) (x0 : List (List PV)) (x1 : Int) : Tr (Int) := (.ask ((decide ((IntKind.i64.wrap (x1 - (x0.length : Int))) < (0 : Int)))) (.done (-1 : Int)) (.opt (loopF (B_laws_szChangeS_61 n) n (x0, (IntKind.i64.wrap (x1 - (x0.length : Int))), (0 : Int))) fun r7 => (.alt r7 (fun r8 => (.done r8)) (fun r9 => (.done r9)))))
def F_laws_szChangeS : Nat → List (List PV) → Int → Option (Int)
  | 0, _, _ => none
  | n + 1, x0, x1 => (T_laws_szChangeS n x0 x1).run
theorem ft_laws_szChangeS (n : Nat) (x0 : List (List PV)) (x1 : Int) : funT (CT_laws_szChangeS n) (LT_laws_szChangeS n) K_laws_szChangeS (A_laws_szChangeS x0 x1) (U_laws_szChangeS x0 x1) = (T_laws_szChangeS n x0 x1).bind fun r => .done (O_laws_szChangeS r) := by kernel_rfl
theorem ct_laws_szChangeS (n : Nat) : CTok (CT_laws_szChangeS n) (runs KP lib n) := mkCT_cons (eo_laws_szChange n (noEnt_ok)) (mkCT_nil)
theorem lt_laws_szChangeS_61 (n : Nat) (v : (List (List PV)) × Int × Int) : (evalCT (CT_laws_szChangeS n) (mkLT []) K_laws_szChangeS_L61 (S_laws_szChangeS_61 v) []).bind (ltail [0, 1, 5] [(.ret, [4]), ((.exit 0), [1])]) = (B_laws_szChangeS_61 n v).bind (lenc S_laws_szChangeS_61 D_laws_szChangeS_61) := by
  obtain ⟨w0, w1, w2⟩ := v
  kernel_rfl
theorem le_laws_szChangeS_61 (n : Nat) : LEok (runs KP lib n) n (61, [0, 1, 5], [(.ret, [4]), ((.exit 0), [1])], K_laws_szChangeS_L61) (LE_laws_szChangeS_61 n) := fun st e s h =>
  lent_ok (ct_laws_szChangeS n) (noLoops rfl) (lt_laws_szChangeS_61 n) (fun r => by
    rcases r with r | r <;> (intro h; cases h)) (fun r y h => by
    rcases r with r | r <;> (cases h; rfl)) (fun hs v h => by
    unfold VH_laws_szChangeS_61 at h
    split at h <;> cases h
    rfl) h
theorem lo_laws_szChangeS (n : Nat) : LTok (LT_laws_szChangeS n) (runs KP lib n) n K_laws_szChangeS.body := mkLT_ok (by
  intro x hx
  have hx : x ∈ ([(61, [0, 1, 5], [(.ret, [4]), ((.exit 0), [1])], K_laws_szChangeS_L61)] : List (Nat × List Nat × List (Ex × List Nat) × KCode)) := hx
  simp only [List.mem_cons, List.not_mem_nil, or_false] at hx
  rcases hx with rfl
  · exact ⟨LE_laws_szChangeS_61 n, fun st => rfl, le_laws_szChangeS_61 n⟩)
theorem th_laws_szChangeS : ∀ (n : Nat) (x0 : List (List PV)) (x1 : Int) (r : Int), F_laws_szChangeS n x0 x1 = some r → runs KP lib n 39 (A_laws_szChangeS x0 x1) (U_laws_szChangeS x0 x1) = some (O_laws_szChangeS r)
  | 0, x0, x1, r, h => by cases h
  | n + 1, x0, x1, r, h => fun_step (kf := K_laws_szChangeS) rfl (ct_laws_szChangeS n) (lo_laws_szChangeS n) (ft_laws_szChangeS n x0 x1) h
def FH_laws_szChangeS (n : Nat) : Cont → Option (Int)
  | ([[[.r x0]], [[.i x1]]], []) => F_laws_szChangeS n x0 x1
  | _ => none
def E_laws_szChangeS (n : Nat) (d : List AV → List Go.Eng.Frame → Tr Res) : List AV → List Go.Eng.Frame → Tr Res := cent (A_laws_szChangeS ([]) (0)) (U_laws_szChangeS ([]) (0)) (FH_laws_szChangeS n) O_laws_szChangeS d
theorem eo_laws_szChangeS (n : Nat) {d : List AV → List Go.Eng.Frame → Tr Res} (hd : ∀ ar up r, (d ar up).run = some r → runs KP lib n 39 ar up = some r) : ∀ ar up r, (E_laws_szChangeS n d ar up).run = some r → runs KP lib n 39 ar up = some r :=
  cent_ok (fun hs r h => by
    unfold FH_laws_szChangeS at h
    split at h
    · exact ⟨A_laws_szChangeS _ _, U_laws_szChangeS _ _, rfl, rfl, th_laws_szChangeS n _ _ r h⟩
    · cases h) hd
/-! ### laws.toRef -/
def A_laws_toRef (x0 : Int) (x1 : Int) : List AV := [(.agg [(.p (.i .i64 x0)), (.p (.i .i64 x1))])]
def U_laws_toRef (x0 : Int) (x1 : Int) : List Go.Eng.Frame := []
def O_laws_toRef (r : Int × Int) : Res := ⟨(.agg [(.p (.i .i64 r.1)), (.p (.i .i64 r.2))]), [], []⟩
abbrev CT_laws_toRef (n : Nat) : CTab := mkCT []
abbrev LT_laws_toRef (n : Nat) : LTab := mkLT []
def T_laws_toRef (n : Nat) (x0 : Int) (x1 : Int) : Tr (Int × Int) := (.done (x0, x1))
def F_laws_toRef : Nat → Int → Int → Option (Int × Int)
  | 0, _, _ => none
  | n + 1, x0, x1 => (T_laws_toRef n x0 x1).run
theorem ft_laws_toRef (n : Nat) (x0 : Int) (x1 : Int) : funT (CT_laws_toRef n) (LT_laws_toRef n) K_laws_toRef (A_laws_toRef x0 x1) (U_laws_toRef x0 x1) = (T_laws_toRef n x0 x1).bind fun r => .done (O_laws_toRef r) := by kernel_rfl
theorem ct_laws_toRef (n : Nat) : CTok (CT_laws_toRef n) (runs KP lib n) := mkCT_nil
theorem th_laws_toRef : ∀ (n : Nat) (x0 : Int) (x1 : Int) (r : Int × Int), F_laws_toRef n x0 x1 = some r → runs KP lib n 16 (A_laws_toRef x0 x1) (U_laws_toRef x0 x1) = some (O_laws_toRef r)
  | 0, x0, x1, r, h => by cases h
  | n + 1, x0, x1, r, h => fun_step (kf := K_laws_toRef) rfl (ct_laws_toRef n) (noLoops rfl) (ft_laws_toRef n x0 x1) h
def FH_laws_toRef (n : Nat) : Cont → Option (Int × Int)
  | ([[[.i x0], [.i x1]]], []) => F_laws_toRef n x0 x1
  | _ => none
def E_laws_toRef (n : Nat) (d : List AV → List Go.Eng.Frame → Tr Res) : List AV → List Go.Eng.Frame → Tr Res := cent (A_laws_toRef (0) (0)) (U_laws_toRef (0) (0)) (FH_laws_toRef n) O_laws_toRef d
theorem eo_laws_toRef (n : Nat) {d : List AV → List Go.Eng.Frame → Tr Res} (hd : ∀ ar up r, (d ar up).run = some r → runs KP lib n 16 ar up = some r) : ∀ ar up r, (E_laws_toRef n d ar up).run = some r → runs KP lib n 16 ar up = some r :=
  cent_ok (fun hs r h => by
    unfold FH_laws_toRef at h
    split at h
    · exact ⟨A_laws_toRef _ _, U_laws_toRef _ _, rfl, rfl, th_laws_toRef n _ _ r h⟩
    · cases h) hd
/-! ### laws.toChange -/
def A_laws_toChange (x0 : Int) (x1 : Int) (x2 : ByteArray) (x3 : ByteArray) : List AV := [(.agg [(.p (.i .i64 x0)), (.p (.i .i64 x1)), (.p (.s x2)), (.p (.s x3))])]
def U_laws_toChange (x0 : Int) (x1 : Int) (x2 : ByteArray) (x3 : ByteArray) : List Go.Eng.Frame := []
def O_laws_toChange (r : Int × Int × ByteArray × ByteArray) : Res := ⟨(.agg [(.p (.i .i64 r.1)), (.p (.i .i64 r.2.1)), (.p (.s r.2.2.1)), (.p (.s r.2.2.2))]), [], []⟩
abbrev CT_laws_toChange (n : Nat) : CTab := mkCT [(16, E_laws_toRef n (noEnt))]
abbrev LT_laws_toChange (n : Nat) : LTab := mkLT []
def T_laws_toChange (n : Nat) (x0 : Int) (x1 : Int) (x2 : ByteArray) (x3 : ByteArray) : Tr (Int × Int × ByteArray × ByteArray) := (.opt (F_laws_toRef n x0 x1) fun r16 => (.done (r16.1, r16.2, x2, x3)))
def F_laws_toChange : Nat → Int → Int → ByteArray → ByteArray → Option (Int × Int × ByteArray × ByteArray)
  | 0, _, _, _, _ => none
  | n + 1, x0, x1, x2, x3 => (T_laws_toChange n x0 x1 x2 x3).run
theorem ft_laws_toChange (n : Nat) (x0 : Int) (x1 : Int) (x2 : ByteArray) (x3 : ByteArray) : funT (CT_laws_toChange n) (LT_laws_toChange n) K_laws_toChange (A_laws_toChange x0 x1 x2 x3) (U_laws_toChange x0 x1 x2 x3) = (T_laws_toChange n x0 x1 x2 x3).bind fun r => .done (O_laws_toChange r) := by kernel_rfl
theorem ct_laws_toChange (n : Nat) : CTok (CT_laws_toChange n) (runs KP lib n) := mkCT_cons (eo_laws_toRef n (noEnt_ok)) (mkCT_nil)
theorem th_laws_toChange : ∀ (n : Nat) (x0 : Int) (x1 : Int) (x2 : ByteArray) (x3 : ByteArray) (r : Int × Int × ByteArray × ByteArray), F_laws_toChange n x0 x1 x2 x3 = some r → runs KP lib n 61 (A_laws_toChange x0 x1 x2 x3) (U_laws_toChange x0 x1 x2 x3) = some (O_laws_toChange r)
  | 0, x0, x1, x2, x3, r, h => by cases h
  | n + 1, x0, x1, x2, x3, r, h => fun_step (kf := K_laws_toChange) rfl (ct_laws_toChange n) (noLoops rfl) (ft_laws_toChange n x0 x1 x2 x3) h
def FH_laws_toChange (n : Nat) : Cont → Option (Int × Int × ByteArray × ByteArray)
  | ([[[.i x0], [.i x1], [.s x2], [.s x3]]], []) => F_laws_toChange n x0 x1 x2 x3
  | _ => none
def E_laws_toChange (n : Nat) (d : List AV → List Go.Eng.Frame → Tr Res) : List AV → List Go.Eng.Frame → Tr Res := cent (A_laws_toChange (0) (0) (⟨#[]⟩) (⟨#[]⟩)) (U_laws_toChange (0) (0) (⟨#[]⟩) (⟨#[]⟩)) (FH_laws_toChange n) O_laws_toChange d
theorem eo_laws_toChange (n : Nat) {d : List AV → List Go.Eng.Frame → Tr Res} (hd : ∀ ar up r, (d ar up).run = some r → runs KP lib n 61 ar up = some r) : ∀ ar up r, (E_laws_toChange n d ar up).run = some r → runs KP lib n 61 ar up = some r :=
  cent_ok (fun hs r h => by
    unfold FH_laws_toChange at h
    split at h
    · exact ⟨A_laws_toChange _ _ _ _, U_laws_toChange _ _ _ _, rfl, rfl, th_laws_toChange n _ _ _ _ r h⟩
    · cases h) hd
/-! ### laws.toChangeS -/
def A_laws_toChangeS (x0 : List (List PV)) : List AV := [(.c (.p (.ls x0)))]
def U_laws_toChangeS (x0 : List (List PV)) : List Go.Eng.Frame := []
def O_laws_toChangeS (r : Nat × (List (List PV))) : Res := ⟨(.c (.own 0 0 0 r.1)), [], [⟨0, 4, 80, (.row r.2)⟩]⟩
abbrev CT_laws_toChangeS (n : Nat) : CTab := mkCT [(61, E_laws_toChange n (noEnt))]
def S_laws_toChangeS_29 (v : (List (List PV)) × Nat × Int × (List (List PV))) : St := ⟨[(0, (.c (.p (.ls v.1)))), (3, (.c (.own 0 448 0 v.2.1))), (4, (.c (.p (.i .i64 v.2.2.1))))], [(448, ⟨0, 4, 80, (.row v.2.2.2)⟩)], []⟩
def B_laws_toChangeS_29 (n : Nat) (v : (List (List PV)) × Nat × Int × (List (List PV))) : Tr (((List (List PV)) × Nat × Int × (List (List PV))) ⊕ ((Nat × (List (List PV))))) := (.ask ((decide (v.2.2.1 < (v.1.length : Int)))) (.ask (decide (0 ≤ v.2.2.1 ∧ v.2.2.1 < v.1.length)) (.opt (v.1[(v.2.2.1).toNat]?) fun e11 => (.ask (decide (e11.length = 4)) (.opt (cellI .i64 e11 0) fun y12 => (.opt (cellI .i64 e11 1) fun y13 => (.opt (cellS e11 2) fun y14 => (.opt (cellS e11 3) fun y15 => (.opt (F_laws_toChange n y12 y13 y14 y15) fun r16 => (.ask (decide (v.2.1 = v.2.2.2.length ∧ 0 ≤ v.2.2.1 ∧ v.2.2.1 < ((v.2.1 : Nat) : Int))) (.opt (v.2.2.2[(v.2.2.1).toNat]?) fun e17 => (.ask (decide (0 + 4 ≤ e17.length)) (.done (.inl (v.1, v.2.1, (IntKind.i64.wrap (v.2.2.1 + (1 : Int))), (v.2.2.2.set (v.2.2.1).toNat (setAt e17 0 [(.i .i64 r16.1), (.i .i64 r16.2.1), (.s r16.2.2.1), (.s r16.2.2.2)]))))) .fail)) .fail)))))) .fail)) .fail) (.done (.inr ((v.2.1, v.2.2.2)))))
def D_laws_toChangeS_29 : (Nat × (List (List PV))) → Ex × St := fun r => ((.exit 0), ⟨[(3, (.c (.own 0 448 0 r.1)))], [(448, ⟨0, 4, 80, (.row r.2)⟩)], []⟩)
def DT_laws_toChangeS_29 : (Nat × (List (List PV))) → Tr (Ex × St) := fun r => .done ((.exit 0), ⟨[(3, (.c (.own 0 448 0 r.1)))], [(448, ⟨0, 4, 80, (.row r.2)⟩)], []⟩)
def VH_laws_toChangeS_29 : Cont3 → Option ((List (List PV)) × Nat × Int × (List (List PV)))
  | ([[[.r w0]], [[.n w1]], [[.i w2]]], [[[.r w3]]], []) => some (w0, w1, w2, w3)
  | _ => none
abbrev LE_laws_toChangeS_29 (n : Nat) : St → Tr (Ex × St) := lent (S_laws_toChangeS_29 ([], 0, 0, [])) VH_laws_toChangeS_29 (B_laws_toChangeS_29 n) DT_laws_toChangeS_29 n
abbrev LT_laws_toChangeS (n : Nat) : LTab := mkLT [(29, LE_laws_toChangeS_29 n)]
def T_laws_toChangeS (n : Nat) (x0 : List (List PV)) : Tr (Nat × (List (List PV))) := (.ask (decide (0 ≤ (x0.length : Int) ∧ (x0.length : Int) = (x0.length : Int) ∧ 48 * (x0.length : Int) ≤ 140737488355328 ∧ (x0.length : Int) ≤ 9223372036854775807)) (.opt (loopF (B_laws_toChangeS_29 n) n (x0, ((x0.length : Int)).toNat, (0 : Int), (zrows [(.i .i64 (0 : Int)), (.i .i64 (0 : Int)), (.s (⟨#[]⟩ : ByteArray)), (.s (⟨#[]⟩ : ByteArray))] ((x0.length : Int)).toNat))) fun r18 => (.done (r18.1, r18.2))) .fail)
def F_laws_toChangeS : Nat → List (List PV) → Option (Nat × (List (List PV)))
  | 0, _ => none
  | n + 1, x0 => (T_laws_toChangeS n x0).run
theorem ft_laws_toChangeS (n : Nat) (x0 : List (List PV)) : funT (CT_laws_toChangeS n) (LT_laws_toChangeS n) K_laws_toChangeS (A_laws_toChangeS x0) (U_laws_toChangeS x0) = (T_laws_toChangeS n x0).bind fun r => .done (O_laws_toChangeS r) := by kernel_rfl
theorem ct_laws_toChangeS (n : Nat) : CTok (CT_laws_toChangeS n) (runs KP lib n) := mkCT_cons (eo_laws_toChange n (noEnt_ok)) (mkCT_nil)
theorem lt_laws_toChangeS_29 (n : Nat) (v : (List (List PV)) × Nat × Int × (List (List PV))) : (evalCT (CT_laws_toChangeS n) (mkLT []) K_laws_toChangeS_L29 (S_laws_toChangeS_29 v) []).bind (ltail [0, 3, 4] [(.ret, [2]), ((.exit 0), [3])]) = (B_laws_toChangeS_29 n v).bind (lenc S_laws_toChangeS_29 D_laws_toChangeS_29) := by
  obtain ⟨w0, w1, w2, w3⟩ := v
  kernel_rfl
theorem le_laws_toChangeS_29 (n : Nat) : LEok (runs KP lib n) n (29, [0, 3, 4], [(.ret, [2]), ((.exit 0), [3])], K_laws_toChangeS_L29) (LE_laws_toChangeS_29 n) := fun st e s h =>
  lent_ok (ct_laws_toChangeS n) (noLoops rfl) (lt_laws_toChangeS_29 n) (fun r h => by cases h) (fun r y h => by cases h; rfl) (fun hs v h => by
    unfold VH_laws_toChangeS_29 at h
    split at h <;> cases h
    rfl) h
theorem lo_laws_toChangeS (n : Nat) : LTok (LT_laws_toChangeS n) (runs KP lib n) n K_laws_toChangeS.body := mkLT_ok (by
  intro x hx
  have hx : x ∈ ([(29, [0, 3, 4], [(.ret, [2]), ((.exit 0), [3])], K_laws_toChangeS_L29)] : List (Nat × List Nat × List (Ex × List Nat) × KCode)) := hx
  simp only [List.mem_cons, List.not_mem_nil, or_false] at hx
  rcases hx with rfl
  · exact ⟨LE_laws_toChangeS_29 n, fun st => rfl, le_laws_toChangeS_29 n⟩)
theorem th_laws_toChangeS : ∀ (n : Nat) (x0 : List (List PV)) (r : Nat × (List (List PV))), F_laws_toChangeS n x0 = some r → runs KP lib n 41 (A_laws_toChangeS x0) (U_laws_toChangeS x0) = some (O_laws_toChangeS r)
  | 0, x0, r, h => by cases h
  | n + 1, x0, r, h => fun_step (kf := K_laws_toChangeS) rfl (ct_laws_toChangeS n) (lo_laws_toChangeS n) (ft_laws_toChangeS n x0) h
def FH_laws_toChangeS (n : Nat) : Cont → Option (Nat × (List (List PV)))
  | ([[[.r x0]]], []) => F_laws_toChangeS n x0
  | _ => none
def E_laws_toChangeS (n : Nat) (d : List AV → List Go.Eng.Frame → Tr Res) : List AV → List Go.Eng.Frame → Tr Res := cent (A_laws_toChangeS ([])) (U_laws_toChangeS ([])) (FH_laws_toChangeS n) O_laws_toChangeS d
theorem eo_laws_toChangeS (n : Nat) {d : List AV → List Go.Eng.Frame → Tr Res} (hd : ∀ ar up r, (d ar up).run = some r → runs KP lib n 41 ar up = some r) : ∀ ar up r, (E_laws_toChangeS n d ar up).run = some r → runs KP lib n 41 ar up = some r :=
  cent_ok (fun hs r h => by
    unfold FH_laws_toChangeS at h
    split at h
    · exact ⟨A_laws_toChangeS _, U_laws_toChangeS _, rfl, rfl, th_laws_toChangeS n _ r h⟩
    · cases h) hd
/-! ### spec.Turned -/
def A_spec_Turned (x0 : List (List PV)) : List AV := [(.c (.p (.ls x0)))]
def U_spec_Turned (x0 : List (List PV)) : List Go.Eng.Frame := []
def O_spec_Turned (r : Nat × (List (List PV))) : Res := ⟨(.c (.own 0 0 0 r.1)), [], [⟨0, 4, 80, (.row r.2)⟩]⟩
abbrev CT_spec_Turned (n : Nat) : CTab := mkCT []
def S_spec_Turned_29 (v : (List (List PV)) × Nat × Int × (List (List PV))) : St := ⟨[(0, (.c (.p (.ls v.1)))), (3, (.c (.own 0 320 0 v.2.1))), (4, (.c (.p (.i .i64 v.2.2.1))))], [(320, ⟨0, 4, 80, (.row v.2.2.2)⟩)], []⟩
def B_spec_Turned_29 (n : Nat) (v : (List (List PV)) × Nat × Int × (List (List PV))) : Tr (((List (List PV)) × Nat × Int × (List (List PV))) ⊕ ((Nat × (List (List PV))))) := (.ask ((decide (v.2.2.1 ≥ (0 : Int)))) (.ask (decide (0 ≤ v.2.2.1 ∧ v.2.2.1 < v.1.length)) (.opt (v.1[(v.2.2.1).toNat]?) fun e20 => (.ask (decide (e20.length = 4)) (.opt (cellI .i64 e20 0) fun y21 => (.opt (cellI .i64 e20 1) fun y22 => (.ask (decide (0 ≤ v.2.2.1 ∧ v.2.2.1 < v.1.length)) (.opt (v.1[(v.2.2.1).toNat]?) fun e23 => (.ask (decide (e23.length = 4)) (.opt (cellS e23 3) fun y24 => (.ask (decide (0 ≤ v.2.2.1 ∧ v.2.2.1 < v.1.length)) (.opt (v.1[(v.2.2.1).toNat]?) fun e25 => (.ask (decide (e25.length = 4)) (.opt (cellS e25 2) fun y26 => (.ask (decide (1 = ([[(.i .i64 y21), (.i .i64 y22), (.s y24), (.s y26)]] : List (List PV)).length)) (.ask (decide (v.2.1 = v.2.2.2.length ∧ 0 < 4 ∧ 0 < 48 ∧ (v.2.1 + ([[(.i .i64 y21), (.i .i64 y22), (.s y24), (.s y26)]] : List (List PV)).length) * 48 ≤ 140737488355328 ∧ ([[(.i .i64 y21), (.i .i64 y22), (.s y24), (.s y26)]] : List (List PV)).all (fun e => e.length == 4) = true)) (.done (.inl (v.1, (v.2.1 + 1), (IntKind.i64.wrap (v.2.2.1 - (1 : Int))), (v.2.2.2 ++ ([[(.i .i64 y21), (.i .i64 y22), (.s y24), (.s y26)]] : List (List PV)))))) .fail) .fail)) .fail)) .fail)) .fail)) .fail))) .fail)) .fail) (.done (.inr ((v.2.1, v.2.2.2)))))
def D_spec_Turned_29 : (Nat × (List (List PV))) → Ex × St := fun r => ((.exit 0), ⟨[(3, (.c (.own 0 320 0 r.1)))], [(320, ⟨0, 4, 80, (.row r.2)⟩)], []⟩)
def DT_spec_Turned_29 : (Nat × (List (List PV))) → Tr (Ex × St) := fun r => .done ((.exit 0), ⟨[(3, (.c (.own 0 320 0 r.1)))], [(320, ⟨0, 4, 80, (.row r.2)⟩)], []⟩)
def VH_spec_Turned_29 : Cont3 → Option ((List (List PV)) × Nat × Int × (List (List PV)))
  | ([[[.r w0]], [[.n w1]], [[.i w2]]], [[[.r w3]]], []) => some (w0, w1, w2, w3)
  | _ => none
abbrev LE_spec_Turned_29 (n : Nat) : St → Tr (Ex × St) := lent (S_spec_Turned_29 ([], 0, 0, [])) VH_spec_Turned_29 (B_spec_Turned_29 n) DT_spec_Turned_29 n
abbrev LT_spec_Turned (n : Nat) : LTab := mkLT [(29, LE_spec_Turned_29 n)]
def T_spec_Turned (n : Nat) (x0 : List (List PV)) : Tr (Nat × (List (List PV))) := (.opt (loopF (B_spec_Turned_29 n) n (x0, (0 : Nat), (IntKind.i64.wrap ((x0.length : Int) - (1 : Int))), ([] : List (List PV)))) fun r27 => (.done (r27.1, r27.2)))
def F_spec_Turned : Nat → List (List PV) → Option (Nat × (List (List PV)))
  | 0, _ => none
  | n + 1, x0 => (T_spec_Turned n x0).run
theorem ft_spec_Turned (n : Nat) (x0 : List (List PV)) : funT (CT_spec_Turned n) (LT_spec_Turned n) K_spec_Turned (A_spec_Turned x0) (U_spec_Turned x0) = (T_spec_Turned n x0).bind fun r => .done (O_spec_Turned r) := by kernel_rfl
theorem ct_spec_Turned (n : Nat) : CTok (CT_spec_Turned n) (runs KP lib n) := mkCT_nil
theorem lt_spec_Turned_29 (n : Nat) (v : (List (List PV)) × Nat × Int × (List (List PV))) : (evalCT (CT_spec_Turned n) (mkLT []) K_spec_Turned_L29 (S_spec_Turned_29 v) []).bind (ltail [0, 3, 4] [(.ret, [2]), ((.exit 0), [3])]) = (B_spec_Turned_29 n v).bind (lenc S_spec_Turned_29 D_spec_Turned_29) := by
  obtain ⟨w0, w1, w2, w3⟩ := v
  kernel_rfl
theorem le_spec_Turned_29 (n : Nat) : LEok (runs KP lib n) n (29, [0, 3, 4], [(.ret, [2]), ((.exit 0), [3])], K_spec_Turned_L29) (LE_spec_Turned_29 n) := fun st e s h =>
  lent_ok (ct_spec_Turned n) (noLoops rfl) (lt_spec_Turned_29 n) (fun r h => by cases h) (fun r y h => by cases h; rfl) (fun hs v h => by
    unfold VH_spec_Turned_29 at h
    split at h <;> cases h
    rfl) h
theorem lo_spec_Turned (n : Nat) : LTok (LT_spec_Turned n) (runs KP lib n) n K_spec_Turned.body := mkLT_ok (by
  intro x hx
  have hx : x ∈ ([(29, [0, 3, 4], [(.ret, [2]), ((.exit 0), [3])], K_spec_Turned_L29)] : List (Nat × List Nat × List (Ex × List Nat) × KCode)) := hx
  simp only [List.mem_cons, List.not_mem_nil, or_false] at hx
  rcases hx with rfl
  · exact ⟨LE_spec_Turned_29 n, fun st => rfl, le_spec_Turned_29 n⟩)
theorem th_spec_Turned : ∀ (n : Nat) (x0 : List (List PV)) (r : Nat × (List (List PV))), F_spec_Turned n x0 = some r → runs KP lib n 40 (A_spec_Turned x0) (U_spec_Turned x0) = some (O_spec_Turned r)
  | 0, x0, r, h => by cases h
  | n + 1, x0, r, h => fun_step (kf := K_spec_Turned) rfl (ct_spec_Turned n) (lo_spec_Turned n) (ft_spec_Turned n x0) h
def FH_spec_Turned (n : Nat) : Cont → Option (Nat × (List (List PV)))
  | ([[[.r x0]]], []) => F_spec_Turned n x0
  | _ => none
def E_spec_Turned (n : Nat) (d : List AV → List Go.Eng.Frame → Tr Res) : List AV → List Go.Eng.Frame → Tr Res := cent (A_spec_Turned ([])) (U_spec_Turned ([])) (FH_spec_Turned n) O_spec_Turned d
theorem eo_spec_Turned (n : Nat) {d : List AV → List Go.Eng.Frame → Tr Res} (hd : ∀ ar up r, (d ar up).run = some r → runs KP lib n 40 ar up = some r) : ∀ ar up r, (E_spec_Turned n d ar up).run = some r → runs KP lib n 40 ar up = some r :=
  cent_ok (fun hs r h => by
    unfold FH_spec_Turned at h
    split at h
    · exact ⟨A_spec_Turned _, U_spec_Turned _, rfl, rfl, th_spec_Turned n _ r h⟩
    · cases h) hd
/-! ### impl.Turned -/
def A_impl_Turned (x0 : List (List PV)) : List AV := [(.c (.p (.ls x0)))]
def U_impl_Turned (x0 : List (List PV)) : List Go.Eng.Frame := []
def O_impl_Turned (r : Nat × (List (List PV))) : Res := ⟨(.c (.own 0 0 0 r.1)), [], [⟨0, 4, 80, (.row r.2)⟩]⟩
abbrev CT_impl_Turned (n : Nat) : CTab := mkCT []
def S_impl_Turned_29 (v : (List (List PV)) × Nat × Int × (List (List PV))) : St := ⟨[(0, (.c (.p (.ls v.1)))), (3, (.c (.own 0 320 0 v.2.1))), (4, (.c (.p (.i .i64 v.2.2.1))))], [(320, ⟨0, 4, 80, (.row v.2.2.2)⟩)], []⟩
def B_impl_Turned_29 (n : Nat) (v : (List (List PV)) × Nat × Int × (List (List PV))) : Tr (((List (List PV)) × Nat × Int × (List (List PV))) ⊕ ((Nat × (List (List PV))))) := (.ask ((decide (v.2.2.1 ≥ (0 : Int)))) (.ask (decide (0 ≤ v.2.2.1 ∧ v.2.2.1 < v.1.length)) (.opt (v.1[(v.2.2.1).toNat]?) fun e30 => (.ask (decide (e30.length = 4)) (.opt (cellI .i64 e30 0) fun y31 => (.opt (cellI .i64 e30 1) fun y32 => (.ask (decide (0 ≤ v.2.2.1 ∧ v.2.2.1 < v.1.length)) (.opt (v.1[(v.2.2.1).toNat]?) fun e33 => (.ask (decide (e33.length = 4)) (.opt (cellS e33 3) fun y34 => (.ask (decide (0 ≤ v.2.2.1 ∧ v.2.2.1 < v.1.length)) (.opt (v.1[(v.2.2.1).toNat]?) fun e35 => (.ask (decide (e35.length = 4)) (.opt (cellS e35 2) fun y36 => (.ask (decide (1 = ([[(.i .i64 y31), (.i .i64 y32), (.s y34), (.s y36)]] : List (List PV)).length)) (.ask (decide (v.2.1 = v.2.2.2.length ∧ 0 < 4 ∧ 0 < 48 ∧ (v.2.1 + ([[(.i .i64 y31), (.i .i64 y32), (.s y34), (.s y36)]] : List (List PV)).length) * 48 ≤ 140737488355328 ∧ ([[(.i .i64 y31), (.i .i64 y32), (.s y34), (.s y36)]] : List (List PV)).all (fun e => e.length == 4) = true)) (.done (.inl (v.1, (v.2.1 + 1), (IntKind.i64.wrap (v.2.2.1 - (1 : Int))), (v.2.2.2 ++ ([[(.i .i64 y31), (.i .i64 y32), (.s y34), (.s y36)]] : List (List PV)))))) .fail) .fail)) .fail)) .fail)) .fail)) .fail))) .fail)) .fail) (.done (.inr ((v.2.1, v.2.2.2)))))
def D_impl_Turned_29 : (Nat × (List (List PV))) → Ex × St := fun r => ((.exit 0), ⟨[(3, (.c (.own 0 320 0 r.1)))], [(320, ⟨0, 4, 80, (.row r.2)⟩)], []⟩)
def DT_impl_Turned_29 : (Nat × (List (List PV))) → Tr (Ex × St) := fun r => .done ((.exit 0), ⟨[(3, (.c (.own 0 320 0 r.1)))], [(320, ⟨0, 4, 80, (.row r.2)⟩)], []⟩)
def VH_impl_Turned_29 : Cont3 → Option ((List (List PV)) × Nat × Int × (List (List PV)))
  | ([[[.r w0]], [[.n w1]], [[.i w2]]], [[[.r w3]]], []) => some (w0, w1, w2, w3)
  | _ => none
abbrev LE_impl_Turned_29 (n : Nat) : St → Tr (Ex × St) := lent (S_impl_Turned_29 ([], 0, 0, [])) VH_impl_Turned_29 (B_impl_Turned_29 n) DT_impl_Turned_29 n
abbrev LT_impl_Turned (n : Nat) : LTab := mkLT [(29, LE_impl_Turned_29 n)]
def T_impl_Turned (n : Nat) (x0 : List (List PV)) : Tr (Nat × (List (List PV))) := (.opt (loopF (B_impl_Turned_29 n) n (x0, (0 : Nat), (IntKind.i64.wrap ((x0.length : Int) - (1 : Int))), ([] : List (List PV)))) fun r37 => (.done (r37.1, r37.2)))
def F_impl_Turned : Nat → List (List PV) → Option (Nat × (List (List PV)))
  | 0, _ => none
  | n + 1, x0 => (T_impl_Turned n x0).run
theorem ft_impl_Turned (n : Nat) (x0 : List (List PV)) : funT (CT_impl_Turned n) (LT_impl_Turned n) K_impl_Turned (A_impl_Turned x0) (U_impl_Turned x0) = (T_impl_Turned n x0).bind fun r => .done (O_impl_Turned r) := by kernel_rfl
theorem ct_impl_Turned (n : Nat) : CTok (CT_impl_Turned n) (runs KP lib n) := mkCT_nil
theorem lt_impl_Turned_29 (n : Nat) (v : (List (List PV)) × Nat × Int × (List (List PV))) : (evalCT (CT_impl_Turned n) (mkLT []) K_impl_Turned_L29 (S_impl_Turned_29 v) []).bind (ltail [0, 3, 4] [(.ret, [2]), ((.exit 0), [3])]) = (B_impl_Turned_29 n v).bind (lenc S_impl_Turned_29 D_impl_Turned_29) := by
  obtain ⟨w0, w1, w2, w3⟩ := v
  kernel_rfl
theorem le_impl_Turned_29 (n : Nat) : LEok (runs KP lib n) n (29, [0, 3, 4], [(.ret, [2]), ((.exit 0), [3])], K_impl_Turned_L29) (LE_impl_Turned_29 n) := fun st e s h =>
  lent_ok (ct_impl_Turned n) (noLoops rfl) (lt_impl_Turned_29 n) (fun r h => by cases h) (fun r y h => by cases h; rfl) (fun hs v h => by
    unfold VH_impl_Turned_29 at h
    split at h <;> cases h
    rfl) h
theorem lo_impl_Turned (n : Nat) : LTok (LT_impl_Turned n) (runs KP lib n) n K_impl_Turned.body := mkLT_ok (by
  intro x hx
  have hx : x ∈ ([(29, [0, 3, 4], [(.ret, [2]), ((.exit 0), [3])], K_impl_Turned_L29)] : List (Nat × List Nat × List (Ex × List Nat) × KCode)) := hx
  simp only [List.mem_cons, List.not_mem_nil, or_false] at hx
  rcases hx with rfl
  · exact ⟨LE_impl_Turned_29 n, fun st => rfl, le_impl_Turned_29 n⟩)
theorem th_impl_Turned : ∀ (n : Nat) (x0 : List (List PV)) (r : Nat × (List (List PV))), F_impl_Turned n x0 = some r → runs KP lib n 42 (A_impl_Turned x0) (U_impl_Turned x0) = some (O_impl_Turned r)
  | 0, x0, r, h => by cases h
  | n + 1, x0, r, h => fun_step (kf := K_impl_Turned) rfl (ct_impl_Turned n) (lo_impl_Turned n) (ft_impl_Turned n x0) h
def FH_impl_Turned (n : Nat) : Cont → Option (Nat × (List (List PV)))
  | ([[[.r x0]]], []) => F_impl_Turned n x0
  | _ => none
def E_impl_Turned (n : Nat) (d : List AV → List Go.Eng.Frame → Tr Res) : List AV → List Go.Eng.Frame → Tr Res := cent (A_impl_Turned ([])) (U_impl_Turned ([])) (FH_impl_Turned n) O_impl_Turned d
theorem eo_impl_Turned (n : Nat) {d : List AV → List Go.Eng.Frame → Tr Res} (hd : ∀ ar up r, (d ar up).run = some r → runs KP lib n 42 ar up = some r) : ∀ ar up r, (E_impl_Turned n d ar up).run = some r → runs KP lib n 42 ar up = some r :=
  cent_ok (fun hs r h => by
    unfold FH_impl_Turned at h
    split at h
    · exact ⟨A_impl_Turned _, U_impl_Turned _, rfl, rfl, th_impl_Turned n _ r h⟩
    · cases h) hd
/-! ### laws.eqRef -/
def A_laws_eqRef (x0 : Int) (x1 : Int) (x2 : Int) (x3 : Int) : List AV := [(.agg [(.p (.i .i64 x0)), (.p (.i .i64 x1))]), (.agg [(.p (.i .i64 x2)), (.p (.i .i64 x3))])]
def U_laws_eqRef (x0 : Int) (x1 : Int) (x2 : Int) (x3 : Int) : List Go.Eng.Frame := []
def O_laws_eqRef (r : Bool) : Res := ⟨(.c (.p (.b r))), [], []⟩
abbrev CT_laws_eqRef (n : Nat) : CTab := mkCT []
abbrev LT_laws_eqRef (n : Nat) : LTab := mkLT []
def T_laws_eqRef (n : Nat) (x0 : Int) (x1 : Int) (x2 : Int) (x3 : Int) : Tr (Bool) := (.ask ((x0 != x2)) (.done false) (.ask ((x1 != x3)) (.done false) (.done true)))
def F_laws_eqRef : Nat → Int → Int → Int → Int → Option (Bool)
  | 0, _, _, _, _ => none
  | n + 1, x0, x1, x2, x3 => (T_laws_eqRef n x0 x1 x2 x3).run
theorem ft_laws_eqRef (n : Nat) (x0 : Int) (x1 : Int) (x2 : Int) (x3 : Int) : funT (CT_laws_eqRef n) (LT_laws_eqRef n) K_laws_eqRef (A_laws_eqRef x0 x1 x2 x3) (U_laws_eqRef x0 x1 x2 x3) = (T_laws_eqRef n x0 x1 x2 x3).bind fun r => .done (O_laws_eqRef r) := by kernel_rfl
theorem ct_laws_eqRef (n : Nat) : CTok (CT_laws_eqRef n) (runs KP lib n) := mkCT_nil
theorem th_laws_eqRef : ∀ (n : Nat) (x0 : Int) (x1 : Int) (x2 : Int) (x3 : Int) (r : Bool), F_laws_eqRef n x0 x1 x2 x3 = some r → runs KP lib n 53 (A_laws_eqRef x0 x1 x2 x3) (U_laws_eqRef x0 x1 x2 x3) = some (O_laws_eqRef r)
  | 0, x0, x1, x2, x3, r, h => by cases h
  | n + 1, x0, x1, x2, x3, r, h => fun_step (kf := K_laws_eqRef) rfl (ct_laws_eqRef n) (noLoops rfl) (ft_laws_eqRef n x0 x1 x2 x3) h
def FH_laws_eqRef (n : Nat) : Cont → Option (Bool)
  | ([[[.i x0], [.i x1]], [[.i x2], [.i x3]]], []) => F_laws_eqRef n x0 x1 x2 x3
  | _ => none
def E_laws_eqRef (n : Nat) (d : List AV → List Go.Eng.Frame → Tr Res) : List AV → List Go.Eng.Frame → Tr Res := cent (A_laws_eqRef (0) (0) (0) (0)) (U_laws_eqRef (0) (0) (0) (0)) (FH_laws_eqRef n) O_laws_eqRef d
theorem eo_laws_eqRef (n : Nat) {d : List AV → List Go.Eng.Frame → Tr Res} (hd : ∀ ar up r, (d ar up).run = some r → runs KP lib n 53 ar up = some r) : ∀ ar up r, (E_laws_eqRef n d ar up).run = some r → runs KP lib n 53 ar up = some r :=
  cent_ok (fun hs r h => by
    unfold FH_laws_eqRef at h
    split at h
    · exact ⟨A_laws_eqRef _ _ _ _, U_laws_eqRef _ _ _ _, rfl, rfl, th_laws_eqRef n _ _ _ _ r h⟩
    · cases h) hd
/-! ### laws.eqChange -/
def A_laws_eqChange (x0 : Int) (x1 : Int) (x2 : ByteArray) (x3 : ByteArray) (x4 : Int) (x5 : Int) (x6 : ByteArray) (x7 : ByteArray) : List AV := [(.agg [(.p (.i .i64 x0)), (.p (.i .i64 x1)), (.p (.s x2)), (.p (.s x3))]), (.agg [(.p (.i .i64 x4)), (.p (.i .i64 x5)), (.p (.s x6)), (.p (.s x7))])]
def U_laws_eqChange (x0 : Int) (x1 : Int) (x2 : ByteArray) (x3 : ByteArray) (x4 : Int) (x5 : Int) (x6 : ByteArray) (x7 : ByteArray) : List Go.Eng.Frame := []
def O_laws_eqChange (r : Bool) : Res := ⟨(.c (.p (.b r))), [], []⟩
abbrev CT_laws_eqChange (n : Nat) : CTab := mkCT [(53, E_laws_eqRef n (noEnt))]
abbrev LT_laws_eqChange (n : Nat) : LTab := mkLT []
def T_laws_eqChange (n : Nat) (x0 : Int) (x1 : Int) (x2 : ByteArray) (x3 : ByteArray) (x4 : Int) (x5 : Int) (x6 : ByteArray) (x7 : ByteArray) : Tr (Bool) := (.opt (F_laws_eqRef n x0 x1 x4 x5) fun r49 => (.ask ((!r49)) (.done false) (.ask ((!(x2.toList == x6.toList))) (.done false) (.ask ((!(x3.toList == x7.toList))) (.done false) (.done true)))))
def F_laws_eqChange : Nat → Int → Int → ByteArray → ByteArray → Int → Int → ByteArray → ByteArray → Option (Bool)
  | 0, _, _, _, _, _, _, _, _ => none
  | n + 1, x0, x1, x2, x3, x4, x5, x6, x7 => (T_laws_eqChange n x0 x1 x2 x3 x4 x5 x6 x7).run
theorem ft_laws_eqChange (n : Nat) (x0 : Int) (x1 : Int) (x2 : ByteArray) (x3 : ByteArray) (x4 : Int) (x5 : Int) (x6 : ByteArray) (x7 : ByteArray) : funT (CT_laws_eqChange n) (LT_laws_eqChange n) K_laws_eqChange (A_laws_eqChange x0 x1 x2 x3 x4 x5 x6 x7) (U_laws_eqChange x0 x1 x2 x3 x4 x5 x6 x7) = (T_laws_eqChange n x0 x1 x2 x3 x4 x5 x6 x7).bind fun r => .done (O_laws_eqChange r) := by kernel_rfl
theorem ct_laws_eqChange (n : Nat) : CTok (CT_laws_eqChange n) (runs KP lib n) := mkCT_cons (eo_laws_eqRef n (noEnt_ok)) (mkCT_nil)
theorem th_laws_eqChange : ∀ (n : Nat) (x0 : Int) (x1 : Int) (x2 : ByteArray) (x3 : ByteArray) (x4 : Int) (x5 : Int) (x6 : ByteArray) (x7 : ByteArray) (r : Bool), F_laws_eqChange n x0 x1 x2 x3 x4 x5 x6 x7 = some r → runs KP lib n 62 (A_laws_eqChange x0 x1 x2 x3 x4 x5 x6 x7) (U_laws_eqChange x0 x1 x2 x3 x4 x5 x6 x7) = some (O_laws_eqChange r)
  | 0, x0, x1, x2, x3, x4, x5, x6, x7, r, h => by cases h
  | n + 1, x0, x1, x2, x3, x4, x5, x6, x7, r, h => fun_step (kf := K_laws_eqChange) rfl (ct_laws_eqChange n) (noLoops rfl) (ft_laws_eqChange n x0 x1 x2 x3 x4 x5 x6 x7) h
def FH_laws_eqChange (n : Nat) : Cont → Option (Bool)
  | ([[[.i x0], [.i x1], [.s x2], [.s x3]], [[.i x4], [.i x5], [.s x6], [.s x7]]], []) => F_laws_eqChange n x0 x1 x2 x3 x4 x5 x6 x7
  | _ => none
def E_laws_eqChange (n : Nat) (d : List AV → List Go.Eng.Frame → Tr Res) : List AV → List Go.Eng.Frame → Tr Res := cent (A_laws_eqChange (0) (0) (⟨#[]⟩) (⟨#[]⟩) (0) (0) (⟨#[]⟩) (⟨#[]⟩)) (U_laws_eqChange (0) (0) (⟨#[]⟩) (⟨#[]⟩) (0) (0) (⟨#[]⟩) (⟨#[]⟩)) (FH_laws_eqChange n) O_laws_eqChange d
theorem eo_laws_eqChange (n : Nat) {d : List AV → List Go.Eng.Frame → Tr Res} (hd : ∀ ar up r, (d ar up).run = some r → runs KP lib n 62 ar up = some r) : ∀ ar up r, (E_laws_eqChange n d ar up).run = some r → runs KP lib n 62 ar up = some r :=
  cent_ok (fun hs r h => by
    unfold FH_laws_eqChange at h
    split at h
    · exact ⟨A_laws_eqChange _ _ _ _ _ _ _ _, U_laws_eqChange _ _ _ _ _ _ _ _, rfl, rfl, th_laws_eqChange n _ _ _ _ _ _ _ _ r h⟩
    · cases h) hd
/-! ### laws.eqChangeS -/
def A_laws_eqChangeS (x0 : List (List PV)) (x1 : List (List PV)) : List AV := [(.c (.p (.ls x0))), (.c (.p (.ls x1)))]
def U_laws_eqChangeS (x0 : List (List PV)) (x1 : List (List PV)) : List Go.Eng.Frame := []
def O_laws_eqChangeS (r : Bool) : Res := ⟨(.c (.p (.b r))), [], []⟩
abbrev CT_laws_eqChangeS (n : Nat) : CTab := mkCT [(62, E_laws_eqChange n (noEnt))]
def S_laws_eqChangeS_29 (v : (List (List PV)) × (List (List PV)) × Int) : St := ⟨[(0, (.c (.p (.ls v.1)))), (1, (.c (.p (.ls v.2.1)))), (5, (.c (.p (.i .i64 v.2.2))))], [], []⟩
def B_laws_eqChangeS_29 (n : Nat) (v : (List (List PV)) × (List (List PV)) × Int) : Tr (((List (List PV)) × (List (List PV)) × Int) ⊕ ((Bool) ⊕ (Unit))) := (.ask ((decide (v.2.2 < (v.1.length : Int)))) (.ask (decide (0 ≤ v.2.2 ∧ v.2.2 < v.1.length)) (.opt (v.1[(v.2.2).toNat]?) fun e39 => (.ask (decide (e39.length = 4)) (.opt (cellI .i64 e39 0) fun y40 => (.opt (cellI .i64 e39 1) fun y41 => (.opt (cellS e39 2) fun y42 => (.opt (cellS e39 3) fun y43 => (.ask (decide (0 ≤ v.2.2 ∧ v.2.2 < v.2.1.length)) (.opt (v.2.1[(v.2.2).toNat]?) fun e44 => (.ask (decide (e44.length = 4)) (.opt (cellI .i64 e44 0) fun y45 => (.opt (cellI .i64 e44 1) fun y46 => (.opt (cellS e44 2) fun y47 => (.opt (cellS e44 3) fun y48 => (.opt (F_laws_eqChange n y40 y41 y42 y43 y45 y46 y47 y48) fun r49 => (.ask ((!r49)) (.done (.inr (.inl (false)))) (.done (.inl (v.1, v.2.1, (IntKind.i64.wrap (v.2.2 + (1 : Int)))))))))))) .fail)) .fail))))) .fail)) .fail) (.done (.inr (.inr (())))))
def D_laws_eqChangeS_29 : ((Bool) ⊕ (Unit)) → Ex × St := fun | .inl r => (.ret, ⟨[(4, (.c (.p (.b r))))], [], []⟩) | .inr r => (fun r => ((.exit 0), ⟨[], [], []⟩)) r
def DT_laws_eqChangeS_29 : ((Bool) ⊕ (Unit)) → Tr (Ex × St) := fun r => .alt r (fun r => .done (.ret, ⟨[(4, (.c (.p (.b r))))], [], []⟩)) (fun r => .done ((.exit 0), ⟨[], [], []⟩))
def VH_laws_eqChangeS_29 : Cont3 → Option ((List (List PV)) × (List (List PV)) × Int)
  | ([[[.r w0]], [[.r w1]], [[.i w2]]], [], []) => some (w0, w1, w2)
  | _ => none
abbrev LE_laws_eqChangeS_29 (n : Nat) : St → Tr (Ex × St) := lent (S_laws_eqChangeS_29 ([], [], 0)) VH_laws_eqChangeS_29 (B_laws_eqChangeS_29 n) DT_laws_eqChangeS_29 n
abbrev LT_laws_eqChangeS (n : Nat) : LTab := mkLT [(29, LE_laws_eqChangeS_29 n)]
def T_laws_eqChangeS (n : Nat) (x0 : List (List PV)) (x1 : List (List PV)) : Tr (Bool) := (.ask (((x0.length : Int) != (x1.length : Int))) (.done false) (.opt (loopF (B_laws_eqChangeS_29 n) n (x0, x1, (0 : Int))) fun r50 => (.alt r50 (fun r51 => (.done r51)) (fun r52 => (.done true)))))
def F_laws_eqChangeS : Nat → List (List PV) → List (List PV) → Option (Bool)
  | 0, _, _ => none
  | n + 1, x0, x1 => (T_laws_eqChangeS n x0 x1).run
theorem ft_laws_eqChangeS (n : Nat) (x0 : List (List PV)) (x1 : List (List PV)) : funT (CT_laws_eqChangeS n) (LT_laws_eqChangeS n) K_laws_eqChangeS (A_laws_eqChangeS x0 x1) (U_laws_eqChangeS x0 x1) = (T_laws_eqChangeS n x0 x1).bind fun r => .done (O_laws_eqChangeS r) := by kernel_rfl
theorem ct_laws_eqChangeS (n : Nat) : CTok (CT_laws_eqChangeS n) (runs KP lib n) := mkCT_cons (eo_laws_eqChange n (noEnt_ok)) (mkCT_nil)
theorem lt_laws_eqChangeS_29 (n : Nat) (v : (List (List PV)) × (List (List PV)) × Int) : (evalCT (CT_laws_eqChangeS n) (mkLT []) K_laws_eqChangeS_L29 (S_laws_eqChangeS_29 v) []).bind (ltail [0, 1, 5] [(.ret, [4]), ((.exit 0), [])]) = (B_laws_eqChangeS_29 n v).bind (lenc S_laws_eqChangeS_29 D_laws_eqChangeS_29) := by
  obtain ⟨w0, w1, w2⟩ := v
  kernel_rfl
theorem le_laws_eqChangeS_29 (n : Nat) : LEok (runs KP lib n) n (29, [0, 1, 5], [(.ret, [4]), ((.exit 0), [])], K_laws_eqChangeS_L29) (LE_laws_eqChangeS_29 n) := fun st e s h =>
  lent_ok (ct_laws_eqChangeS n) (noLoops rfl) (lt_laws_eqChangeS_29 n) (fun r => by
    rcases r with r | r <;> (intro h; cases h)) (fun r y h => by
    rcases r with r | r <;> (cases h; rfl)) (fun hs v h => by
    unfold VH_laws_eqChangeS_29 at h
    split at h <;> cases h
    rfl) h
theorem lo_laws_eqChangeS (n : Nat) : LTok (LT_laws_eqChangeS n) (runs KP lib n) n K_laws_eqChangeS.body := mkLT_ok (by
  intro x hx
  have hx : x ∈ ([(29, [0, 1, 5], [(.ret, [4]), ((.exit 0), [])], K_laws_eqChangeS_L29)] : List (Nat × List Nat × List (Ex × List Nat) × KCode)) := hx
  simp only [List.mem_cons, List.not_mem_nil, or_false] at hx
  rcases hx with rfl
  · exact ⟨LE_laws_eqChangeS_29 n, fun st => rfl, le_laws_eqChangeS_29 n⟩)
theorem th_laws_eqChangeS : ∀ (n : Nat) (x0 : List (List PV)) (x1 : List (List PV)) (r : Bool), F_laws_eqChangeS n x0 x1 = some r → runs KP lib n 43 (A_laws_eqChangeS x0 x1) (U_laws_eqChangeS x0 x1) = some (O_laws_eqChangeS r)
  | 0, x0, x1, r, h => by cases h
  | n + 1, x0, x1, r, h => fun_step (kf := K_laws_eqChangeS) rfl (ct_laws_eqChangeS n) (lo_laws_eqChangeS n) (ft_laws_eqChangeS n x0 x1) h
def FH_laws_eqChangeS (n : Nat) : Cont → Option (Bool)
  | ([[[.r x0]], [[.r x1]]], []) => F_laws_eqChangeS n x0 x1
  | _ => none
def E_laws_eqChangeS (n : Nat) (d : List AV → List Go.Eng.Frame → Tr Res) : List AV → List Go.Eng.Frame → Tr Res := cent (A_laws_eqChangeS ([]) ([])) (U_laws_eqChangeS ([]) ([])) (FH_laws_eqChangeS n) O_laws_eqChangeS d
theorem eo_laws_eqChangeS (n : Nat) {d : List AV → List Go.Eng.Frame → Tr Res} (hd : ∀ ar up r, (d ar up).run = some r → runs KP lib n 43 ar up = some r) : ∀ ar up r, (E_laws_eqChangeS n d ar up).run = some r → runs KP lib n 43 ar up = some r :=
  cent_ok (fun hs r h => by
    unfold FH_laws_eqChangeS at h
    split at h
    · exact ⟨A_laws_eqChangeS _ _, U_laws_eqChangeS _ _, rfl, rfl, th_laws_eqChangeS n _ _ r h⟩
    · cases h) hd
/-! ### laws.markText -/
def A_laws_markText (x0 : Int) : List AV := [(.c (.p (.i .i64 x0)))]
def U_laws_markText (x0 : Int) : List Go.Eng.Frame := []
def O_laws_markText (r : ByteArray) : Res := ⟨(.c (.p (.s r))), [], []⟩
abbrev CT_laws_markText (n : Nat) : CTab := mkCT []
def S_laws_markText_30 (v : Int × ByteArray) : St := ⟨[(0, (.c (.p (.i .i64 v.1)))), (3, (.c (.p (.s v.2))))], [], []⟩
def B_laws_markText_30 (n : Nat) (v : Int × ByteArray) : Tr ((Int × ByteArray) ⊕ ((ByteArray))) := (.ask ((decide (v.1 > (0 : Int)))) (.ask (decide (1 = ([[(.i .u8 (IntKind.u8.wrap (IntKind.i64.wrap ((48 : Int) + (Int.tmod v.1 (10 : Int))))))]] : List (List PV)).length)) (.opt (bytesOf ([[(.i .u8 (IntKind.u8.wrap (IntKind.i64.wrap ((48 : Int) + (Int.tmod v.1 (10 : Int))))))]] : List (List PV))) fun l58 => (.ask (decide ((⟨l58.toArray⟩ : ByteArray).size + v.2.size ≤ 9223372036854775807)) (.done (.inl ((IntKind.i64.wrap (Int.tdiv v.1 (10 : Int))), ((⟨l58.toArray⟩ : ByteArray) ++ v.2)))) .fail)) .fail) (.done (.inr (v.2))))
def D_laws_markText_30 : (ByteArray) → Ex × St := fun r => ((.exit 0), ⟨[(3, (.c (.p (.s r))))], [], []⟩)
def DT_laws_markText_30 : (ByteArray) → Tr (Ex × St) := fun r => .done ((.exit 0), ⟨[(3, (.c (.p (.s r))))], [], []⟩)
def VH_laws_markText_30 : Cont3 → Option (Int × ByteArray)
  | ([[[.i w0]], [[.s w1]]], [], []) => some (w0, w1)
  | _ => none
abbrev LE_laws_markText_30 (n : Nat) : St → Tr (Ex × St) := lent (S_laws_markText_30 (0, ⟨#[]⟩)) VH_laws_markText_30 (B_laws_markText_30 n) DT_laws_markText_30 n
abbrev LT_laws_markText (n : Nat) : LTab := mkLT [(30, LE_laws_markText_30 n)]
def T_laws_markText (n : Nat) (x0 : Int) : Tr (ByteArray) := (.ask ((decide (x0 ≤ (0 : Int)))) (.done (⟨#[109, 48]⟩ : ByteArray)) (.opt (loopF (B_laws_markText_30 n) n (x0, (⟨#[]⟩ : ByteArray))) fun r59 => (.ask (decide ((⟨#[109]⟩ : ByteArray).size + r59.size ≤ 9223372036854775807)) (.done ((⟨#[109]⟩ : ByteArray) ++ r59)) .fail)))
def F_laws_markText : Nat → Int → Option (ByteArray)
  | 0, _ => none
  | n + 1, x0 => (T_laws_markText n x0).run
theorem ft_laws_markText (n : Nat) (x0 : Int) : funT (CT_laws_markText n) (LT_laws_markText n) K_laws_markText (A_laws_markText x0) (U_laws_markText x0) = (T_laws_markText n x0).bind fun r => .done (O_laws_markText r) := by kernel_rfl
theorem ct_laws_markText (n : Nat) : CTok (CT_laws_markText n) (runs KP lib n) := mkCT_nil
theorem lt_laws_markText_30 (n : Nat) (v : Int × ByteArray) : (evalCT (CT_laws_markText n) (mkLT []) K_laws_markText_L30 (S_laws_markText_30 v) []).bind (ltail [0, 3] [(.ret, [2]), ((.exit 0), [3])]) = (B_laws_markText_30 n v).bind (lenc S_laws_markText_30 D_laws_markText_30) := by
  obtain ⟨w0, w1⟩ := v
  kernel_rfl
theorem le_laws_markText_30 (n : Nat) : LEok (runs KP lib n) n (30, [0, 3], [(.ret, [2]), ((.exit 0), [3])], K_laws_markText_L30) (LE_laws_markText_30 n) := fun st e s h =>
  lent_ok (ct_laws_markText n) (noLoops rfl) (lt_laws_markText_30 n) (fun r h => by cases h) (fun r y h => by cases h; rfl) (fun hs v h => by
    unfold VH_laws_markText_30 at h
    split at h <;> cases h
    rfl) h
theorem lo_laws_markText (n : Nat) : LTok (LT_laws_markText n) (runs KP lib n) n K_laws_markText.body := mkLT_ok (by
  intro x hx
  have hx : x ∈ ([(30, [0, 3], [(.ret, [2]), ((.exit 0), [3])], K_laws_markText_L30)] : List (Nat × List Nat × List (Ex × List Nat) × KCode)) := hx
  simp only [List.mem_cons, List.not_mem_nil, or_false] at hx
  rcases hx with rfl
  · exact ⟨LE_laws_markText_30 n, fun st => rfl, le_laws_markText_30 n⟩)
theorem th_laws_markText : ∀ (n : Nat) (x0 : Int) (r : ByteArray), F_laws_markText n x0 = some r → runs KP lib n 63 (A_laws_markText x0) (U_laws_markText x0) = some (O_laws_markText r)
  | 0, x0, r, h => by cases h
  | n + 1, x0, r, h => fun_step (kf := K_laws_markText) rfl (ct_laws_markText n) (lo_laws_markText n) (ft_laws_markText n x0) h
def FH_laws_markText (n : Nat) : Cont → Option (ByteArray)
  | ([[[.i x0]]], []) => F_laws_markText n x0
  | _ => none
def E_laws_markText (n : Nat) (d : List AV → List Go.Eng.Frame → Tr Res) : List AV → List Go.Eng.Frame → Tr Res := cent (A_laws_markText (0)) (U_laws_markText (0)) (FH_laws_markText n) O_laws_markText d
theorem eo_laws_markText (n : Nat) {d : List AV → List Go.Eng.Frame → Tr Res} (hd : ∀ ar up r, (d ar up).run = some r → runs KP lib n 63 ar up = some r) : ∀ ar up r, (E_laws_markText n d ar up).run = some r → runs KP lib n 63 ar up = some r :=
  cent_ok (fun hs r h => by
    unfold FH_laws_markText at h
    split at h
    · exact ⟨A_laws_markText _, U_laws_markText _, rfl, rfl, th_laws_markText n _ r h⟩
    · cases h) hd
/-! ### laws.markChangeS -/
def A_laws_markChangeS (x0 : Nat) (x1 : Int) (x2 : List (List PV)) : List AV := [(.c (.own 0 0 0 x0)), (.c (.p (.i .i64 x1)))]
def U_laws_markChangeS (x0 : Nat) (x1 : Int) (x2 : List (List PV)) : List Go.Eng.Frame := [[(0, ⟨0, 4, 80, (.row x2)⟩)]]
def O_laws_markChangeS (r : Int × (List (List PV))) : Res := ⟨(.c (.p (.i .i64 r.1))), [[(0, ⟨0, 4, 80, (.row r.2)⟩)]], []⟩
abbrev CT_laws_markChangeS (n : Nat) : CTab := mkCT [(63, E_laws_markText n (noEnt))]
def S_laws_markChangeS_13 (v : Nat × Int × Int × (List (List PV))) : St := ⟨[(0, (.c (.own 0 0 0 v.1))), (1, (.c (.p (.i .i64 v.2.1)))), (5, (.c (.p (.i .i64 v.2.2.1))))], [], [[(0, ⟨0, 4, 80, (.row v.2.2.2)⟩)]]⟩
def B_laws_markChangeS_13 (n : Nat) (v : Nat × Int × Int × (List (List PV))) : Tr ((Nat × Int × Int × (List (List PV))) ⊕ ((Int × (List (List PV))))) := (.ask ((decide (v.2.2.1 < ((v.1 : Nat) : Int)))) (.ask (decide (v.1 = v.2.2.2.length ∧ 0 ≤ v.2.2.1 ∧ v.2.2.1 < ((v.1 : Nat) : Int))) (.opt (v.2.2.2[(v.2.2.1).toNat]?) fun e56 => (.ask (decide (0 + 1 ≤ e56.length)) (.ask (decide (v.1 = (v.2.2.2.set (v.2.2.1).toNat (setAt e56 0 [(.i .i64 v.2.1)])).length ∧ 0 ≤ v.2.2.1 ∧ v.2.2.1 < ((v.1 : Nat) : Int))) (.opt ((v.2.2.2.set (v.2.2.1).toNat (setAt e56 0 [(.i .i64 v.2.1)]))[(v.2.2.1).toNat]?) fun e57 => (.ask (decide (1 + 1 ≤ e57.length)) (.opt (F_laws_markText n (IntKind.i64.wrap ((IntKind.i64.wrap (v.2.1 + (1 : Int))) + (1 : Int)))) fun r58 => (.ask (decide (v.1 = ((v.2.2.2.set (v.2.2.1).toNat (setAt e56 0 [(.i .i64 v.2.1)])).set (v.2.2.1).toNat (setAt e57 1 [(.i .i64 (IntKind.i64.wrap (v.2.1 + (1 : Int))))])).length ∧ 0 ≤ v.2.2.1 ∧ v.2.2.1 < ((v.1 : Nat) : Int))) (.opt (((v.2.2.2.set (v.2.2.1).toNat (setAt e56 0 [(.i .i64 v.2.1)])).set (v.2.2.1).toNat (setAt e57 1 [(.i .i64 (IntKind.i64.wrap (v.2.1 + (1 : Int))))]))[(v.2.2.1).toNat]?) fun e59 => (.ask (decide (2 + 1 ≤ e59.length)) (.opt (F_laws_markText n (IntKind.i64.wrap ((IntKind.i64.wrap ((IntKind.i64.wrap (v.2.1 + (1 : Int))) + (1 : Int))) + (1 : Int)))) fun r60 => (.ask (decide (v.1 = (((v.2.2.2.set (v.2.2.1).toNat (setAt e56 0 [(.i .i64 v.2.1)])).set (v.2.2.1).toNat (setAt e57 1 [(.i .i64 (IntKind.i64.wrap (v.2.1 + (1 : Int))))])).set (v.2.2.1).toNat (setAt e59 2 [(.s r58)])).length ∧ 0 ≤ v.2.2.1 ∧ v.2.2.1 < ((v.1 : Nat) : Int))) (.opt ((((v.2.2.2.set (v.2.2.1).toNat (setAt e56 0 [(.i .i64 v.2.1)])).set (v.2.2.1).toNat (setAt e57 1 [(.i .i64 (IntKind.i64.wrap (v.2.1 + (1 : Int))))])).set (v.2.2.1).toNat (setAt e59 2 [(.s r58)]))[(v.2.2.1).toNat]?) fun e61 => (.ask (decide (3 + 1 ≤ e61.length)) (.done (.inl (v.1, (IntKind.i64.wrap ((IntKind.i64.wrap ((IntKind.i64.wrap ((IntKind.i64.wrap (v.2.1 + (1 : Int))) + (1 : Int))) + (1 : Int))) + (1 : Int))), (IntKind.i64.wrap (v.2.2.1 + (1 : Int))), ((((v.2.2.2.set (v.2.2.1).toNat (setAt e56 0 [(.i .i64 v.2.1)])).set (v.2.2.1).toNat (setAt e57 1 [(.i .i64 (IntKind.i64.wrap (v.2.1 + (1 : Int))))])).set (v.2.2.1).toNat (setAt e59 2 [(.s r58)])).set (v.2.2.1).toNat (setAt e61 3 [(.s r60)]))))) .fail)) .fail)) .fail)) .fail)) .fail)) .fail) .fail)) .fail) (.done (.inr ((v.2.1, v.2.2.2)))))
def D_laws_markChangeS_13 : (Int × (List (List PV))) → Ex × St := fun r => ((.exit 0), ⟨[(1, (.c (.p (.i .i64 r.1))))], [], [[(0, ⟨0, 4, 80, (.row r.2)⟩)]]⟩)
def DT_laws_markChangeS_13 : (Int × (List (List PV))) → Tr (Ex × St) := fun r => .done ((.exit 0), ⟨[(1, (.c (.p (.i .i64 r.1))))], [], [[(0, ⟨0, 4, 80, (.row r.2)⟩)]]⟩)
def VH_laws_markChangeS_13 : Cont3 → Option (Nat × Int × Int × (List (List PV)))
  | ([[[.n w0]], [[.i w1]], [[.i w2]]], [], [[[[.r w3]]]]) => some (w0, w1, w2, w3)
  | _ => none
abbrev LE_laws_markChangeS_13 (n : Nat) : St → Tr (Ex × St) := lent (S_laws_markChangeS_13 (0, 0, 0, [])) VH_laws_markChangeS_13 (B_laws_markChangeS_13 n) DT_laws_markChangeS_13 n
abbrev LT_laws_markChangeS (n : Nat) : LTab := mkLT [(13, LE_laws_markChangeS_13 n)]
def T_laws_markChangeS (n : Nat) (x0 : Nat) (x1 : Int) (x2 : List (List PV)) : Tr (Int × (List (List PV))) := (.opt (loopF (B_laws_markChangeS_13 n) n (x0, x1, (0 : Int), x2)) fun r62 => (.done (r62.1, r62.2)))
def F_laws_markChangeS : Nat → Nat → Int → List (List PV) → Option (Int × (List (List PV)))
  | 0, _, _, _ => none
  | n + 1, x0, x1, x2 => (T_laws_markChangeS n x0 x1 x2).run
theorem ft_laws_markChangeS (n : Nat) (x0 : Nat) (x1 : Int) (x2 : List (List PV)) : funT (CT_laws_markChangeS n) (LT_laws_markChangeS n) K_laws_markChangeS (A_laws_markChangeS x0 x1 x2) (U_laws_markChangeS x0 x1 x2) = (T_laws_markChangeS n x0 x1 x2).bind fun r => .done (O_laws_markChangeS r) := by kernel_rfl
theorem ct_laws_markChangeS (n : Nat) : CTok (CT_laws_markChangeS n) (runs KP lib n) := mkCT_cons (eo_laws_markText n (noEnt_ok)) (mkCT_nil)
theorem lt_laws_markChangeS_13 (n : Nat) (v : Nat × Int × Int × (List (List PV))) : (evalCT (CT_laws_markChangeS n) (mkLT []) K_laws_markChangeS_L13 (S_laws_markChangeS_13 v) []).bind (ltail [0, 1, 5] [(.ret, [4]), ((.exit 0), [1])]) = (B_laws_markChangeS_13 n v).bind (lenc S_laws_markChangeS_13 D_laws_markChangeS_13) := by
  obtain ⟨w0, w1, w2, w3⟩ := v
  kernel_rfl
theorem le_laws_markChangeS_13 (n : Nat) : LEok (runs KP lib n) n (13, [0, 1, 5], [(.ret, [4]), ((.exit 0), [1])], K_laws_markChangeS_L13) (LE_laws_markChangeS_13 n) := fun st e s h =>
  lent_ok (ct_laws_markChangeS n) (noLoops rfl) (lt_laws_markChangeS_13 n) (fun r h => by cases h) (fun r y h => by cases h; rfl) (fun hs v h => by
    unfold VH_laws_markChangeS_13 at h
    split at h <;> cases h
    rfl) h
theorem lo_laws_markChangeS (n : Nat) : LTok (LT_laws_markChangeS n) (runs KP lib n) n K_laws_markChangeS.body := mkLT_ok (by
  intro x hx
  have hx : x ∈ ([(13, [0, 1, 5], [(.ret, [4]), ((.exit 0), [1])], K_laws_markChangeS_L13)] : List (Nat × List Nat × List (Ex × List Nat) × KCode)) := hx
  simp only [List.mem_cons, List.not_mem_nil, or_false] at hx
  rcases hx with rfl
  · exact ⟨LE_laws_markChangeS_13 n, fun st => rfl, le_laws_markChangeS_13 n⟩)
theorem th_laws_markChangeS : ∀ (n : Nat) (x0 : Nat) (x1 : Int) (x2 : List (List PV)) (r : Int × (List (List PV))), F_laws_markChangeS n x0 x1 x2 = some r → runs KP lib n 44 (A_laws_markChangeS x0 x1 x2) (U_laws_markChangeS x0 x1 x2) = some (O_laws_markChangeS r)
  | 0, x0, x1, x2, r, h => by cases h
  | n + 1, x0, x1, x2, r, h => fun_step (kf := K_laws_markChangeS) rfl (ct_laws_markChangeS n) (lo_laws_markChangeS n) (ft_laws_markChangeS n x0 x1 x2) h
def FH_laws_markChangeS (n : Nat) : Cont → Option (Int × (List (List PV)))
  | ([[[.n x0]], [[.i x1]]], [[[[.r x2]]]]) => F_laws_markChangeS n x0 x1 x2
  | _ => none
def E_laws_markChangeS (n : Nat) (d : List AV → List Go.Eng.Frame → Tr Res) : List AV → List Go.Eng.Frame → Tr Res := cent (A_laws_markChangeS (0) (0) ([])) (U_laws_markChangeS (0) (0) ([])) (FH_laws_markChangeS n) O_laws_markChangeS d
theorem eo_laws_markChangeS (n : Nat) {d : List AV → List Go.Eng.Frame → Tr Res} (hd : ∀ ar up r, (d ar up).run = some r → runs KP lib n 44 ar up = some r) : ∀ ar up r, (E_laws_markChangeS n d ar up).run = some r → runs KP lib n 44 ar up = some r :=
  cent_ok (fun hs r h => by
    unfold FH_laws_markChangeS at h
    split at h
    · exact ⟨A_laws_markChangeS _ _ _, U_laws_markChangeS _ _ _, rfl, rfl, th_laws_markChangeS n _ _ _ r h⟩
    · cases h) hd
/-! ### laws.heldChangeS -/
def A_laws_heldChangeS (x0 : List (List PV)) (x1 : Int) : List AV := [(.c (.p (.ls x0))), (.c (.p (.i .i64 x1)))]
def U_laws_heldChangeS (x0 : List (List PV)) (x1 : Int) : List Go.Eng.Frame := []
def O_laws_heldChangeS (r : Int) : Res := ⟨(.c (.p (.i .i64 r))), [], []⟩
abbrev CT_laws_heldChangeS (n : Nat) : CTab := mkCT [(63, E_laws_markText n (noEnt))]
def S_laws_heldChangeS_13 (v : (List (List PV)) × Int × Int) : St := ⟨[(0, (.c (.p (.ls v.1)))), (1, (.c (.p (.i .i64 v.2.1)))), (5, (.c (.p (.i .i64 v.2.2))))], [], []⟩
def B_laws_heldChangeS_13 (n : Nat) (v : (List (List PV)) × Int × Int) : Tr (((List (List PV)) × Int × Int) ⊕ ((Int) ⊕ (Int))) := (.ask ((decide (v.2.2 < (v.1.length : Int)))) (.ask (decide (0 ≤ v.2.2 ∧ v.2.2 < v.1.length)) (.opt (v.1[(v.2.2).toNat]?) fun e66 => (.ask (decide (e66.length = 4)) (.opt (cellI .i64 e66 0) fun y67 => (.ask ((y67 != v.2.1)) (.done (.inr (.inl ((-1 : Int))))) (.ask (decide (0 ≤ v.2.2 ∧ v.2.2 < v.1.length)) (.opt (v.1[(v.2.2).toNat]?) fun e68 => (.ask (decide (e68.length = 4)) (.opt (cellI .i64 e68 1) fun y69 => (.ask ((y69 != (IntKind.i64.wrap (v.2.1 + (1 : Int))))) (.done (.inr (.inl ((-1 : Int))))) (.ask (decide (0 ≤ v.2.2 ∧ v.2.2 < v.1.length)) (.opt (v.1[(v.2.2).toNat]?) fun e70 => (.ask (decide (e70.length = 4)) (.opt (cellS e70 2) fun y71 => (.opt (F_laws_markText n (IntKind.i64.wrap ((IntKind.i64.wrap (v.2.1 + (1 : Int))) + (1 : Int)))) fun r72 => (.ask ((!(y71.toList == r72.toList))) (.done (.inr (.inl ((-1 : Int))))) (.ask (decide (0 ≤ v.2.2 ∧ v.2.2 < v.1.length)) (.opt (v.1[(v.2.2).toNat]?) fun e73 => (.ask (decide (e73.length = 4)) (.opt (cellS e73 3) fun y74 => (.opt (F_laws_markText n (IntKind.i64.wrap ((IntKind.i64.wrap ((IntKind.i64.wrap (v.2.1 + (1 : Int))) + (1 : Int))) + (1 : Int)))) fun r75 => (.ask ((!(y74.toList == r75.toList))) (.done (.inr (.inl ((-1 : Int))))) (.done (.inl (v.1, (IntKind.i64.wrap ((IntKind.i64.wrap ((IntKind.i64.wrap ((IntKind.i64.wrap (v.2.1 + (1 : Int))) + (1 : Int))) + (1 : Int))) + (1 : Int))), (IntKind.i64.wrap (v.2.2 + (1 : Int))))))))) .fail)) .fail)))) .fail)) .fail))) .fail)) .fail))) .fail)) .fail) (.done (.inr (.inr (v.2.1)))))
def D_laws_heldChangeS_13 : ((Int) ⊕ (Int)) → Ex × St := fun | .inl r => (.ret, ⟨[(4, (.c (.p (.i .i64 r))))], [], []⟩) | .inr r => (fun r => ((.exit 0), ⟨[(1, (.c (.p (.i .i64 r))))], [], []⟩)) r
def DT_laws_heldChangeS_13 : ((Int) ⊕ (Int)) → Tr (Ex × St) := fun r => .alt r (fun r => .done (.ret, ⟨[(4, (.c (.p (.i .i64 r))))], [], []⟩)) (fun r => .done ((.exit 0), ⟨[(1, (.c (.p (.i .i64 r))))], [], []⟩))
def VH_laws_heldChangeS_13 : Cont3 → Option ((List (List PV)) × Int × Int)
  | ([[[.r w0]], [[.i w1]], [[.i w2]]], [], []) => some (w0, w1, w2)
  | _ => none
abbrev LE_laws_heldChangeS_13 (n : Nat) : St → Tr (Ex × St) := lent (S_laws_heldChangeS_13 ([], 0, 0)) VH_laws_heldChangeS_13 (B_laws_heldChangeS_13 n) DT_laws_heldChangeS_13 n
abbrev LT_laws_heldChangeS (n : Nat) : LTab := mkLT [(13, LE_laws_heldChangeS_13 n)]
def T_laws_heldChangeS (n : Nat) (x0 : List (List PV)) (x1 : Int) : Tr (Int) := (.opt (loopF (B_laws_heldChangeS_13 n) n (x0, x1, (0 : Int))) fun r76 => (.alt r76 (fun r77 => (.done r77)) (fun r78 => (.done r78))))
def F_laws_heldChangeS : Nat → List (List PV) → Int → Option (Int)
  | 0, _, _ => none
  | n + 1, x0, x1 => (T_laws_heldChangeS n x0 x1).run
theorem ft_laws_heldChangeS (n : Nat) (x0 : List (List PV)) (x1 : Int) : funT (CT_laws_heldChangeS n) (LT_laws_heldChangeS n) K_laws_heldChangeS (A_laws_heldChangeS x0 x1) (U_laws_heldChangeS x0 x1) = (T_laws_heldChangeS n x0 x1).bind fun r => .done (O_laws_heldChangeS r) := by kernel_rfl
theorem ct_laws_heldChangeS (n : Nat) : CTok (CT_laws_heldChangeS n) (runs KP lib n) := mkCT_cons (eo_laws_markText n (noEnt_ok)) (mkCT_nil)
theorem lt_laws_heldChangeS_13 (n : Nat) (v : (List (List PV)) × Int × Int) : (evalCT (CT_laws_heldChangeS n) (mkLT []) K_laws_heldChangeS_L13 (S_laws_heldChangeS_13 v) []).bind (ltail [0, 1, 5] [(.ret, [4]), ((.exit 0), [1])]) = (B_laws_heldChangeS_13 n v).bind (lenc S_laws_heldChangeS_13 D_laws_heldChangeS_13) := by
  obtain ⟨w0, w1, w2⟩ := v
  kernel_rfl
theorem le_laws_heldChangeS_13 (n : Nat) : LEok (runs KP lib n) n (13, [0, 1, 5], [(.ret, [4]), ((.exit 0), [1])], K_laws_heldChangeS_L13) (LE_laws_heldChangeS_13 n) := fun st e s h =>
  lent_ok (ct_laws_heldChangeS n) (noLoops rfl) (lt_laws_heldChangeS_13 n) (fun r => by
    rcases r with r | r <;> (intro h; cases h)) (fun r y h => by
    rcases r with r | r <;> (cases h; rfl)) (fun hs v h => by
    unfold VH_laws_heldChangeS_13 at h
    split at h <;> cases h
    rfl) h
theorem lo_laws_heldChangeS (n : Nat) : LTok (LT_laws_heldChangeS n) (runs KP lib n) n K_laws_heldChangeS.body := mkLT_ok (by
  intro x hx
  have hx : x ∈ ([(13, [0, 1, 5], [(.ret, [4]), ((.exit 0), [1])], K_laws_heldChangeS_L13)] : List (Nat × List Nat × List (Ex × List Nat) × KCode)) := hx
  simp only [List.mem_cons, List.not_mem_nil, or_false] at hx
  rcases hx with rfl
  · exact ⟨LE_laws_heldChangeS_13 n, fun st => rfl, le_laws_heldChangeS_13 n⟩)
theorem th_laws_heldChangeS : ∀ (n : Nat) (x0 : List (List PV)) (x1 : Int) (r : Int), F_laws_heldChangeS n x0 x1 = some r → runs KP lib n 45 (A_laws_heldChangeS x0 x1) (U_laws_heldChangeS x0 x1) = some (O_laws_heldChangeS r)
  | 0, x0, x1, r, h => by cases h
  | n + 1, x0, x1, r, h => fun_step (kf := K_laws_heldChangeS) rfl (ct_laws_heldChangeS n) (lo_laws_heldChangeS n) (ft_laws_heldChangeS n x0 x1) h
def FH_laws_heldChangeS (n : Nat) : Cont → Option (Int)
  | ([[[.r x0]], [[.i x1]]], []) => F_laws_heldChangeS n x0 x1
  | _ => none
def E_laws_heldChangeS (n : Nat) (d : List AV → List Go.Eng.Frame → Tr Res) : List AV → List Go.Eng.Frame → Tr Res := cent (A_laws_heldChangeS ([]) (0)) (U_laws_heldChangeS ([]) (0)) (FH_laws_heldChangeS n) O_laws_heldChangeS d
theorem eo_laws_heldChangeS (n : Nat) {d : List AV → List Go.Eng.Frame → Tr Res} (hd : ∀ ar up r, (d ar up).run = some r → runs KP lib n 45 ar up = some r) : ∀ ar up r, (E_laws_heldChangeS n d ar up).run = some r → runs KP lib n 45 ar up = some r :=
  cent_ok (fun hs r h => by
    unfold FH_laws_heldChangeS at h
    split at h
    · exact ⟨A_laws_heldChangeS _ _, U_laws_heldChangeS _ _, rfl, rfl, th_laws_heldChangeS n _ _ r h⟩
    · cases h) hd
/-! ### laws.FnExactTurned -/
def A_laws_FnExactTurned (x0 : List (List PV)) : List AV := [(.c (.p (.ls x0)))]
def U_laws_FnExactTurned (x0 : List (List PV)) : List Go.Eng.Frame := []
def O_laws_FnExactTurned (r : Bool) : Res := ⟨(.c (.p (.b r))), [], []⟩
abbrev CT_laws_FnExactTurned (n : Nat) : CTab := mkCT [(39, E_laws_szChangeS n (noEnt)), (41, E_laws_toChangeS n (noEnt)), (40, E_spec_Turned n (noEnt)), (42, E_impl_Turned n (noEnt)), (43, E_laws_eqChangeS n (noEnt)), (44, E_laws_markChangeS n (noEnt)), (45, E_laws_heldChangeS n (noEnt))]
abbrev LT_laws_FnExactTurned (n : Nat) : LTab := mkLT []
def T_laws_FnExactTurned (n : Nat) (x0 : List (List PV)) : Tr (Bool) := (.opt (F_laws_szChangeS n x0 (1048576 : Int)) fun r10 => (.ask ((decide (r10 < (0 : Int)))) (.done true) (.opt (F_laws_toChangeS n x0) fun r19 => (.ask (decide (r19.1 = r19.2.length)) (.opt (F_spec_Turned n r19.2) fun r28 => (.ask (apartR (⟨(.c (.own 0 0 0 r28.1)), [], [⟨0, 4, 80, (.row r28.2)⟩]⟩ : Res)) (.opt (F_laws_toChangeS n x0) fun r29 => (.ask (decide (r29.1 = r29.2.length)) (.opt (F_impl_Turned n r29.2) fun r38 => (.ask (apartR (⟨(.c (.own 0 0 0 r38.1)), [], [⟨0, 4, 80, (.row r38.2)⟩]⟩ : Res)) (.ask (decide (r38.1 = r38.2.length)) (.ask (decide (r28.1 = r28.2.length)) (.opt (F_laws_eqChangeS n r38.2 r28.2) fun r53 => (.ask (apartR (⟨(.c (.p (.b r53))), [], []⟩ : Res)) (.ask ((!r53)) (.done false) (.opt (F_laws_toChangeS n x0) fun r54 => (.ask (decide (r29.1 = r29.2.length)) (.ask (decide (r54.1 = r54.2.length)) (.opt (F_laws_eqChangeS n r29.2 r54.2) fun r55 => (.ask (apartR (⟨(.c (.p (.b r55))), [], []⟩ : Res)) (.ask ((!r55)) (.done false) (.ask (decide (r29.1 = r29.2.length)) (.opt (F_laws_markChangeS n r29.1 (1 : Int) r29.2) fun r63 => (.ask ((decide (r63.1 < (0 : Int)))) (.done false) (.ask (decide (r38.1 = r38.2.length)) (.ask (decide (r28.1 = r28.2.length)) (.opt (F_laws_eqChangeS n r38.2 r28.2) fun r64 => (.ask (apartR (⟨(.c (.p (.b r64))), [], []⟩ : Res)) (.ask ((!r64)) (.done false) (.ask (decide (r38.1 = r38.2.length)) (.opt (F_laws_markChangeS n r38.1 (1 : Int) r38.2) fun r65 => (.ask (decide (r38.1 = r65.2.length)) (.opt (F_laws_heldChangeS n r65.2 (1 : Int)) fun r79 => (.ask (apartR (⟨(.c (.p (.i .i64 r79))), [], []⟩ : Res)) (.ask ((decide (r79 < (0 : Int)))) (.done false) (.ask ((r79 != r65.1)) (.done false) (.opt (F_laws_toChangeS n x0) fun r80 => (.ask (decide (r80.1 = r80.2.length)) (.opt (F_impl_Turned n r80.2) fun r81 => (.ask (apartR (⟨(.c (.own 0 0 0 r81.1)), [], [⟨0, 4, 80, (.row r81.2)⟩]⟩ : Res)) (.ask (decide (r81.1 = r81.2.length)) (.ask (decide (r28.1 = r28.2.length)) (.opt (F_laws_eqChangeS n r81.2 r28.2) fun r82 => (.ask (apartR (⟨(.c (.p (.b r82))), [], []⟩ : Res)) (.ask ((!r82)) (.done false) (.ask (decide (r38.1 = r65.2.length)) (.opt (F_laws_heldChangeS n r65.2 (1 : Int)) fun r83 => (.ask (apartR (⟨(.c (.p (.i .i64 r83))), [], []⟩ : Res)) (.ask ((decide (r83 < (0 : Int)))) (.done false) (.ask ((r83 != r65.1)) (.done false) (.done true))) .fail)) .fail)) .fail)) .fail) .fail) .fail)) .fail)))) .fail)) .fail)) .fail)) .fail)) .fail) .fail))) .fail)) .fail)) .fail) .fail))) .fail)) .fail) .fail) .fail)) .fail)) .fail)) .fail))))
def F_laws_FnExactTurned : Nat → List (List PV) → Option (Bool)
  | 0, _ => none
  | n + 1, x0 => (T_laws_FnExactTurned n x0).run
theorem ft_laws_FnExactTurned (n : Nat) (x0 : List (List PV)) : funT (CT_laws_FnExactTurned n) (LT_laws_FnExactTurned n) K_laws_FnExactTurned (A_laws_FnExactTurned x0) (U_laws_FnExactTurned x0) = (T_laws_FnExactTurned n x0).bind fun r => .done (O_laws_FnExactTurned r) := by kernel_rfl
theorem ct_laws_FnExactTurned (n : Nat) : CTok (CT_laws_FnExactTurned n) (runs KP lib n) := mkCT_cons (eo_laws_szChangeS n (noEnt_ok)) (mkCT_cons (eo_laws_toChangeS n (noEnt_ok)) (mkCT_cons (eo_spec_Turned n (noEnt_ok)) (mkCT_cons (eo_impl_Turned n (noEnt_ok)) (mkCT_cons (eo_laws_eqChangeS n (noEnt_ok)) (mkCT_cons (eo_laws_markChangeS n (noEnt_ok)) (mkCT_cons (eo_laws_heldChangeS n (noEnt_ok)) (mkCT_nil)))))))
theorem th_laws_FnExactTurned : ∀ (n : Nat) (x0 : List (List PV)) (r : Bool), F_laws_FnExactTurned n x0 = some r → runs KP lib n 12 (A_laws_FnExactTurned x0) (U_laws_FnExactTurned x0) = some (O_laws_FnExactTurned r)
  | 0, x0, r, h => by cases h
  | n + 1, x0, r, h => fun_step (kf := K_laws_FnExactTurned) rfl (ct_laws_FnExactTurned n) (noLoops rfl) (ft_laws_FnExactTurned n x0) h
def FH_laws_FnExactTurned (n : Nat) : Cont → Option (Bool)
  | ([[[.r x0]]], []) => F_laws_FnExactTurned n x0
  | _ => none
def E_laws_FnExactTurned (n : Nat) (d : List AV → List Go.Eng.Frame → Tr Res) : List AV → List Go.Eng.Frame → Tr Res := cent (A_laws_FnExactTurned ([])) (U_laws_FnExactTurned ([])) (FH_laws_FnExactTurned n) O_laws_FnExactTurned d
theorem eo_laws_FnExactTurned (n : Nat) {d : List AV → List Go.Eng.Frame → Tr Res} (hd : ∀ ar up r, (d ar up).run = some r → runs KP lib n 12 ar up = some r) : ∀ ar up r, (E_laws_FnExactTurned n d ar up).run = some r → runs KP lib n 12 ar up = some r :=
  cent_ok (fun hs r h => by
    unfold FH_laws_FnExactTurned at h
    split at h
    · exact ⟨A_laws_FnExactTurned _, U_laws_FnExactTurned _, rfl, rfl, th_laws_FnExactTurned n _ r h⟩
    · cases h) hd
end Go.Proofs.Ytoodcplobkflfaa.KFnExactTurned
