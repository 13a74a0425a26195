/-
  The trees of what FnExactFormulaOk calls: plain functions, and that the engine reckons just these. No condition.
-/
import Derived.Test.YtaannlnlddbgdabKFnExactFormulaOk
import Derived.Test.YtaannlnlddbgdabE31
import Derived.KernelRfl
namespace Go.Proofs.Ytaannlnlddbgdab.KFnExactFormulaOk
open Go.Eng
set_option linter.unusedVariables false
set_option maxRecDepth 100000
def lib : FuncId → List AV → Option AV := fun _ _ => none
/-! ### laws.szValue -/
def A_laws_szValue (x0 : Int) (x1 : Int) (x2 : ByteArray) (x3 : Int) : List AV := [(.agg [(.p (.i .i64 x0)), (.p (.i .i64 x1)), (.p (.s x2))]), (.c (.p (.i .i64 x3)))]
def U_laws_szValue (x0 : Int) (x1 : Int) (x2 : ByteArray) (x3 : Int) : List Go.Eng.Frame := []
def O_laws_szValue (r : Int) : Res := ⟨(.c (.p (.i .i64 r))), [], []⟩
abbrev CT_laws_szValue (n : Nat) : CTab := mkCT []
abbrev LT_laws_szValue (n : Nat) : LTab := mkLT []
def T_laws_szValue (n : Nat) (x0 : Int) (x1 : Int) (x2 : ByteArray) (x3 : Int) : Tr (Int) := (.ask ((decide ((IntKind.i64.wrap (x3 - (x2.size : Int))) < (0 : Int)))) (.done (-1 : Int)) (.done (IntKind.i64.wrap (x3 - (x2.size : Int)))))
def F_laws_szValue : Nat → Int → Int → ByteArray → Int → Option (Int)
  | 0, _, _, _, _ => none
  | n + 1, x0, x1, x2, x3 => (T_laws_szValue n x0 x1 x2 x3).run
theorem ft_laws_szValue (n : Nat) (x0 : Int) (x1 : Int) (x2 : ByteArray) (x3 : Int) : funT (CT_laws_szValue n) (LT_laws_szValue n) K_laws_szValue (A_laws_szValue x0 x1 x2 x3) (U_laws_szValue x0 x1 x2 x3) = (T_laws_szValue n x0 x1 x2 x3).bind fun r => .done (O_laws_szValue r) := by kernel_rfl
theorem ct_laws_szValue (n : Nat) : CTok (CT_laws_szValue n) (runs KP lib n) := mkCT_nil
theorem th_laws_szValue : ∀ (n : Nat) (x0 : Int) (x1 : Int) (x2 : ByteArray) (x3 : Int) (r : Int), F_laws_szValue n x0 x1 x2 x3 = some r → runs KP lib n 95 (A_laws_szValue x0 x1 x2 x3) (U_laws_szValue x0 x1 x2 x3) = some (O_laws_szValue r)
  | 0, x0, x1, x2, x3, r, h => by cases h
  | n + 1, x0, x1, x2, x3, r, h => fun_step (kf := K_laws_szValue) rfl (ct_laws_szValue n) (noLoops rfl) (ft_laws_szValue n x0 x1 x2 x3) h
def FH_laws_szValue (n : Nat) : Cont → Option (Int)
  | ([[[.i x0], [.i x1], [.s x2]], [[.i x3]]], []) => F_laws_szValue n x0 x1 x2 x3
  | _ => none
def E_laws_szValue (n : Nat) (d : List AV → List Go.Eng.Frame → Tr Res) : List AV → List Go.Eng.Frame → Tr Res := cent (A_laws_szValue (0) (0) (⟨#[]⟩) (0)) (U_laws_szValue (0) (0) (⟨#[]⟩) (0)) (FH_laws_szValue n) O_laws_szValue d
theorem eo_laws_szValue (n : Nat) {d : List AV → List Go.Eng.Frame → Tr Res} (hd : ∀ ar up r, (d ar up).run = some r → runs KP lib n 95 ar up = some r) : ∀ ar up r, (E_laws_szValue n d ar up).run = some r → runs KP lib n 95 ar up = some r :=
  cent_ok (fun hs r h => by
    unfold FH_laws_szValue at h
    split at h
    · exact ⟨A_laws_szValue _ _ _ _, U_laws_szValue _ _ _ _, rfl, rfl, th_laws_szValue n _ _ _ _ r h⟩
    · cases h) hd
/-! ### laws.szInt64S -/
def A_laws_szInt64S (x0 : List (List PV)) (x1 : Int) : List AV := [(.c (.p (.ls x0))), (.c (.p (.i .i64 x1)))]
def U_laws_szInt64S (x0 : List (List PV)) (x1 : Int) : List Go.Eng.Frame := []
def O_laws_szInt64S (r : Int) : Res := ⟨(.c (.p (.i .i64 r))), [], []⟩
abbrev CT_laws_szInt64S (n : Nat) : CTab := mkCT []
abbrev LT_laws_szInt64S (n : Nat) : LTab := mkLT []
def T_laws_szInt64S (n : Nat) (x0 : List (List PV)) (x1 : Int) : Tr (Int) := (.ask ((decide ((IntKind.i64.wrap (x1 - (x0.length : Int))) < (0 : Int)))) (.done (-1 : Int)) (.done (IntKind.i64.wrap (x1 - (x0.length : Int)))))
def F_laws_szInt64S : Nat → List (List PV) → Int → Option (Int)
  | 0, _, _ => none
  | n + 1, x0, x1 => (T_laws_szInt64S n x0 x1).run
theorem ft_laws_szInt64S (n : Nat) (x0 : List (List PV)) (x1 : Int) : funT (CT_laws_szInt64S n) (LT_laws_szInt64S n) K_laws_szInt64S (A_laws_szInt64S x0 x1) (U_laws_szInt64S x0 x1) = (T_laws_szInt64S n x0 x1).bind fun r => .done (O_laws_szInt64S r) := by kernel_rfl
theorem ct_laws_szInt64S (n : Nat) : CTok (CT_laws_szInt64S n) (runs KP lib n) := mkCT_nil
theorem th_laws_szInt64S : ∀ (n : Nat) (x0 : List (List PV)) (x1 : Int) (r : Int), F_laws_szInt64S n x0 x1 = some r → runs KP lib n 109 (A_laws_szInt64S x0 x1) (U_laws_szInt64S x0 x1) = some (O_laws_szInt64S r)
  | 0, x0, x1, r, h => by cases h
  | n + 1, x0, x1, r, h => fun_step (kf := K_laws_szInt64S) rfl (ct_laws_szInt64S n) (noLoops rfl) (ft_laws_szInt64S n x0 x1) h
def FH_laws_szInt64S (n : Nat) : Cont → Option (Int)
  | ([[[.r x0]], [[.i x1]]], []) => F_laws_szInt64S n x0 x1
  | _ => none
def E_laws_szInt64S (n : Nat) (d : List AV → List Go.Eng.Frame → Tr Res) : List AV → List Go.Eng.Frame → Tr Res := cent (A_laws_szInt64S ([]) (0)) (U_laws_szInt64S ([]) (0)) (FH_laws_szInt64S n) O_laws_szInt64S d
theorem eo_laws_szInt64S (n : Nat) {d : List AV → List Go.Eng.Frame → Tr Res} (hd : ∀ ar up r, (d ar up).run = some r → runs KP lib n 109 ar up = some r) : ∀ ar up r, (E_laws_szInt64S n d ar up).run = some r → runs KP lib n 109 ar up = some r :=
  cent_ok (fun hs r h => by
    unfold FH_laws_szInt64S at h
    split at h
    · exact ⟨A_laws_szInt64S _ _, U_laws_szInt64S _ _, rfl, rfl, th_laws_szInt64S n _ _ r h⟩
    · cases h) hd
/-! ### laws.szFNode -/
def A_laws_szFNode (x0 : Int) (x1 : Int) (x2 : Int) (x3 : Int) (x4 : ByteArray) (x5 : Int) (x6 : Int) (x7 : Bool) (x8 : Bool) (x9 : Int) (x10 : Int) (x11 : Bool) (x12 : Bool) (x13 : List (List PV)) (x14 : Int) : List AV := [(.agg [(.p (.i .i64 x0)), (.p (.i .i64 x1)), (.p (.i .i64 x2)), (.p (.i .i64 x3)), (.p (.s x4)), (.p (.i .i64 x5)), (.p (.i .i64 x6)), (.p (.b x7)), (.p (.b x8)), (.p (.i .i64 x9)), (.p (.i .i64 x10)), (.p (.b x11)), (.p (.b x12)), (.p (.ls x13))]), (.c (.p (.i .i64 x14)))]
def U_laws_szFNode (x0 : Int) (x1 : Int) (x2 : Int) (x3 : Int) (x4 : ByteArray) (x5 : Int) (x6 : Int) (x7 : Bool) (x8 : Bool) (x9 : Int) (x10 : Int) (x11 : Bool) (x12 : Bool) (x13 : List (List PV)) (x14 : Int) : List Go.Eng.Frame := []
def O_laws_szFNode (r : Int) : Res := ⟨(.c (.p (.i .i64 r))), [], []⟩
abbrev CT_laws_szFNode (n : Nat) : CTab := mkCT [(95, E_laws_szValue n (noEnt)), (109, E_laws_szInt64S n (noEnt))]
abbrev LT_laws_szFNode (n : Nat) : LTab := mkLT []
def T_laws_szFNode (n : Nat) (x0 : Int) (x1 : Int) (x2 : Int) (x3 : Int) (x4 : ByteArray) (x5 : Int) (x6 : Int) (x7 : Bool) (x8 : Bool) (x9 : Int) (x10 : Int) (x11 : Bool) (x12 : Bool) (x13 : List (List PV)) (x14 : Int) : Tr (Int) := (.opt (F_laws_szValue n x2 x3 x4 x14) fun r16 => (.ask ((decide (r16 < (0 : Int)))) (.done (-1 : Int)) (.opt (F_laws_szInt64S n x13 r16) fun r17 => (.ask ((decide (r17 < (0 : Int)))) (.done (-1 : Int)) (.done r17)))))
def F_laws_szFNode : Nat → Int → Int → Int → Int → ByteArray → Int → Int → Bool → Bool → Int → Int → Bool → Bool → List (List PV) → Int → Option (Int)
  | 0, _, _, _, _, _, _, _, _, _, _, _, _, _, _, _ => none
  | n + 1, x0, x1, x2, x3, x4, x5, x6, x7, x8, x9, x10, x11, x12, x13, x14 => (T_laws_szFNode n x0 x1 x2 x3 x4 x5 x6 x7 x8 x9 x10 x11 x12 x13 x14).run
theorem ft_laws_szFNode (n : Nat) (x0 : Int) (x1 : Int) (x2 : Int) (x3 : Int) (x4 : ByteArray) (x5 : Int) (x6 : Int) (x7 : Bool) (x8 : Bool) (x9 : Int) (x10 : Int) (x11 : Bool) (x12 : Bool) (x13 : List (List PV)) (x14 : Int) : funT (CT_laws_szFNode n) (LT_laws_szFNode n) K_laws_szFNode (A_laws_szFNode x0 x1 x2 x3 x4 x5 x6 x7 x8 x9 x10 x11 x12 x13 x14) (U_laws_szFNode x0 x1 x2 x3 x4 x5 x6 x7 x8 x9 x10 x11 x12 x13 x14) = (T_laws_szFNode n x0 x1 x2 x3 x4 x5 x6 x7 x8 x9 x10 x11 x12 x13 x14).bind fun r => .done (O_laws_szFNode r) := by kernel_rfl
theorem ct_laws_szFNode (n : Nat) : CTok (CT_laws_szFNode n) (runs KP lib n) := mkCT_cons (eo_laws_szValue n (noEnt_ok)) (mkCT_cons (eo_laws_szInt64S n (noEnt_ok)) (mkCT_nil))
theorem th_laws_szFNode : ∀ (n : Nat) (x0 : Int) (x1 : Int) (x2 : Int) (x3 : Int) (x4 : ByteArray) (x5 : Int) (x6 : Int) (x7 : Bool) (x8 : Bool) (x9 : Int) (x10 : Int) (x11 : Bool) (x12 : Bool) (x13 : List (List PV)) (x14 : Int) (r : Int), F_laws_szFNode n x0 x1 x2 x3 x4 x5 x6 x7 x8 x9 x10 x11 x12 x13 x14 = some r → runs KP lib n 73 (A_laws_szFNode x0 x1 x2 x3 x4 x5 x6 x7 x8 x9 x10 x11 x12 x13 x14) (U_laws_szFNode x0 x1 x2 x3 x4 x5 x6 x7 x8 x9 x10 x11 x12 x13 x14) = some (O_laws_szFNode r)
  | 0, x0, x1, x2, x3, x4, x5, x6, x7, x8, x9, x10, x11, x12, x13, x14, r, h => by cases h
  | n + 1, x0, x1, x2, x3, x4, x5, x6, x7, x8, x9, x10, x11, x12, x13, x14, r, h => fun_step (kf := K_laws_szFNode) rfl (ct_laws_szFNode n) (noLoops rfl) (ft_laws_szFNode n x0 x1 x2 x3 x4 x5 x6 x7 x8 x9 x10 x11 x12 x13 x14) h
def FH_laws_szFNode (n : Nat) : Cont → Option (Int)
  | ([[[.i x0], [.i x1], [.i x2], [.i x3], [.s x4], [.i x5], [.i x6], [.b x7], [.b x8], [.i x9], [.i x10], [.b x11], [.b x12], [.r x13]], [[.i x14]]], []) => F_laws_szFNode n x0 x1 x2 x3 x4 x5 x6 x7 x8 x9 x10 x11 x12 x13 x14
  | _ => none
def E_laws_szFNode (n : Nat) (d : List AV → List Go.Eng.Frame → Tr Res) : List AV → List Go.Eng.Frame → Tr Res := cent (A_laws_szFNode (0) (0) (0) (0) (⟨#[]⟩) (0) (0) (false) (false) (0) (0) (false) (false) ([]) (0)) (U_laws_szFNode (0) (0) (0) (0) (⟨#[]⟩) (0) (0) (false) (false) (0) (0) (false) (false) ([]) (0)) (FH_laws_szFNode n) O_laws_szFNode d
theorem eo_laws_szFNode (n : Nat) {d : List AV → List Go.Eng.Frame → Tr Res} (hd : ∀ ar up r, (d ar up).run = some r → runs KP lib n 73 ar up = some r) : ∀ ar up r, (E_laws_szFNode n d ar up).run = some r → runs KP lib n 73 ar up = some r :=
  cent_ok (fun hs r h => by
    unfold FH_laws_szFNode at h
    split at h
    · exact ⟨A_laws_szFNode _ _ _ _ _ _ _ _ _ _ _ _ _ _ _, U_laws_szFNode _ _ _ _ _ _ _ _ _ _ _ _ _ _ _, rfl, rfl, th_laws_szFNode n _ _ _ _ _ _ _ _ _ _ _ _ _ _ _ r h⟩
    · cases h) hd
/-! ### laws.szFNodeS -/
def A_laws_szFNodeS (x0 : List (List PV)) (x1 : Int) : List AV := [(.c (.p (.ls x0))), (.c (.p (.i .i64 x1)))]
def U_laws_szFNodeS (x0 : List (List PV)) (x1 : Int) : List Go.Eng.Frame := []
def O_laws_szFNodeS (r : Int) : Res := ⟨(.c (.p (.i .i64 r))), [], []⟩
abbrev CT_laws_szFNodeS (n : Nat) : CTab := mkCT [(73, E_laws_szFNode n (noEnt))]
def S_laws_szFNodeS_61 (v : (List (List PV)) × Int × Int) : St := ⟨[(0, (.c (.p (.ls v.1)))), (1, (.c (.p (.i .i64 v.2.1)))), (5, (.c (.p (.i .i64 v.2.2))))], [], []⟩
def B_laws_szFNodeS_61 (n : Nat) (v : (List (List PV)) × Int × Int) : Tr (((List (List PV)) × Int × Int) ⊕ ((Int) ⊕ (Int))) := (.ask ((decide (v.2.2 < (v.1.length : Int)))) (.ask (decide (0 ≤ v.2.2 ∧ v.2.2 < v.1.length)) (.opt (v.1[(v.2.2).toNat]?) fun e1 => (.ask (decide (e1.length = 14)) (.opt (cellI .i64 e1 0) fun y2 => (.opt (cellI .i64 e1 1) fun y3 => (.opt (cellI .i64 e1 2) fun y4 => (.opt (cellI .i64 e1 3) fun y5 => (.opt (cellS e1 4) fun y6 => (.opt (cellI .i64 e1 5) fun y7 => (.opt (cellI .i64 e1 6) fun y8 => (.opt (cellB e1 7) fun y9 => (.opt (cellB e1 8) fun y10 => (.opt (cellI .i64 e1 9) fun y11 => (.opt (cellI .i64 e1 10) fun y12 => (.opt (cellB e1 11) fun y13 => (.opt (cellB e1 12) fun y14 => (.opt (cellL e1 13) fun y15 => (.opt (F_laws_szFNode n y2 y3 y4 y5 y6 y7 y8 y9 y10 y11 y12 y13 y14 y15 v.2.1) fun r16 => (.ask ((decide (r16 < (0 : Int)))) (.done (.inr (.inl ((-1 : Int))))) (.done (.inl (v.1, r16, (IntKind.i64.wrap (v.2.2 + (1 : Int)))))))))))))))))))))) .fail)) .fail) (.done (.inr (.inr (v.2.1)))))
def D_laws_szFNodeS_61 : ((Int) ⊕ (Int)) → Ex × St := fun | .inl r => (.ret, ⟨[(4, (.c (.p (.i .i64 r))))], [], []⟩) | .inr r => (fun r => ((.exit 0), ⟨[(1, (.c (.p (.i .i64 r))))], [], []⟩)) r
def DT_laws_szFNodeS_61 : ((Int) ⊕ (Int)) → Tr (Ex × St) := fun r => .alt r (fun r => .done (.ret, ⟨[(4, (.c (.p (.i .i64 r))))], [], []⟩)) (fun r => .done ((.exit 0), ⟨[(1, (.c (.p (.i .i64 r))))], [], []⟩))
def VH_laws_szFNodeS_61 : Cont3 → Option ((List (List PV)) × Int × Int)
  | ([[[.r w0]], [[.i w1]], [[.i w2]]], [], []) => some (w0, w1, w2)
  | _ => none
abbrev LE_laws_szFNodeS_61 (n : Nat) : St → Tr (Ex × St) := lent (S_laws_szFNodeS_61 ([], 0, 0)) VH_laws_szFNodeS_61 (B_laws_szFNodeS_61 n) DT_laws_szFNodeS_61 n
abbrev LT_laws_szFNodeS (n : Nat) : LTab := mkLT [(61, LE_laws_szFNodeS_61 n)]
def T_laws_szFNodeS (n : Nat) (x0 : List (List PV)) (x1 : Int) : Tr (Int) := (.ask ((decide ((IntKind.i64.wrap (x1 - (x0.length : Int))) < (0 : Int)))) (.done (-1 : Int)) (.opt (loopF (B_laws_szFNodeS_61 n) n (x0, (IntKind.i64.wrap (x1 - (x0.length : Int))), (0 : Int))) fun r17 => (.alt r17 (fun r18 => (.done r18)) (fun r19 => (.done r19)))))
def F_laws_szFNodeS : Nat → List (List PV) → Int → Option (Int)
  | 0, _, _ => none
  | n + 1, x0, x1 => (T_laws_szFNodeS n x0 x1).run
theorem ft_laws_szFNodeS (n : Nat) (x0 : List (List PV)) (x1 : Int) : funT (CT_laws_szFNodeS n) (LT_laws_szFNodeS n) K_laws_szFNodeS (A_laws_szFNodeS x0 x1) (U_laws_szFNodeS x0 x1) = (T_laws_szFNodeS n x0 x1).bind fun r => .done (O_laws_szFNodeS r) := by kernel_rfl
theorem ct_laws_szFNodeS (n : Nat) : CTok (CT_laws_szFNodeS n) (runs KP lib n) := mkCT_cons (eo_laws_szFNode n (noEnt_ok)) (mkCT_nil)
theorem lt_laws_szFNodeS_61 (n : Nat) (v : (List (List PV)) × Int × Int) : (evalCT (CT_laws_szFNodeS n) (mkLT []) K_laws_szFNodeS_L61 (S_laws_szFNodeS_61 v) []).bind (ltail [0, 1, 5] [(.ret, [4]), ((.exit 0), [1])]) = (B_laws_szFNodeS_61 n v).bind (lenc S_laws_szFNodeS_61 D_laws_szFNodeS_61) := by
  obtain ⟨w0, w1, w2⟩ := v
  kernel_rfl
theorem le_laws_szFNodeS_61 (n : Nat) : LEok (runs KP lib n) n (61, [0, 1, 5], [(.ret, [4]), ((.exit 0), [1])], K_laws_szFNodeS_L61) (LE_laws_szFNodeS_61 n) := fun st e s h =>
  lent_ok (ct_laws_szFNodeS n) (noLoops rfl) (lt_laws_szFNodeS_61 n) (fun r => by
    rcases r with r | r <;> (intro h; cases h)) (fun r y h => by
    rcases r with r | r <;> (cases h; rfl)) (fun hs v h => by
    unfold VH_laws_szFNodeS_61 at h
    split at h <;> cases h
    rfl) h
theorem lo_laws_szFNodeS (n : Nat) : LTok (LT_laws_szFNodeS n) (runs KP lib n) n K_laws_szFNodeS.body := mkLT_ok (by
  intro x hx
  have hx : x ∈ ([(61, [0, 1, 5], [(.ret, [4]), ((.exit 0), [1])], K_laws_szFNodeS_L61)] : List (Nat × List Nat × List (Ex × List Nat) × KCode)) := hx
  simp only [List.mem_cons, List.not_mem_nil, or_false] at hx
  rcases hx with rfl
  · exact ⟨LE_laws_szFNodeS_61 n, fun st => rfl, le_laws_szFNodeS_61 n⟩)
theorem th_laws_szFNodeS : ∀ (n : Nat) (x0 : List (List PV)) (x1 : Int) (r : Int), F_laws_szFNodeS n x0 x1 = some r → runs KP lib n 36 (A_laws_szFNodeS x0 x1) (U_laws_szFNodeS x0 x1) = some (O_laws_szFNodeS r)
  | 0, x0, x1, r, h => by cases h
  | n + 1, x0, x1, r, h => fun_step (kf := K_laws_szFNodeS) rfl (ct_laws_szFNodeS n) (lo_laws_szFNodeS n) (ft_laws_szFNodeS n x0 x1) h
def FH_laws_szFNodeS (n : Nat) : Cont → Option (Int)
  | ([[[.r x0]], [[.i x1]]], []) => F_laws_szFNodeS n x0 x1
  | _ => none
def E_laws_szFNodeS (n : Nat) (d : List AV → List Go.Eng.Frame → Tr Res) : List AV → List Go.Eng.Frame → Tr Res := cent (A_laws_szFNodeS ([]) (0)) (U_laws_szFNodeS ([]) (0)) (FH_laws_szFNodeS n) O_laws_szFNodeS d
theorem eo_laws_szFNodeS (n : Nat) {d : List AV → List Go.Eng.Frame → Tr Res} (hd : ∀ ar up r, (d ar up).run = some r → runs KP lib n 36 ar up = some r) : ∀ ar up r, (E_laws_szFNodeS n d ar up).run = some r → runs KP lib n 36 ar up = some r :=
  cent_ok (fun hs r h => by
    unfold FH_laws_szFNodeS at h
    split at h
    · exact ⟨A_laws_szFNodeS _ _, U_laws_szFNodeS _ _, rfl, rfl, th_laws_szFNodeS n _ _ r h⟩
    · cases h) hd
/-! ### laws.toValue -/
def A_laws_toValue (x0 : Int) (x1 : Int) (x2 : ByteArray) : List AV := [(.agg [(.p (.i .i64 x0)), (.p (.i .i64 x1)), (.p (.s x2))])]
def U_laws_toValue (x0 : Int) (x1 : Int) (x2 : ByteArray) : List Go.Eng.Frame := []
def O_laws_toValue (r : Int × Int × ByteArray) : Res := ⟨(.agg [(.p (.i .i64 r.1)), (.p (.i .i64 r.2.1)), (.p (.s r.2.2))]), [], []⟩
abbrev CT_laws_toValue (n : Nat) : CTab := mkCT []
abbrev LT_laws_toValue (n : Nat) : LTab := mkLT []
def T_laws_toValue (n : Nat) (x0 : Int) (x1 : Int) (x2 : ByteArray) : Tr (Int × Int × ByteArray) := (.done (x0, x1, x2))
def F_laws_toValue : Nat → Int → Int → ByteArray → Option (Int × Int × ByteArray)
  | 0, _, _, _ => none
  | n + 1, x0, x1, x2 => (T_laws_toValue n x0 x1 x2).run
theorem ft_laws_toValue (n : Nat) (x0 : Int) (x1 : Int) (x2 : ByteArray) : funT (CT_laws_toValue n) (LT_laws_toValue n) K_laws_toValue (A_laws_toValue x0 x1 x2) (U_laws_toValue x0 x1 x2) = (T_laws_toValue n x0 x1 x2).bind fun r => .done (O_laws_toValue r) := by kernel_rfl
theorem ct_laws_toValue (n : Nat) : CTok (CT_laws_toValue n) (runs KP lib n) := mkCT_nil
theorem th_laws_toValue : ∀ (n : Nat) (x0 : Int) (x1 : Int) (x2 : ByteArray) (r : Int × Int × ByteArray), F_laws_toValue n x0 x1 x2 = some r → runs KP lib n 97 (A_laws_toValue x0 x1 x2) (U_laws_toValue x0 x1 x2) = some (O_laws_toValue r)
  | 0, x0, x1, x2, r, h => by cases h
  | n + 1, x0, x1, x2, r, h => fun_step (kf := K_laws_toValue) rfl (ct_laws_toValue n) (noLoops rfl) (ft_laws_toValue n x0 x1 x2) h
def FH_laws_toValue (n : Nat) : Cont → Option (Int × Int × ByteArray)
  | ([[[.i x0], [.i x1], [.s x2]]], []) => F_laws_toValue n x0 x1 x2
  | _ => none
def E_laws_toValue (n : Nat) (d : List AV → List Go.Eng.Frame → Tr Res) : List AV → List Go.Eng.Frame → Tr Res := cent (A_laws_toValue (0) (0) (⟨#[]⟩)) (U_laws_toValue (0) (0) (⟨#[]⟩)) (FH_laws_toValue n) O_laws_toValue d
theorem eo_laws_toValue (n : Nat) {d : List AV → List Go.Eng.Frame → Tr Res} (hd : ∀ ar up r, (d ar up).run = some r → runs KP lib n 97 ar up = some r) : ∀ ar up r, (E_laws_toValue n d ar up).run = some r → runs KP lib n 97 ar up = some r :=
  cent_ok (fun hs r h => by
    unfold FH_laws_toValue at h
    split at h
    · exact ⟨A_laws_toValue _ _ _, U_laws_toValue _ _ _, rfl, rfl, th_laws_toValue n _ _ _ r h⟩
    · cases h) hd
/-! ### laws.toRef -/
def A_laws_toRef (x0 : Int) (x1 : Int) : List AV := [(.agg [(.p (.i .i64 x0)), (.p (.i .i64 x1))])]
def U_laws_toRef (x0 : Int) (x1 : Int) : List Go.Eng.Frame := []
def O_laws_toRef (r : Int × Int) : Res := ⟨(.agg [(.p (.i .i64 r.1)), (.p (.i .i64 r.2))]), [], []⟩
abbrev CT_laws_toRef (n : Nat) : CTab := mkCT []
abbrev LT_laws_toRef (n : Nat) : LTab := mkLT []
def T_laws_toRef (n : Nat) (x0 : Int) (x1 : Int) : Tr (Int × Int) := (.done (x0, x1))
def F_laws_toRef : Nat → Int → Int → Option (Int × Int)
  | 0, _, _ => none
  | n + 1, x0, x1 => (T_laws_toRef n x0 x1).run
theorem ft_laws_toRef (n : Nat) (x0 : Int) (x1 : Int) : funT (CT_laws_toRef n) (LT_laws_toRef n) K_laws_toRef (A_laws_toRef x0 x1) (U_laws_toRef x0 x1) = (T_laws_toRef n x0 x1).bind fun r => .done (O_laws_toRef r) := by kernel_rfl
theorem ct_laws_toRef (n : Nat) : CTok (CT_laws_toRef n) (runs KP lib n) := mkCT_nil
theorem th_laws_toRef : ∀ (n : Nat) (x0 : Int) (x1 : Int) (r : Int × Int), F_laws_toRef n x0 x1 = some r → runs KP lib n 18 (A_laws_toRef x0 x1) (U_laws_toRef x0 x1) = some (O_laws_toRef r)
  | 0, x0, x1, r, h => by cases h
  | n + 1, x0, x1, r, h => fun_step (kf := K_laws_toRef) rfl (ct_laws_toRef n) (noLoops rfl) (ft_laws_toRef n x0 x1) h
def FH_laws_toRef (n : Nat) : Cont → Option (Int × Int)
  | ([[[.i x0], [.i x1]]], []) => F_laws_toRef n x0 x1
  | _ => none
def E_laws_toRef (n : Nat) (d : List AV → List Go.Eng.Frame → Tr Res) : List AV → List Go.Eng.Frame → Tr Res := cent (A_laws_toRef (0) (0)) (U_laws_toRef (0) (0)) (FH_laws_toRef n) O_laws_toRef d
theorem eo_laws_toRef (n : Nat) {d : List AV → List Go.Eng.Frame → Tr Res} (hd : ∀ ar up r, (d ar up).run = some r → runs KP lib n 18 ar up = some r) : ∀ ar up r, (E_laws_toRef n d ar up).run = some r → runs KP lib n 18 ar up = some r :=
  cent_ok (fun hs r h => by
    unfold FH_laws_toRef at h
    split at h
    · exact ⟨A_laws_toRef _ _, U_laws_toRef _ _, rfl, rfl, th_laws_toRef n _ _ r h⟩
    · cases h) hd
/-! ### laws.toPlace -/
def A_laws_toPlace (x0 : Int) (x1 : Int) (x2 : Bool) (x3 : Bool) : List AV := [(.agg [(.p (.i .i64 x0)), (.p (.i .i64 x1)), (.p (.b x2)), (.p (.b x3))])]
def U_laws_toPlace (x0 : Int) (x1 : Int) (x2 : Bool) (x3 : Bool) : List Go.Eng.Frame := []
def O_laws_toPlace (r : Int × Int × Bool × Bool) : Res := ⟨(.agg [(.p (.i .i64 r.1)), (.p (.i .i64 r.2.1)), (.p (.b r.2.2.1)), (.p (.b r.2.2.2))]), [], []⟩
abbrev CT_laws_toPlace (n : Nat) : CTab := mkCT [(18, E_laws_toRef n (noEnt))]
abbrev LT_laws_toPlace (n : Nat) : LTab := mkLT []
def T_laws_toPlace (n : Nat) (x0 : Int) (x1 : Int) (x2 : Bool) (x3 : Bool) : Tr (Int × Int × Bool × Bool) := (.opt (F_laws_toRef n x0 x1) fun r37 => (.done (r37.1, r37.2, x2, x3)))
def F_laws_toPlace : Nat → Int → Int → Bool → Bool → Option (Int × Int × Bool × Bool)
  | 0, _, _, _, _ => none
  | n + 1, x0, x1, x2, x3 => (T_laws_toPlace n x0 x1 x2 x3).run
theorem ft_laws_toPlace (n : Nat) (x0 : Int) (x1 : Int) (x2 : Bool) (x3 : Bool) : funT (CT_laws_toPlace n) (LT_laws_toPlace n) K_laws_toPlace (A_laws_toPlace x0 x1 x2 x3) (U_laws_toPlace x0 x1 x2 x3) = (T_laws_toPlace n x0 x1 x2 x3).bind fun r => .done (O_laws_toPlace r) := by kernel_rfl
theorem ct_laws_toPlace (n : Nat) : CTok (CT_laws_toPlace n) (runs KP lib n) := mkCT_cons (eo_laws_toRef n (noEnt_ok)) (mkCT_nil)
theorem th_laws_toPlace : ∀ (n : Nat) (x0 : Int) (x1 : Int) (x2 : Bool) (x3 : Bool) (r : Int × Int × Bool × Bool), F_laws_toPlace n x0 x1 x2 x3 = some r → runs KP lib n 111 (A_laws_toPlace x0 x1 x2 x3) (U_laws_toPlace x0 x1 x2 x3) = some (O_laws_toPlace r)
  | 0, x0, x1, x2, x3, r, h => by cases h
  | n + 1, x0, x1, x2, x3, r, h => fun_step (kf := K_laws_toPlace) rfl (ct_laws_toPlace n) (noLoops rfl) (ft_laws_toPlace n x0 x1 x2 x3) h
def FH_laws_toPlace (n : Nat) : Cont → Option (Int × Int × Bool × Bool)
  | ([[[.i x0], [.i x1], [.b x2], [.b x3]]], []) => F_laws_toPlace n x0 x1 x2 x3
  | _ => none
def E_laws_toPlace (n : Nat) (d : List AV → List Go.Eng.Frame → Tr Res) : List AV → List Go.Eng.Frame → Tr Res := cent (A_laws_toPlace (0) (0) (false) (false)) (U_laws_toPlace (0) (0) (false) (false)) (FH_laws_toPlace n) O_laws_toPlace d
theorem eo_laws_toPlace (n : Nat) {d : List AV → List Go.Eng.Frame → Tr Res} (hd : ∀ ar up r, (d ar up).run = some r → runs KP lib n 111 ar up = some r) : ∀ ar up r, (E_laws_toPlace n d ar up).run = some r → runs KP lib n 111 ar up = some r :=
  cent_ok (fun hs r h => by
    unfold FH_laws_toPlace at h
    split at h
    · exact ⟨A_laws_toPlace _ _ _ _, U_laws_toPlace _ _ _ _, rfl, rfl, th_laws_toPlace n _ _ _ _ r h⟩
    · cases h) hd
/-! ### laws.toInt64S -/
def A_laws_toInt64S (x0 : List (List PV)) : List AV := [(.c (.p (.ls x0)))]
def U_laws_toInt64S (x0 : List (List PV)) : List Go.Eng.Frame := []
def O_laws_toInt64S (r : Nat × (List (List PV))) : Res := ⟨(.c (.own 0 0 0 r.1)), [], [⟨0, 1, 2, (.row r.2)⟩]⟩
abbrev CT_laws_toInt64S (n : Nat) : CTab := mkCT []
def S_laws_toInt64S_29 (v : (List (List PV)) × Nat × Int × (List (List PV))) : St := ⟨[(0, (.c (.p (.ls v.1)))), (3, (.c (.own 0 448 0 v.2.1))), (4, (.c (.p (.i .i64 v.2.2.1))))], [(448, ⟨0, 1, 2, (.row v.2.2.2)⟩)], []⟩
def B_laws_toInt64S_29 (n : Nat) (v : (List (List PV)) × Nat × Int × (List (List PV))) : Tr (((List (List PV)) × Nat × Int × (List (List PV))) ⊕ ((Nat × (List (List PV))))) := (.ask ((decide (v.2.2.1 < (v.1.length : Int)))) (.ask (decide (0 ≤ v.2.2.1 ∧ v.2.2.1 < v.1.length)) (.opt (v.1[(v.2.2.1).toNat]?) fun e40 => (.ask (decide (e40.length = 1)) (.opt (cellI .i64 e40 0) fun y41 => (.ask (decide (v.2.1 = v.2.2.2.length ∧ 0 ≤ v.2.2.1 ∧ v.2.2.1 < ((v.2.1 : Nat) : Int))) (.opt (v.2.2.2[(v.2.2.1).toNat]?) fun e42 => (.ask (decide (0 + 1 ≤ e42.length)) (.done (.inl (v.1, v.2.1, (IntKind.i64.wrap (v.2.2.1 + (1 : Int))), (v.2.2.2.set (v.2.2.1).toNat (setAt e42 0 [(.i .i64 y41)]))))) .fail)) .fail)) .fail)) .fail) (.done (.inr ((v.2.1, v.2.2.2)))))
def D_laws_toInt64S_29 : (Nat × (List (List PV))) → Ex × St := fun r => ((.exit 0), ⟨[(3, (.c (.own 0 448 0 r.1)))], [(448, ⟨0, 1, 2, (.row r.2)⟩)], []⟩)
def DT_laws_toInt64S_29 : (Nat × (List (List PV))) → Tr (Ex × St) := fun r => .done ((.exit 0), ⟨[(3, (.c (.own 0 448 0 r.1)))], [(448, ⟨0, 1, 2, (.row r.2)⟩)], []⟩)
def VH_laws_toInt64S_29 : Cont3 → Option ((List (List PV)) × Nat × Int × (List (List PV)))
  | ([[[.r w0]], [[.n w1]], [[.i w2]]], [[[.r w3]]], []) => some (w0, w1, w2, w3)
  | _ => none
abbrev LE_laws_toInt64S_29 (n : Nat) : St → Tr (Ex × St) := lent (S_laws_toInt64S_29 ([], 0, 0, [])) VH_laws_toInt64S_29 (B_laws_toInt64S_29 n) DT_laws_toInt64S_29 n
abbrev LT_laws_toInt64S (n : Nat) : LTab := mkLT [(29, LE_laws_toInt64S_29 n)]
def T_laws_toInt64S (n : Nat) (x0 : List (List PV)) : Tr (Nat × (List (List PV))) := (.ask (decide (0 ≤ (x0.length : Int) ∧ (x0.length : Int) = (x0.length : Int) ∧ 8 * (x0.length : Int) ≤ 140737488355328 ∧ (x0.length : Int) ≤ 9223372036854775807)) (.opt (loopF (B_laws_toInt64S_29 n) n (x0, ((x0.length : Int)).toNat, (0 : Int), (zrows [(.i .i64 (0 : Int))] ((x0.length : Int)).toNat))) fun r43 => (.done (r43.1, r43.2))) .fail)
def F_laws_toInt64S : Nat → List (List PV) → Option (Nat × (List (List PV)))
  | 0, _ => none
  | n + 1, x0 => (T_laws_toInt64S n x0).run
theorem ft_laws_toInt64S (n : Nat) (x0 : List (List PV)) : funT (CT_laws_toInt64S n) (LT_laws_toInt64S n) K_laws_toInt64S (A_laws_toInt64S x0) (U_laws_toInt64S x0) = (T_laws_toInt64S n x0).bind fun r => .done (O_laws_toInt64S r) := by kernel_rfl
theorem ct_laws_toInt64S (n : Nat) : CTok (CT_laws_toInt64S n) (runs KP lib n) := mkCT_nil
theorem lt_laws_toInt64S_29 (n : Nat) (v : (List (List PV)) × Nat × Int × (List (List PV))) : (evalCT (CT_laws_toInt64S n) (mkLT []) K_laws_toInt64S_L29 (S_laws_toInt64S_29 v) []).bind (ltail [0, 3, 4] [(.ret, [2]), ((.exit 0), [3])]) = (B_laws_toInt64S_29 n v).bind (lenc S_laws_toInt64S_29 D_laws_toInt64S_29) := by
  obtain ⟨w0, w1, w2, w3⟩ := v
  kernel_rfl
theorem le_laws_toInt64S_29 (n : Nat) : LEok (runs KP lib n) n (29, [0, 3, 4], [(.ret, [2]), ((.exit 0), [3])], K_laws_toInt64S_L29) (LE_laws_toInt64S_29 n) := fun st e s h =>
  lent_ok (ct_laws_toInt64S n) (noLoops rfl) (lt_laws_toInt64S_29 n) (fun r h => by cases h) (fun r y h => by cases h; rfl) (fun hs v h => by
    unfold VH_laws_toInt64S_29 at h
    split at h <;> cases h
    rfl) h
theorem lo_laws_toInt64S (n : Nat) : LTok (LT_laws_toInt64S n) (runs KP lib n) n K_laws_toInt64S.body := mkLT_ok (by
  intro x hx
  have hx : x ∈ ([(29, [0, 3, 4], [(.ret, [2]), ((.exit 0), [3])], K_laws_toInt64S_L29)] : List (Nat × List Nat × List (Ex × List Nat) × KCode)) := hx
  simp only [List.mem_cons, List.not_mem_nil, or_false] at hx
  rcases hx with rfl
  · exact ⟨LE_laws_toInt64S_29 n, fun st => rfl, le_laws_toInt64S_29 n⟩)
theorem th_laws_toInt64S : ∀ (n : Nat) (x0 : List (List PV)) (r : Nat × (List (List PV))), F_laws_toInt64S n x0 = some r → runs KP lib n 112 (A_laws_toInt64S x0) (U_laws_toInt64S x0) = some (O_laws_toInt64S r)
  | 0, x0, r, h => by cases h
  | n + 1, x0, r, h => fun_step (kf := K_laws_toInt64S) rfl (ct_laws_toInt64S n) (lo_laws_toInt64S n) (ft_laws_toInt64S n x0) h
def FH_laws_toInt64S (n : Nat) : Cont → Option (Nat × (List (List PV)))
  | ([[[.r x0]]], []) => F_laws_toInt64S n x0
  | _ => none
def E_laws_toInt64S (n : Nat) (d : List AV → List Go.Eng.Frame → Tr Res) : List AV → List Go.Eng.Frame → Tr Res := cent (A_laws_toInt64S ([])) (U_laws_toInt64S ([])) (FH_laws_toInt64S n) O_laws_toInt64S d
theorem eo_laws_toInt64S (n : Nat) {d : List AV → List Go.Eng.Frame → Tr Res} (hd : ∀ ar up r, (d ar up).run = some r → runs KP lib n 112 ar up = some r) : ∀ ar up r, (E_laws_toInt64S n d ar up).run = some r → runs KP lib n 112 ar up = some r :=
  cent_ok (fun hs r h => by
    unfold FH_laws_toInt64S at h
    split at h
    · exact ⟨A_laws_toInt64S _, U_laws_toInt64S _, rfl, rfl, th_laws_toInt64S n _ r h⟩
    · cases h) hd
/-! ### laws.toFNode -/
def A_laws_toFNode (x0 : Int) (x1 : Int) (x2 : Int) (x3 : Int) (x4 : ByteArray) (x5 : Int) (x6 : Int) (x7 : Bool) (x8 : Bool) (x9 : Int) (x10 : Int) (x11 : Bool) (x12 : Bool) (x13 : List (List PV)) : List AV := [(.agg [(.p (.i .i64 x0)), (.p (.i .i64 x1)), (.p (.i .i64 x2)), (.p (.i .i64 x3)), (.p (.s x4)), (.p (.i .i64 x5)), (.p (.i .i64 x6)), (.p (.b x7)), (.p (.b x8)), (.p (.i .i64 x9)), (.p (.i .i64 x10)), (.p (.b x11)), (.p (.b x12)), (.p (.ls x13))])]
def U_laws_toFNode (x0 : Int) (x1 : Int) (x2 : Int) (x3 : Int) (x4 : ByteArray) (x5 : Int) (x6 : Int) (x7 : Bool) (x8 : Bool) (x9 : Int) (x10 : Int) (x11 : Bool) (x12 : Bool) (x13 : List (List PV)) : List Go.Eng.Frame := []
def O_laws_toFNode (r : Int × Int × Int × Int × ByteArray × Int × Int × Bool × Bool × Int × Int × Bool × Bool × (List (List PV))) : Res := ⟨(.agg [(.p (.i .i64 r.1)), (.p (.i .i64 r.2.1)), (.p (.i .i64 r.2.2.1)), (.p (.i .i64 r.2.2.2.1)), (.p (.s r.2.2.2.2.1)), (.p (.i .i64 r.2.2.2.2.2.1)), (.p (.i .i64 r.2.2.2.2.2.2.1)), (.p (.b r.2.2.2.2.2.2.2.1)), (.p (.b r.2.2.2.2.2.2.2.2.1)), (.p (.i .i64 r.2.2.2.2.2.2.2.2.2.1)), (.p (.i .i64 r.2.2.2.2.2.2.2.2.2.2.1)), (.p (.b r.2.2.2.2.2.2.2.2.2.2.2.1)), (.p (.b r.2.2.2.2.2.2.2.2.2.2.2.2.1)), (.p (.ls r.2.2.2.2.2.2.2.2.2.2.2.2.2))]), [], []⟩
abbrev CT_laws_toFNode (n : Nat) : CTab := mkCT [(97, E_laws_toValue n (noEnt)), (111, E_laws_toPlace n (noEnt)), (112, E_laws_toInt64S n (noEnt))]
abbrev LT_laws_toFNode (n : Nat) : LTab := mkLT []
def T_laws_toFNode (n : Nat) (x0 : Int) (x1 : Int) (x2 : Int) (x3 : Int) (x4 : ByteArray) (x5 : Int) (x6 : Int) (x7 : Bool) (x8 : Bool) (x9 : Int) (x10 : Int) (x11 : Bool) (x12 : Bool) (x13 : List (List PV)) : Tr (Int × Int × Int × Int × ByteArray × Int × Int × Bool × Bool × Int × Int × Bool × Bool × (List (List PV))) := (.opt (F_laws_toValue n x2 x3 x4) fun r36 => (.opt (F_laws_toPlace n x5 x6 x7 x8) fun r38 => (.opt (F_laws_toPlace n x9 x10 x11 x12) fun r39 => (.opt (F_laws_toInt64S n x13) fun r44 => (.ask (decide (r44.1 = r44.2.length)) (.done (x0, x1, r36.1, r36.2.1, r36.2.2, r38.1, r38.2.1, r38.2.2.1, r38.2.2.2, r39.1, r39.2.1, r39.2.2.1, r39.2.2.2, r44.2)) .fail)))))
def F_laws_toFNode : Nat → Int → Int → Int → Int → ByteArray → Int → Int → Bool → Bool → Int → Int → Bool → Bool → List (List PV) → Option (Int × Int × Int × Int × ByteArray × Int × Int × Bool × Bool × Int × Int × Bool × Bool × (List (List PV)))
  | 0, _, _, _, _, _, _, _, _, _, _, _, _, _, _ => none
  | n + 1, x0, x1, x2, x3, x4, x5, x6, x7, x8, x9, x10, x11, x12, x13 => (T_laws_toFNode n x0 x1 x2 x3 x4 x5 x6 x7 x8 x9 x10 x11 x12 x13).run
theorem ft_laws_toFNode (n : Nat) (x0 : Int) (x1 : Int) (x2 : Int) (x3 : Int) (x4 : ByteArray) (x5 : Int) (x6 : Int) (x7 : Bool) (x8 : Bool) (x9 : Int) (x10 : Int) (x11 : Bool) (x12 : Bool) (x13 : List (List PV)) : funT (CT_laws_toFNode n) (LT_laws_toFNode n) K_laws_toFNode (A_laws_toFNode x0 x1 x2 x3 x4 x5 x6 x7 x8 x9 x10 x11 x12 x13) (U_laws_toFNode x0 x1 x2 x3 x4 x5 x6 x7 x8 x9 x10 x11 x12 x13) = (T_laws_toFNode n x0 x1 x2 x3 x4 x5 x6 x7 x8 x9 x10 x11 x12 x13).bind fun r => .done (O_laws_toFNode r) := by kernel_rfl
theorem ct_laws_toFNode (n : Nat) : CTok (CT_laws_toFNode n) (runs KP lib n) := mkCT_cons (eo_laws_toValue n (noEnt_ok)) (mkCT_cons (eo_laws_toPlace n (noEnt_ok)) (mkCT_cons (eo_laws_toInt64S n (noEnt_ok)) (mkCT_nil)))
theorem th_laws_toFNode : ∀ (n : Nat) (x0 : Int) (x1 : Int) (x2 : Int) (x3 : Int) (x4 : ByteArray) (x5 : Int) (x6 : Int) (x7 : Bool) (x8 : Bool) (x9 : Int) (x10 : Int) (x11 : Bool) (x12 : Bool) (x13 : List (List PV)) (r : Int × Int × Int × Int × ByteArray × Int × Int × Bool × Bool × Int × Int × Bool × Bool × (List (List PV))), F_laws_toFNode n x0 x1 x2 x3 x4 x5 x6 x7 x8 x9 x10 x11 x12 x13 = some r → runs KP lib n 78 (A_laws_toFNode x0 x1 x2 x3 x4 x5 x6 x7 x8 x9 x10 x11 x12 x13) (U_laws_toFNode x0 x1 x2 x3 x4 x5 x6 x7 x8 x9 x10 x11 x12 x13) = some (O_laws_toFNode r)
  | 0, x0, x1, x2, x3, x4, x5, x6, x7, x8, x9, x10, x11, x12, x13, r, h => by cases h
  | n + 1, x0, x1, x2, x3, x4, x5, x6, x7, x8, x9, x10, x11, x12, x13, r, h => fun_step (kf := K_laws_toFNode) rfl (ct_laws_toFNode n) (noLoops rfl) (ft_laws_toFNode n x0 x1 x2 x3 x4 x5 x6 x7 x8 x9 x10 x11 x12 x13) h
def FH_laws_toFNode (n : Nat) : Cont → Option (Int × Int × Int × Int × ByteArray × Int × Int × Bool × Bool × Int × Int × Bool × Bool × (List (List PV)))
  | ([[[.i x0], [.i x1], [.i x2], [.i x3], [.s x4], [.i x5], [.i x6], [.b x7], [.b x8], [.i x9], [.i x10], [.b x11], [.b x12], [.r x13]]], []) => F_laws_toFNode n x0 x1 x2 x3 x4 x5 x6 x7 x8 x9 x10 x11 x12 x13
  | _ => none
def E_laws_toFNode (n : Nat) (d : List AV → List Go.Eng.Frame → Tr Res) : List AV → List Go.Eng.Frame → Tr Res := cent (A_laws_toFNode (0) (0) (0) (0) (⟨#[]⟩) (0) (0) (false) (false) (0) (0) (false) (false) ([])) (U_laws_toFNode (0) (0) (0) (0) (⟨#[]⟩) (0) (0) (false) (false) (0) (0) (false) (false) ([])) (FH_laws_toFNode n) O_laws_toFNode d
theorem eo_laws_toFNode (n : Nat) {d : List AV → List Go.Eng.Frame → Tr Res} (hd : ∀ ar up r, (d ar up).run = some r → runs KP lib n 78 ar up = some r) : ∀ ar up r, (E_laws_toFNode n d ar up).run = some r → runs KP lib n 78 ar up = some r :=
  cent_ok (fun hs r h => by
    unfold FH_laws_toFNode at h
    split at h
    · exact ⟨A_laws_toFNode _ _ _ _ _ _ _ _ _ _ _ _ _ _, U_laws_toFNode _ _ _ _ _ _ _ _ _ _ _ _ _ _, rfl, rfl, th_laws_toFNode n _ _ _ _ _ _ _ _ _ _ _ _ _ _ r h⟩
    · cases h) hd
/-! ### laws.toFNodeS -/
def A_laws_toFNodeS (x0 : List (List PV)) : List AV := [(.c (.p (.ls x0)))]
def U_laws_toFNodeS (x0 : List (List PV)) : List Go.Eng.Frame := []
def O_laws_toFNodeS (r : Nat × (List (List PV))) : Res := ⟨(.c (.own 0 0 0 r.1)), [], [⟨0, 14, 108, (.row r.2)⟩]⟩
abbrev CT_laws_toFNodeS (n : Nat) : CTab := mkCT [(78, E_laws_toFNode n (noEnt))]
def S_laws_toFNodeS_29 (v : (List (List PV)) × Nat × Int × (List (List PV))) : St := ⟨[(0, (.c (.p (.ls v.1)))), (3, (.c (.own 0 448 0 v.2.1))), (4, (.c (.p (.i .i64 v.2.2.1))))], [(448, ⟨0, 14, 108, (.row v.2.2.2)⟩)], []⟩
def B_laws_toFNodeS_29 (n : Nat) (v : (List (List PV)) × Nat × Int × (List (List PV))) : Tr (((List (List PV)) × Nat × Int × (List (List PV))) ⊕ ((Nat × (List (List PV))))) := (.ask ((decide (v.2.2.1 < (v.1.length : Int)))) (.ask (decide (0 ≤ v.2.2.1 ∧ v.2.2.1 < v.1.length)) (.opt (v.1[(v.2.2.1).toNat]?) fun e21 => (.ask (decide (e21.length = 14)) (.opt (cellI .i64 e21 0) fun y22 => (.opt (cellI .i64 e21 1) fun y23 => (.opt (cellI .i64 e21 2) fun y24 => (.opt (cellI .i64 e21 3) fun y25 => (.opt (cellS e21 4) fun y26 => (.opt (cellI .i64 e21 5) fun y27 => (.opt (cellI .i64 e21 6) fun y28 => (.opt (cellB e21 7) fun y29 => (.opt (cellB e21 8) fun y30 => (.opt (cellI .i64 e21 9) fun y31 => (.opt (cellI .i64 e21 10) fun y32 => (.opt (cellB e21 11) fun y33 => (.opt (cellB e21 12) fun y34 => (.opt (cellL e21 13) fun y35 => (.opt (F_laws_toFNode n y22 y23 y24 y25 y26 y27 y28 y29 y30 y31 y32 y33 y34 y35) fun r36 => (.ask (decide (v.2.1 = v.2.2.2.length ∧ 0 ≤ v.2.2.1 ∧ v.2.2.1 < ((v.2.1 : Nat) : Int))) (.opt (v.2.2.2[(v.2.2.1).toNat]?) fun e37 => (.ask (decide (0 + 14 ≤ e37.length)) (.done (.inl (v.1, v.2.1, (IntKind.i64.wrap (v.2.2.1 + (1 : Int))), (v.2.2.2.set (v.2.2.1).toNat (setAt e37 0 [(.i .i64 r36.1), (.i .i64 r36.2.1), (.i .i64 r36.2.2.1), (.i .i64 r36.2.2.2.1), (.s r36.2.2.2.2.1), (.i .i64 r36.2.2.2.2.2.1), (.i .i64 r36.2.2.2.2.2.2.1), (.b r36.2.2.2.2.2.2.2.1), (.b r36.2.2.2.2.2.2.2.2.1), (.i .i64 r36.2.2.2.2.2.2.2.2.2.1), (.i .i64 r36.2.2.2.2.2.2.2.2.2.2.1), (.b r36.2.2.2.2.2.2.2.2.2.2.2.1), (.b r36.2.2.2.2.2.2.2.2.2.2.2.2.1), (.ls r36.2.2.2.2.2.2.2.2.2.2.2.2.2)]))))) .fail)) .fail)))))))))))))))) .fail)) .fail) (.done (.inr ((v.2.1, v.2.2.2)))))
def D_laws_toFNodeS_29 : (Nat × (List (List PV))) → Ex × St := fun r => ((.exit 0), ⟨[(3, (.c (.own 0 448 0 r.1)))], [(448, ⟨0, 14, 108, (.row r.2)⟩)], []⟩)
def DT_laws_toFNodeS_29 : (Nat × (List (List PV))) → Tr (Ex × St) := fun r => .done ((.exit 0), ⟨[(3, (.c (.own 0 448 0 r.1)))], [(448, ⟨0, 14, 108, (.row r.2)⟩)], []⟩)
def VH_laws_toFNodeS_29 : Cont3 → Option ((List (List PV)) × Nat × Int × (List (List PV)))
  | ([[[.r w0]], [[.n w1]], [[.i w2]]], [[[.r w3]]], []) => some (w0, w1, w2, w3)
  | _ => none
abbrev LE_laws_toFNodeS_29 (n : Nat) : St → Tr (Ex × St) := lent (S_laws_toFNodeS_29 ([], 0, 0, [])) VH_laws_toFNodeS_29 (B_laws_toFNodeS_29 n) DT_laws_toFNodeS_29 n
abbrev LT_laws_toFNodeS (n : Nat) : LTab := mkLT [(29, LE_laws_toFNodeS_29 n)]
def T_laws_toFNodeS (n : Nat) (x0 : List (List PV)) : Tr (Nat × (List (List PV))) := (.ask (decide (0 ≤ (x0.length : Int) ∧ (x0.length : Int) = (x0.length : Int) ∧ 120 * (x0.length : Int) ≤ 140737488355328 ∧ (x0.length : Int) ≤ 9223372036854775807)) (.opt (loopF (B_laws_toFNodeS_29 n) n (x0, ((x0.length : Int)).toNat, (0 : Int), (zrows [(.i .i64 (0 : Int)), (.i .i64 (0 : Int)), (.i .i64 (0 : Int)), (.i .i64 (0 : Int)), (.s (⟨#[]⟩ : ByteArray)), (.i .i64 (0 : Int)), (.i .i64 (0 : Int)), (.b false), (.b false), (.i .i64 (0 : Int)), (.i .i64 (0 : Int)), (.b false), (.b false), .nl] ((x0.length : Int)).toNat))) fun r38 => (.done (r38.1, r38.2))) .fail)
def F_laws_toFNodeS : Nat → List (List PV) → Option (Nat × (List (List PV)))
  | 0, _ => none
  | n + 1, x0 => (T_laws_toFNodeS n x0).run
theorem ft_laws_toFNodeS (n : Nat) (x0 : List (List PV)) : funT (CT_laws_toFNodeS n) (LT_laws_toFNodeS n) K_laws_toFNodeS (A_laws_toFNodeS x0) (U_laws_toFNodeS x0) = (T_laws_toFNodeS n x0).bind fun r => .done (O_laws_toFNodeS r) := by kernel_rfl
theorem ct_laws_toFNodeS (n : Nat) : CTok (CT_laws_toFNodeS n) (runs KP lib n) := mkCT_cons (eo_laws_toFNode n (noEnt_ok)) (mkCT_nil)
theorem lt_laws_toFNodeS_29 (n : Nat) (v : (List (List PV)) × Nat × Int × (List (List PV))) : (evalCT (CT_laws_toFNodeS n) (mkLT []) K_laws_toFNodeS_L29 (S_laws_toFNodeS_29 v) []).bind (ltail [0, 3, 4] [(.ret, [2]), ((.exit 0), [3])]) = (B_laws_toFNodeS_29 n v).bind (lenc S_laws_toFNodeS_29 D_laws_toFNodeS_29) := by
  obtain ⟨w0, w1, w2, w3⟩ := v
  kernel_rfl
theorem le_laws_toFNodeS_29 (n : Nat) : LEok (runs KP lib n) n (29, [0, 3, 4], [(.ret, [2]), ((.exit 0), [3])], K_laws_toFNodeS_L29) (LE_laws_toFNodeS_29 n) := fun st e s h =>
  lent_ok (ct_laws_toFNodeS n) (noLoops rfl) (lt_laws_toFNodeS_29 n) (fun r h => by cases h) (fun r y h => by cases h; rfl) (fun hs v h => by
    unfold VH_laws_toFNodeS_29 at h
    split at h <;> cases h
    rfl) h
theorem lo_laws_toFNodeS (n : Nat) : LTok (LT_laws_toFNodeS n) (runs KP lib n) n K_laws_toFNodeS.body := mkLT_ok (by
  intro x hx
  have hx : x ∈ ([(29, [0, 3, 4], [(.ret, [2]), ((.exit 0), [3])], K_laws_toFNodeS_L29)] : List (Nat × List Nat × List (Ex × List Nat) × KCode)) := hx
  simp only [List.mem_cons, List.not_mem_nil, or_false] at hx
  rcases hx with rfl
  · exact ⟨LE_laws_toFNodeS_29 n, fun st => rfl, le_laws_toFNodeS_29 n⟩)
theorem th_laws_toFNodeS : ∀ (n : Nat) (x0 : List (List PV)) (r : Nat × (List (List PV))), F_laws_toFNodeS n x0 = some r → runs KP lib n 38 (A_laws_toFNodeS x0) (U_laws_toFNodeS x0) = some (O_laws_toFNodeS r)
  | 0, x0, r, h => by cases h
  | n + 1, x0, r, h => fun_step (kf := K_laws_toFNodeS) rfl (ct_laws_toFNodeS n) (lo_laws_toFNodeS n) (ft_laws_toFNodeS n x0) h
def FH_laws_toFNodeS (n : Nat) : Cont → Option (Nat × (List (List PV)))
  | ([[[.r x0]]], []) => F_laws_toFNodeS n x0
  | _ => none
def E_laws_toFNodeS (n : Nat) (d : List AV → List Go.Eng.Frame → Tr Res) : List AV → List Go.Eng.Frame → Tr Res := cent (A_laws_toFNodeS ([])) (U_laws_toFNodeS ([])) (FH_laws_toFNodeS n) O_laws_toFNodeS d
theorem eo_laws_toFNodeS (n : Nat) {d : List AV → List Go.Eng.Frame → Tr Res} (hd : ∀ ar up r, (d ar up).run = some r → runs KP lib n 38 ar up = some r) : ∀ ar up r, (E_laws_toFNodeS n d ar up).run = some r → runs KP lib n 38 ar up = some r :=
  cent_ok (fun hs r h => by
    unfold FH_laws_toFNodeS at h
    split at h
    · exact ⟨A_laws_toFNodeS _, U_laws_toFNodeS _, rfl, rfl, th_laws_toFNodeS n _ r h⟩
    · cases h) hd
/-! ### spec.l1In -/
def A_spec_l1In (x0 : Int) (x1 : Int) (x2 : Int) : List AV := [(.c (.p (.i .i64 x0))), (.c (.p (.i .i64 x1))), (.c (.p (.i .i64 x2)))]
def U_spec_l1In (x0 : Int) (x1 : Int) (x2 : Int) : List Go.Eng.Frame := []
def O_spec_l1In (r : Bool) : Res := ⟨(.c (.p (.b r))), [], []⟩
abbrev CT_spec_l1In (n : Nat) : CTab := mkCT []
abbrev LT_spec_l1In (n : Nat) : LTab := mkLT []
def T_spec_l1In (n : Nat) (x0 : Int) (x1 : Int) (x2 : Int) : Tr (Bool) := (.ask ((decide (x0 ≥ x1))) (.done (decide (x0 ≤ x2))) (.done false))
def F_spec_l1In : Nat → Int → Int → Int → Option (Bool)
  | 0, _, _, _ => none
  | n + 1, x0, x1, x2 => (T_spec_l1In n x0 x1 x2).run
theorem ft_spec_l1In (n : Nat) (x0 : Int) (x1 : Int) (x2 : Int) : funT (CT_spec_l1In n) (LT_spec_l1In n) K_spec_l1In (A_spec_l1In x0 x1 x2) (U_spec_l1In x0 x1 x2) = (T_spec_l1In n x0 x1 x2).bind fun r => .done (O_spec_l1In r) := by kernel_rfl
theorem ct_spec_l1In (n : Nat) : CTok (CT_spec_l1In n) (runs KP lib n) := mkCT_nil
theorem th_spec_l1In : ∀ (n : Nat) (x0 : Int) (x1 : Int) (x2 : Int) (r : Bool), F_spec_l1In n x0 x1 x2 = some r → runs KP lib n 75 (A_spec_l1In x0 x1 x2) (U_spec_l1In x0 x1 x2) = some (O_spec_l1In r)
  | 0, x0, x1, x2, r, h => by cases h
  | n + 1, x0, x1, x2, r, h => fun_step (kf := K_spec_l1In) rfl (ct_spec_l1In n) (noLoops rfl) (ft_spec_l1In n x0 x1 x2) h
def FH_spec_l1In (n : Nat) : Cont → Option (Bool)
  | ([[[.i x0]], [[.i x1]], [[.i x2]]], []) => F_spec_l1In n x0 x1 x2
  | _ => none
def E_spec_l1In (n : Nat) (d : List AV → List Go.Eng.Frame → Tr Res) : List AV → List Go.Eng.Frame → Tr Res := cent (A_spec_l1In (0) (0) (0)) (U_spec_l1In (0) (0) (0)) (FH_spec_l1In n) O_spec_l1In d
theorem eo_spec_l1In (n : Nat) {d : List AV → List Go.Eng.Frame → Tr Res} (hd : ∀ ar up r, (d ar up).run = some r → runs KP lib n 75 ar up = some r) : ∀ ar up r, (E_spec_l1In n d ar up).run = some r → runs KP lib n 75 ar up = some r :=
  cent_ok (fun hs r h => by
    unfold FH_spec_l1In at h
    split at h
    · exact ⟨A_spec_l1In _ _ _, U_spec_l1In _ _ _, rfl, rfl, th_spec_l1In n _ _ _ r h⟩
    · cases h) hd
/-! ### spec.l2Plain -/
def A_spec_l2Plain (x0 : ByteArray) : List AV := [(.c (.p (.s x0)))]
def U_spec_l2Plain (x0 : ByteArray) : List Go.Eng.Frame := []
def O_spec_l2Plain (r : Bool) : Res := ⟨(.c (.p (.b r))), [], []⟩
abbrev CT_spec_l2Plain (n : Nat) : CTab := mkCT []
def S_spec_l2Plain_13 (v : ByteArray × Int) : St := ⟨[(0, (.c (.p (.s v.1)))), (3, (.c (.p (.i .i64 v.2))))], [], []⟩
def B_spec_l2Plain_13 (n : Nat) (v : ByteArray × Int) : Tr ((ByteArray × Int) ⊕ ((Bool) ⊕ (ByteArray))) := (.ask ((decide (v.2 < (v.1.size : Int)))) (.ask (decide (0 ≤ v.2)) (.opt (v.1.toList[(v.2).toNat]?) fun c56 => (.ask ((decide ((c56.toNat : Int) < (32 : Int)))) (.done (.inr (.inl (false)))) (.ask (decide (0 ≤ v.2)) (.opt (v.1.toList[(v.2).toNat]?) fun c57 => (.ask ((decide ((c57.toNat : Int) > (126 : Int)))) (.done (.inr (.inl (false)))) (.done (.inl (v.1, (IntKind.i64.wrap (v.2 + (1 : Int)))))))) .fail))) .fail) (.done (.inr (.inr (v.1)))))
def D_spec_l2Plain_13 : ((Bool) ⊕ (ByteArray)) → Ex × St := fun | .inl r => (.ret, ⟨[(2, (.c (.p (.b r))))], [], []⟩) | .inr r => (fun r => ((.exit 0), ⟨[(0, (.c (.p (.s r))))], [], []⟩)) r
def DT_spec_l2Plain_13 : ((Bool) ⊕ (ByteArray)) → Tr (Ex × St) := fun r => .alt r (fun r => .done (.ret, ⟨[(2, (.c (.p (.b r))))], [], []⟩)) (fun r => .done ((.exit 0), ⟨[(0, (.c (.p (.s r))))], [], []⟩))
def VH_spec_l2Plain_13 : Cont3 → Option (ByteArray × Int)
  | ([[[.s w0]], [[.i w1]]], [], []) => some (w0, w1)
  | _ => none
abbrev LE_spec_l2Plain_13 (n : Nat) : St → Tr (Ex × St) := lent (S_spec_l2Plain_13 (⟨#[]⟩, 0)) VH_spec_l2Plain_13 (B_spec_l2Plain_13 n) DT_spec_l2Plain_13 n
abbrev LT_spec_l2Plain (n : Nat) : LTab := mkLT [(13, LE_spec_l2Plain_13 n)]
def T_spec_l2Plain (n : Nat) (x0 : ByteArray) : Tr (Bool) := (.opt (loopF (B_spec_l2Plain_13 n) n (x0, (0 : Int))) fun r58 => (.alt r58 (fun r59 => (.done r59)) (fun r60 => (.done (decide ((r60.size : Int) ≤ (200 : Int)))))))
def F_spec_l2Plain : Nat → ByteArray → Option (Bool)
  | 0, _ => none
  | n + 1, x0 => (T_spec_l2Plain n x0).run
theorem ft_spec_l2Plain (n : Nat) (x0 : ByteArray) : funT (CT_spec_l2Plain n) (LT_spec_l2Plain n) K_spec_l2Plain (A_spec_l2Plain x0) (U_spec_l2Plain x0) = (T_spec_l2Plain n x0).bind fun r => .done (O_spec_l2Plain r) := by kernel_rfl
theorem ct_spec_l2Plain (n : Nat) : CTok (CT_spec_l2Plain n) (runs KP lib n) := mkCT_nil
theorem lt_spec_l2Plain_13 (n : Nat) (v : ByteArray × Int) : (evalCT (CT_spec_l2Plain n) (mkLT []) K_spec_l2Plain_L13 (S_spec_l2Plain_13 v) []).bind (ltail [0, 3] [(.ret, [2]), ((.exit 0), [0])]) = (B_spec_l2Plain_13 n v).bind (lenc S_spec_l2Plain_13 D_spec_l2Plain_13) := by
  obtain ⟨w0, w1⟩ := v
  kernel_rfl
theorem le_spec_l2Plain_13 (n : Nat) : LEok (runs KP lib n) n (13, [0, 3], [(.ret, [2]), ((.exit 0), [0])], K_spec_l2Plain_L13) (LE_spec_l2Plain_13 n) := fun st e s h =>
  lent_ok (ct_spec_l2Plain n) (noLoops rfl) (lt_spec_l2Plain_13 n) (fun r => by
    rcases r with r | r <;> (intro h; cases h)) (fun r y h => by
    rcases r with r | r <;> (cases h; rfl)) (fun hs v h => by
    unfold VH_spec_l2Plain_13 at h
    split at h <;> cases h
    rfl) h
theorem lo_spec_l2Plain (n : Nat) : LTok (LT_spec_l2Plain n) (runs KP lib n) n K_spec_l2Plain.body := mkLT_ok (by
  intro x hx
  have hx : x ∈ ([(13, [0, 3], [(.ret, [2]), ((.exit 0), [0])], K_spec_l2Plain_L13)] : List (Nat × List Nat × List (Ex × List Nat) × KCode)) := hx
  simp only [List.mem_cons, List.not_mem_nil, or_false] at hx
  rcases hx with rfl
  · exact ⟨LE_spec_l2Plain_13 n, fun st => rfl, le_spec_l2Plain_13 n⟩)
theorem th_spec_l2Plain : ∀ (n : Nat) (x0 : ByteArray) (r : Bool), F_spec_l2Plain n x0 = some r → runs KP lib n 96 (A_spec_l2Plain x0) (U_spec_l2Plain x0) = some (O_spec_l2Plain r)
  | 0, x0, r, h => by cases h
  | n + 1, x0, r, h => fun_step (kf := K_spec_l2Plain) rfl (ct_spec_l2Plain n) (lo_spec_l2Plain n) (ft_spec_l2Plain n x0) h
def FH_spec_l2Plain (n : Nat) : Cont → Option (Bool)
  | ([[[.s x0]]], []) => F_spec_l2Plain n x0
  | _ => none
def E_spec_l2Plain (n : Nat) (d : List AV → List Go.Eng.Frame → Tr Res) : List AV → List Go.Eng.Frame → Tr Res := cent (A_spec_l2Plain (⟨#[]⟩)) (U_spec_l2Plain (⟨#[]⟩)) (FH_spec_l2Plain n) O_spec_l2Plain d
theorem eo_spec_l2Plain (n : Nat) {d : List AV → List Go.Eng.Frame → Tr Res} (hd : ∀ ar up r, (d ar up).run = some r → runs KP lib n 96 ar up = some r) : ∀ ar up r, (E_spec_l2Plain n d ar up).run = some r → runs KP lib n 96 ar up = some r :=
  cent_ok (fun hs r h => by
    unfold FH_spec_l2Plain at h
    split at h
    · exact ⟨A_spec_l2Plain _, U_spec_l2Plain _, rfl, rfl, th_spec_l2Plain n _ r h⟩
    · cases h) hd
/-! ### spec.ValueOk -/
def A_spec_ValueOk (x0 : Int) (x1 : Int) (x2 : ByteArray) : List AV := [(.agg [(.p (.i .i64 x0)), (.p (.i .i64 x1)), (.p (.s x2))])]
def U_spec_ValueOk (x0 : Int) (x1 : Int) (x2 : ByteArray) : List Go.Eng.Frame := []
def O_spec_ValueOk (r : Bool) : Res := ⟨(.c (.p (.b r))), [], []⟩
abbrev CT_spec_ValueOk (n : Nat) : CTab := mkCT [(75, E_spec_l1In n (noEnt)), (96, E_spec_l2Plain n (noEnt))]
abbrev LT_spec_ValueOk (n : Nat) : LTab := mkLT []
def T_spec_ValueOk (n : Nat) (x0 : Int) (x1 : Int) (x2 : ByteArray) : Tr (Bool) := (.ask ((x0 == (0 : Int))) (.ask ((x1 == (0 : Int))) (.done (x2.toList == (⟨#[]⟩ : ByteArray).toList)) (.done false)) (.ask ((x0 == (1 : Int))) (.opt (F_spec_l1In n x1 (-1000000000000000 : Int) (1000000000000000 : Int)) fun r55 => (.ask (r55) (.done (x2.toList == (⟨#[]⟩ : ByteArray).toList)) (.done false))) (.ask ((x0 == (2 : Int))) (.ask ((x1 == (0 : Int))) (.opt (F_spec_l2Plain n x2) fun r61 => (.done r61)) (.done false)) (.ask ((x0 == (3 : Int))) (.opt (F_spec_l1In n x1 (0 : Int) (1 : Int)) fun r62 => (.ask (r62) (.done (x2.toList == (⟨#[]⟩ : ByteArray).toList)) (.done false))) (.ask ((x0 == (4 : Int))) (.opt (F_spec_l1In n x1 (1 : Int) (5 : Int)) fun r63 => (.ask (r63) (.done (x2.toList == (⟨#[]⟩ : ByteArray).toList)) (.done false))) (.done false))))))
def F_spec_ValueOk : Nat → Int → Int → ByteArray → Option (Bool)
  | 0, _, _, _ => none
  | n + 1, x0, x1, x2 => (T_spec_ValueOk n x0 x1 x2).run
theorem ft_spec_ValueOk (n : Nat) (x0 : Int) (x1 : Int) (x2 : ByteArray) : funT (CT_spec_ValueOk n) (LT_spec_ValueOk n) K_spec_ValueOk (A_spec_ValueOk x0 x1 x2) (U_spec_ValueOk x0 x1 x2) = (T_spec_ValueOk n x0 x1 x2).bind fun r => .done (O_spec_ValueOk r) := by kernel_rfl
theorem ct_spec_ValueOk (n : Nat) : CTok (CT_spec_ValueOk n) (runs KP lib n) := mkCT_cons (eo_spec_l1In n (noEnt_ok)) (mkCT_cons (eo_spec_l2Plain n (noEnt_ok)) (mkCT_nil))
theorem th_spec_ValueOk : ∀ (n : Nat) (x0 : Int) (x1 : Int) (x2 : ByteArray) (r : Bool), F_spec_ValueOk n x0 x1 x2 = some r → runs KP lib n 56 (A_spec_ValueOk x0 x1 x2) (U_spec_ValueOk x0 x1 x2) = some (O_spec_ValueOk r)
  | 0, x0, x1, x2, r, h => by cases h
  | n + 1, x0, x1, x2, r, h => fun_step (kf := K_spec_ValueOk) rfl (ct_spec_ValueOk n) (noLoops rfl) (ft_spec_ValueOk n x0 x1 x2) h
def FH_spec_ValueOk (n : Nat) : Cont → Option (Bool)
  | ([[[.i x0], [.i x1], [.s x2]]], []) => F_spec_ValueOk n x0 x1 x2
  | _ => none
def E_spec_ValueOk (n : Nat) (d : List AV → List Go.Eng.Frame → Tr Res) : List AV → List Go.Eng.Frame → Tr Res := cent (A_spec_ValueOk (0) (0) (⟨#[]⟩)) (U_spec_ValueOk (0) (0) (⟨#[]⟩)) (FH_spec_ValueOk n) O_spec_ValueOk d
theorem eo_spec_ValueOk (n : Nat) {d : List AV → List Go.Eng.Frame → Tr Res} (hd : ∀ ar up r, (d ar up).run = some r → runs KP lib n 56 ar up = some r) : ∀ ar up r, (E_spec_ValueOk n d ar up).run = some r → runs KP lib n 56 ar up = some r :=
  cent_ok (fun hs r h => by
    unfold FH_spec_ValueOk at h
    split at h
    · exact ⟨A_spec_ValueOk _ _ _, U_spec_ValueOk _ _ _, rfl, rfl, th_spec_ValueOk n _ _ _ r h⟩
    · cases h) hd
/-! ### spec.RefOk -/
def A_spec_RefOk (x0 : Int) (x1 : Int) : List AV := [(.agg [(.p (.i .i64 x0)), (.p (.i .i64 x1))])]
def U_spec_RefOk (x0 : Int) (x1 : Int) : List Go.Eng.Frame := []
def O_spec_RefOk (r : Bool) : Res := ⟨(.c (.p (.b r))), [], []⟩
abbrev CT_spec_RefOk (n : Nat) : CTab := mkCT [(75, E_spec_l1In n (noEnt))]
abbrev LT_spec_RefOk (n : Nat) : LTab := mkLT []
def T_spec_RefOk (n : Nat) (x0 : Int) (x1 : Int) : Tr (Bool) := (.opt (F_spec_l1In n x0 (1 : Int) (52 : Int)) fun r65 => (.ask (r65) (.opt (F_spec_l1In n x1 (1 : Int) (99 : Int)) fun r66 => (.done r66)) (.done false)))
def F_spec_RefOk : Nat → Int → Int → Option (Bool)
  | 0, _, _ => none
  | n + 1, x0, x1 => (T_spec_RefOk n x0 x1).run
theorem ft_spec_RefOk (n : Nat) (x0 : Int) (x1 : Int) : funT (CT_spec_RefOk n) (LT_spec_RefOk n) K_spec_RefOk (A_spec_RefOk x0 x1) (U_spec_RefOk x0 x1) = (T_spec_RefOk n x0 x1).bind fun r => .done (O_spec_RefOk r) := by kernel_rfl
theorem ct_spec_RefOk (n : Nat) : CTok (CT_spec_RefOk n) (runs KP lib n) := mkCT_cons (eo_spec_l1In n (noEnt_ok)) (mkCT_nil)
theorem th_spec_RefOk : ∀ (n : Nat) (x0 : Int) (x1 : Int) (r : Bool), F_spec_RefOk n x0 x1 = some r → runs KP lib n 55 (A_spec_RefOk x0 x1) (U_spec_RefOk x0 x1) = some (O_spec_RefOk r)
  | 0, x0, x1, r, h => by cases h
  | n + 1, x0, x1, r, h => fun_step (kf := K_spec_RefOk) rfl (ct_spec_RefOk n) (noLoops rfl) (ft_spec_RefOk n x0 x1) h
def FH_spec_RefOk (n : Nat) : Cont → Option (Bool)
  | ([[[.i x0], [.i x1]]], []) => F_spec_RefOk n x0 x1
  | _ => none
def E_spec_RefOk (n : Nat) (d : List AV → List Go.Eng.Frame → Tr Res) : List AV → List Go.Eng.Frame → Tr Res := cent (A_spec_RefOk (0) (0)) (U_spec_RefOk (0) (0)) (FH_spec_RefOk n) O_spec_RefOk d
theorem eo_spec_RefOk (n : Nat) {d : List AV → List Go.Eng.Frame → Tr Res} (hd : ∀ ar up r, (d ar up).run = some r → runs KP lib n 55 ar up = some r) : ∀ ar up r, (E_spec_RefOk n d ar up).run = some r → runs KP lib n 55 ar up = some r :=
  cent_ok (fun hs r h => by
    unfold FH_spec_RefOk at h
    split at h
    · exact ⟨A_spec_RefOk _ _, U_spec_RefOk _ _, rfl, rfl, th_spec_RefOk n _ _ r h⟩
    · cases h) hd
/-! ### spec.AreaOk -/
def A_spec_AreaOk (x0 : Int) (x1 : Int) (x2 : Int) (x3 : Int) : List AV := [(.agg [(.p (.i .i64 x0)), (.p (.i .i64 x1)), (.p (.i .i64 x2)), (.p (.i .i64 x3))])]
def U_spec_AreaOk (x0 : Int) (x1 : Int) (x2 : Int) (x3 : Int) : List Go.Eng.Frame := []
def O_spec_AreaOk (r : Bool) : Res := ⟨(.c (.p (.b r))), [], []⟩
abbrev CT_spec_AreaOk (n : Nat) : CTab := mkCT [(55, E_spec_RefOk n (noEnt))]
abbrev LT_spec_AreaOk (n : Nat) : LTab := mkLT []
def T_spec_AreaOk (n : Nat) (x0 : Int) (x1 : Int) (x2 : Int) (x3 : Int) : Tr (Bool) := (.opt (F_spec_RefOk n x0 x1) fun r68 => (.ask (r68) (.opt (F_spec_RefOk n x2 x3) fun r69 => (.ask (r69) (.ask ((decide (x0 ≤ x2))) (.done (decide (x1 ≤ x3))) (.done false)) (.done false))) (.done false)))
def F_spec_AreaOk : Nat → Int → Int → Int → Int → Option (Bool)
  | 0, _, _, _, _ => none
  | n + 1, x0, x1, x2, x3 => (T_spec_AreaOk n x0 x1 x2 x3).run
theorem ft_spec_AreaOk (n : Nat) (x0 : Int) (x1 : Int) (x2 : Int) (x3 : Int) : funT (CT_spec_AreaOk n) (LT_spec_AreaOk n) K_spec_AreaOk (A_spec_AreaOk x0 x1 x2 x3) (U_spec_AreaOk x0 x1 x2 x3) = (T_spec_AreaOk n x0 x1 x2 x3).bind fun r => .done (O_spec_AreaOk r) := by kernel_rfl
theorem ct_spec_AreaOk (n : Nat) : CTok (CT_spec_AreaOk n) (runs KP lib n) := mkCT_cons (eo_spec_RefOk n (noEnt_ok)) (mkCT_nil)
theorem th_spec_AreaOk : ∀ (n : Nat) (x0 : Int) (x1 : Int) (x2 : Int) (x3 : Int) (r : Bool), F_spec_AreaOk n x0 x1 x2 x3 = some r → runs KP lib n 34 (A_spec_AreaOk x0 x1 x2 x3) (U_spec_AreaOk x0 x1 x2 x3) = some (O_spec_AreaOk r)
  | 0, x0, x1, x2, x3, r, h => by cases h
  | n + 1, x0, x1, x2, x3, r, h => fun_step (kf := K_spec_AreaOk) rfl (ct_spec_AreaOk n) (noLoops rfl) (ft_spec_AreaOk n x0 x1 x2 x3) h
def FH_spec_AreaOk (n : Nat) : Cont → Option (Bool)
  | ([[[.i x0], [.i x1], [.i x2], [.i x3]]], []) => F_spec_AreaOk n x0 x1 x2 x3
  | _ => none
def E_spec_AreaOk (n : Nat) (d : List AV → List Go.Eng.Frame → Tr Res) : List AV → List Go.Eng.Frame → Tr Res := cent (A_spec_AreaOk (0) (0) (0) (0)) (U_spec_AreaOk (0) (0) (0) (0)) (FH_spec_AreaOk n) O_spec_AreaOk d
theorem eo_spec_AreaOk (n : Nat) {d : List AV → List Go.Eng.Frame → Tr Res} (hd : ∀ ar up r, (d ar up).run = some r → runs KP lib n 34 ar up = some r) : ∀ ar up r, (E_spec_AreaOk n d ar up).run = some r → runs KP lib n 34 ar up = some r :=
  cent_ok (fun hs r h => by
    unfold FH_spec_AreaOk at h
    split at h
    · exact ⟨A_spec_AreaOk _ _ _ _, U_spec_AreaOk _ _ _ _, rfl, rfl, th_spec_AreaOk n _ _ _ _ r h⟩
    · cases h) hd
/-! ### spec.l3Args -/
def A_spec_l3Args (x0 : Int) (x1 : Int) : List AV := [(.c (.p (.i .i64 x0))), (.c (.p (.i .i64 x1)))]
def U_spec_l3Args (x0 : Int) (x1 : Int) : List Go.Eng.Frame := []
def O_spec_l3Args (r : Bool) : Res := ⟨(.c (.p (.b r))), [], []⟩
abbrev CT_spec_l3Args (n : Nat) : CTab := mkCT []
abbrev LT_spec_l3Args (n : Nat) : LTab := mkLT []
def T_spec_l3Args (n : Nat) (x0 : Int) (x1 : Int) : Tr (Bool) := (.ask ((x0 == (1 : Int))) (.ask ((decide (x1 ≥ (1 : Int)))) (.done (decide (x1 ≤ (10 : Int)))) (.done false)) (.ask ((x0 == (2 : Int))) (.ask ((decide (x1 ≥ (1 : Int)))) (.done (decide (x1 ≤ (10 : Int)))) (.done false)) (.ask ((x0 == (3 : Int))) (.ask ((decide (x1 ≥ (1 : Int)))) (.done (decide (x1 ≤ (10 : Int)))) (.done false)) (.ask ((x0 == (4 : Int))) (.ask ((decide (x1 ≥ (1 : Int)))) (.done (decide (x1 ≤ (10 : Int)))) (.done false)) (.ask ((x0 == (6 : Int))) (.ask ((decide (x1 ≥ (1 : Int)))) (.done (decide (x1 ≤ (10 : Int)))) (.done false)) (.ask ((x0 == (7 : Int))) (.ask ((decide (x1 ≥ (1 : Int)))) (.done (decide (x1 ≤ (10 : Int)))) (.done false)) (.ask ((x0 == (5 : Int))) (.ask ((x1 == (2 : Int))) (.done true) (.done (x1 == (3 : Int)))) (.ask ((x0 == (8 : Int))) (.done (x1 == (1 : Int))) (.ask ((x0 == (9 : Int))) (.done (x1 == (1 : Int))) (.ask ((x0 == (10 : Int))) (.done (x1 == (1 : Int))) (.done false)))))))))))
def F_spec_l3Args : Nat → Int → Int → Option (Bool)
  | 0, _, _ => none
  | n + 1, x0, x1 => (T_spec_l3Args n x0 x1).run
theorem ft_spec_l3Args (n : Nat) (x0 : Int) (x1 : Int) : funT (CT_spec_l3Args n) (LT_spec_l3Args n) K_spec_l3Args (A_spec_l3Args x0 x1) (U_spec_l3Args x0 x1) = (T_spec_l3Args n x0 x1).bind fun r => .done (O_spec_l3Args r) := by kernel_rfl
theorem ct_spec_l3Args (n : Nat) : CTok (CT_spec_l3Args n) (runs KP lib n) := mkCT_nil
theorem th_spec_l3Args : ∀ (n : Nat) (x0 : Int) (x1 : Int) (r : Bool), F_spec_l3Args n x0 x1 = some r → runs KP lib n 110 (A_spec_l3Args x0 x1) (U_spec_l3Args x0 x1) = some (O_spec_l3Args r)
  | 0, x0, x1, r, h => by cases h
  | n + 1, x0, x1, r, h => fun_step (kf := K_spec_l3Args) rfl (ct_spec_l3Args n) (noLoops rfl) (ft_spec_l3Args n x0 x1) h
def FH_spec_l3Args (n : Nat) : Cont → Option (Bool)
  | ([[[.i x0]], [[.i x1]]], []) => F_spec_l3Args n x0 x1
  | _ => none
def E_spec_l3Args (n : Nat) (d : List AV → List Go.Eng.Frame → Tr Res) : List AV → List Go.Eng.Frame → Tr Res := cent (A_spec_l3Args (0) (0)) (U_spec_l3Args (0) (0)) (FH_spec_l3Args n) O_spec_l3Args d
theorem eo_spec_l3Args (n : Nat) {d : List AV → List Go.Eng.Frame → Tr Res} (hd : ∀ ar up r, (d ar up).run = some r → runs KP lib n 110 ar up = some r) : ∀ ar up r, (E_spec_l3Args n d ar up).run = some r → runs KP lib n 110 ar up = some r :=
  cent_ok (fun hs r h => by
    unfold FH_spec_l3Args at h
    split at h
    · exact ⟨A_spec_l3Args _ _, U_spec_l3Args _ _, rfl, rfl, th_spec_l3Args n _ _ r h⟩
    · cases h) hd
/-! ### spec.l3NodeOk -/
def A_spec_l3NodeOk (x0 : Int) (x1 : Int) (x2 : Int) (x3 : Int) (x4 : ByteArray) (x5 : Int) (x6 : Int) (x7 : Bool) (x8 : Bool) (x9 : Int) (x10 : Int) (x11 : Bool) (x12 : Bool) (x13 : List (List PV)) : List AV := [(.agg [(.p (.i .i64 x0)), (.p (.i .i64 x1)), (.p (.i .i64 x2)), (.p (.i .i64 x3)), (.p (.s x4)), (.p (.i .i64 x5)), (.p (.i .i64 x6)), (.p (.b x7)), (.p (.b x8)), (.p (.i .i64 x9)), (.p (.i .i64 x10)), (.p (.b x11)), (.p (.b x12)), (.p (.ls x13))])]
def U_spec_l3NodeOk (x0 : Int) (x1 : Int) (x2 : Int) (x3 : Int) (x4 : ByteArray) (x5 : Int) (x6 : Int) (x7 : Bool) (x8 : Bool) (x9 : Int) (x10 : Int) (x11 : Bool) (x12 : Bool) (x13 : List (List PV)) : List Go.Eng.Frame := []
def O_spec_l3NodeOk (r : Bool) : Res := ⟨(.c (.p (.b r))), [], []⟩
abbrev CT_spec_l3NodeOk (n : Nat) : CTab := mkCT [(56, E_spec_ValueOk n (noEnt)), (55, E_spec_RefOk n (noEnt)), (34, E_spec_AreaOk n (noEnt)), (75, E_spec_l1In n (noEnt)), (110, E_spec_l3Args n (noEnt))]
abbrev LT_spec_l3NodeOk (n : Nat) : LTab := mkLT []
def T_spec_l3NodeOk (n : Nat) (x0 : Int) (x1 : Int) (x2 : Int) (x3 : Int) (x4 : ByteArray) (x5 : Int) (x6 : Int) (x7 : Bool) (x8 : Bool) (x9 : Int) (x10 : Int) (x11 : Bool) (x12 : Bool) (x13 : List (List PV)) : Tr (Bool) := (.ask ((x0 == (1 : Int))) (.ask ((x1 == (0 : Int))) (.ask (((x5 == (0 : Int)) && ((x6 == (0 : Int)) && ((x7 == false) && ((x8 == false) && true))))) (.ask (((x9 == (0 : Int)) && ((x10 == (0 : Int)) && ((x11 == false) && ((x12 == false) && true))))) (.ask (((x13.length : Int) == (0 : Int))) (.opt (F_spec_ValueOk n x2 x3 x4) fun r64 => (.ask (r64) (.ask ((x2 != (0 : Int))) (.ask ((x2 != (1 : Int))) (.done true) (.done (decide (x3 ≥ (0 : Int))))) (.done false)) (.done false))) (.done false)) (.done false)) (.done false)) (.done false)) (.ask ((x0 == (2 : Int))) (.ask ((x1 == (0 : Int))) (.ask (((x2 == (0 : Int)) && ((x3 == (0 : Int)) && ((x4.toList == (⟨#[]⟩ : ByteArray).toList) && true)))) (.ask (((x9 == (0 : Int)) && ((x10 == (0 : Int)) && ((x11 == false) && ((x12 == false) && true))))) (.ask (((x13.length : Int) == (0 : Int))) (.opt (F_spec_RefOk n x5 x6) fun r67 => (.done r67)) (.done false)) (.done false)) (.done false)) (.done false)) (.ask ((x0 == (3 : Int))) (.ask ((x1 == (0 : Int))) (.ask (((x2 == (0 : Int)) && ((x3 == (0 : Int)) && ((x4.toList == (⟨#[]⟩ : ByteArray).toList) && true)))) (.ask (((x13.length : Int) == (0 : Int))) (.opt (F_spec_AreaOk n x5 x6 x9 x10) fun r70 => (.done r70)) (.done false)) (.done false)) (.done false)) (.ask ((x0 == (4 : Int))) (.ask ((x1 == (0 : Int))) (.ask (((x2 == (0 : Int)) && ((x3 == (0 : Int)) && ((x4.toList == (⟨#[]⟩ : ByteArray).toList) && true)))) (.ask (((x5 == (0 : Int)) && ((x6 == (0 : Int)) && ((x7 == false) && ((x8 == false) && true))))) (.ask (((x9 == (0 : Int)) && ((x10 == (0 : Int)) && ((x11 == false) && ((x12 == false) && true))))) (.done ((x13.length : Int) == (1 : Int))) (.done false)) (.done false)) (.done false)) (.done false)) (.ask ((x0 == (5 : Int))) (.opt (F_spec_l1In n x1 (1 : Int) (11 : Int)) fun r71 => (.ask (r71) (.ask (((x2 == (0 : Int)) && ((x3 == (0 : Int)) && ((x4.toList == (⟨#[]⟩ : ByteArray).toList) && true)))) (.ask (((x5 == (0 : Int)) && ((x6 == (0 : Int)) && ((x7 == false) && ((x8 == false) && true))))) (.ask (((x9 == (0 : Int)) && ((x10 == (0 : Int)) && ((x11 == false) && ((x12 == false) && true))))) (.done ((x13.length : Int) == (2 : Int))) (.done false)) (.done false)) (.done false)) (.done false))) (.ask ((x0 == (6 : Int))) (.opt (F_spec_l3Args n x1 (x13.length : Int)) fun r72 => (.ask (r72) (.ask (((x2 == (0 : Int)) && ((x3 == (0 : Int)) && ((x4.toList == (⟨#[]⟩ : ByteArray).toList) && true)))) (.ask (((x5 == (0 : Int)) && ((x6 == (0 : Int)) && ((x7 == false) && ((x8 == false) && true))))) (.done ((x9 == (0 : Int)) && ((x10 == (0 : Int)) && ((x11 == false) && ((x12 == false) && true))))) (.done false)) (.done false)) (.done false))) (.done false)))))))
def F_spec_l3NodeOk : Nat → Int → Int → Int → Int → ByteArray → Int → Int → Bool → Bool → Int → Int → Bool → Bool → List (List PV) → Option (Bool)
  | 0, _, _, _, _, _, _, _, _, _, _, _, _, _, _ => none
  | n + 1, x0, x1, x2, x3, x4, x5, x6, x7, x8, x9, x10, x11, x12, x13 => (T_spec_l3NodeOk n x0 x1 x2 x3 x4 x5 x6 x7 x8 x9 x10 x11 x12 x13).run
theorem ft_spec_l3NodeOk (n : Nat) (x0 : Int) (x1 : Int) (x2 : Int) (x3 : Int) (x4 : ByteArray) (x5 : Int) (x6 : Int) (x7 : Bool) (x8 : Bool) (x9 : Int) (x10 : Int) (x11 : Bool) (x12 : Bool) (x13 : List (List PV)) : funT (CT_spec_l3NodeOk n) (LT_spec_l3NodeOk n) K_spec_l3NodeOk (A_spec_l3NodeOk x0 x1 x2 x3 x4 x5 x6 x7 x8 x9 x10 x11 x12 x13) (U_spec_l3NodeOk x0 x1 x2 x3 x4 x5 x6 x7 x8 x9 x10 x11 x12 x13) = (T_spec_l3NodeOk n x0 x1 x2 x3 x4 x5 x6 x7 x8 x9 x10 x11 x12 x13).bind fun r => .done (O_spec_l3NodeOk r) := by kernel_rfl
theorem ct_spec_l3NodeOk (n : Nat) : CTok (CT_spec_l3NodeOk n) (runs KP lib n) := mkCT_cons (eo_spec_ValueOk n (noEnt_ok)) (mkCT_cons (eo_spec_RefOk n (noEnt_ok)) (mkCT_cons (eo_spec_AreaOk n (noEnt_ok)) (mkCT_cons (eo_spec_l1In n (noEnt_ok)) (mkCT_cons (eo_spec_l3Args n (noEnt_ok)) (mkCT_nil)))))
theorem th_spec_l3NodeOk : ∀ (n : Nat) (x0 : Int) (x1 : Int) (x2 : Int) (x3 : Int) (x4 : ByteArray) (x5 : Int) (x6 : Int) (x7 : Bool) (x8 : Bool) (x9 : Int) (x10 : Int) (x11 : Bool) (x12 : Bool) (x13 : List (List PV)) (r : Bool), F_spec_l3NodeOk n x0 x1 x2 x3 x4 x5 x6 x7 x8 x9 x10 x11 x12 x13 = some r → runs KP lib n 74 (A_spec_l3NodeOk x0 x1 x2 x3 x4 x5 x6 x7 x8 x9 x10 x11 x12 x13) (U_spec_l3NodeOk x0 x1 x2 x3 x4 x5 x6 x7 x8 x9 x10 x11 x12 x13) = some (O_spec_l3NodeOk r)
  | 0, x0, x1, x2, x3, x4, x5, x6, x7, x8, x9, x10, x11, x12, x13, r, h => by cases h
  | n + 1, x0, x1, x2, x3, x4, x5, x6, x7, x8, x9, x10, x11, x12, x13, r, h => fun_step (kf := K_spec_l3NodeOk) rfl (ct_spec_l3NodeOk n) (noLoops rfl) (ft_spec_l3NodeOk n x0 x1 x2 x3 x4 x5 x6 x7 x8 x9 x10 x11 x12 x13) h
def FH_spec_l3NodeOk (n : Nat) : Cont → Option (Bool)
  | ([[[.i x0], [.i x1], [.i x2], [.i x3], [.s x4], [.i x5], [.i x6], [.b x7], [.b x8], [.i x9], [.i x10], [.b x11], [.b x12], [.r x13]]], []) => F_spec_l3NodeOk n x0 x1 x2 x3 x4 x5 x6 x7 x8 x9 x10 x11 x12 x13
  | _ => none
def E_spec_l3NodeOk (n : Nat) (d : List AV → List Go.Eng.Frame → Tr Res) : List AV → List Go.Eng.Frame → Tr Res := cent (A_spec_l3NodeOk (0) (0) (0) (0) (⟨#[]⟩) (0) (0) (false) (false) (0) (0) (false) (false) ([])) (U_spec_l3NodeOk (0) (0) (0) (0) (⟨#[]⟩) (0) (0) (false) (false) (0) (0) (false) (false) ([])) (FH_spec_l3NodeOk n) O_spec_l3NodeOk d
theorem eo_spec_l3NodeOk (n : Nat) {d : List AV → List Go.Eng.Frame → Tr Res} (hd : ∀ ar up r, (d ar up).run = some r → runs KP lib n 74 ar up = some r) : ∀ ar up r, (E_spec_l3NodeOk n d ar up).run = some r → runs KP lib n 74 ar up = some r :=
  cent_ok (fun hs r h => by
    unfold FH_spec_l3NodeOk at h
    split at h
    · exact ⟨A_spec_l3NodeOk _ _ _ _ _ _ _ _ _ _ _ _ _ _, U_spec_l3NodeOk _ _ _ _ _ _ _ _ _ _ _ _ _ _, rfl, rfl, th_spec_l3NodeOk n _ _ _ _ _ _ _ _ _ _ _ _ _ _ r h⟩
    · cases h) hd
/-! ### spec.l3Tree -/
def A_spec_l3Tree (x0 : List (List PV)) (x1 : Int) : List AV := [(.c (.p (.ls x0))), (.c (.p (.i .i64 x1)))]
def U_spec_l3Tree (x0 : List (List PV)) (x1 : Int) : List Go.Eng.Frame := []
def O_spec_l3Tree (r : Int) : Res := ⟨(.c (.p (.i .i64 r))), [], []⟩
def FHr_spec_l3Tree (rec : List (List PV) → Int → Option (Int)) : Cont → Option (Int)
  | ([[[.r x0]], [[.i x1]]], []) => rec x0 x1
  | _ => none
abbrev CT_spec_l3Tree (rec : List (List PV) → Int → Option (Int)) (n : Nat) : CTab := mkCT [(76, cent (A_spec_l3Tree ([]) (0)) (U_spec_l3Tree ([]) (0)) (fun hs => FHr_spec_l3Tree rec hs) O_spec_l3Tree (noEnt))]
def S_spec_l3Tree_29 (v : (List (List PV)) × Int × Int × Int) : St := ⟨[(0, (.c (.p (.ls v.1)))), (1, (.c (.p (.i .i64 v.2.1)))), (5, (.c (.p (.i .i64 v.2.2.1)))), (6, (.c (.p (.i .i64 v.2.2.2))))], [], []⟩
def B_spec_l3Tree_29 (rec : List (List PV) → Int → Option (Int)) (n : Nat) (v : (List (List PV)) × Int × Int × Int) : Tr (((List (List PV)) × Int × Int × Int) ⊕ ((Int) ⊕ (Int))) := (.ask ((decide (v.2.2.2 ≥ (0 : Int)))) (.ask ((decide (v.2.2.1 < (0 : Int)))) (.done (.inr (.inl ((-1 : Int))))) (.ask (decide (0 ≤ v.2.1 ∧ v.2.1 < v.1.length)) (.opt (v.1[(v.2.1).toNat]?) fun e82 => (.ask (decide (e82.length = 14)) (.opt (cellL e82 13) fun y83 => (.ask (decide (0 ≤ v.2.2.2 ∧ v.2.2.2 < y83.length)) (.opt (y83[(v.2.2.2).toNat]?) fun e84 => (.ask (decide (e84.length = 1)) (.opt (cellI .i64 e84 0) fun y85 => (.ask ((y85 != v.2.2.1)) (.done (.inr (.inl ((-1 : Int))))) (.opt (rec v.1 v.2.2.1) fun r86 => (.ask ((decide (r86 < (0 : Int)))) (.done (.inr (.inl ((-1 : Int))))) (.done (.inl (v.1, v.2.1, (IntKind.i64.wrap (r86 - (1 : Int))), (IntKind.i64.wrap (v.2.2.2 - (1 : Int)))))))))) .fail)) .fail)) .fail)) .fail)) (.done (.inr (.inr (v.2.2.1)))))
def D_spec_l3Tree_29 : ((Int) ⊕ (Int)) → Ex × St := fun | .inl r => (.ret, ⟨[(4, (.c (.p (.i .i64 r))))], [], []⟩) | .inr r => (fun r => ((.exit 0), ⟨[(5, (.c (.p (.i .i64 r))))], [], []⟩)) r
def DT_spec_l3Tree_29 : ((Int) ⊕ (Int)) → Tr (Ex × St) := fun r => .alt r (fun r => .done (.ret, ⟨[(4, (.c (.p (.i .i64 r))))], [], []⟩)) (fun r => .done ((.exit 0), ⟨[(5, (.c (.p (.i .i64 r))))], [], []⟩))
def VH_spec_l3Tree_29 : Cont3 → Option ((List (List PV)) × Int × Int × Int)
  | ([[[.r w0]], [[.i w1]], [[.i w2]], [[.i w3]]], [], []) => some (w0, w1, w2, w3)
  | _ => none
abbrev LE_spec_l3Tree_29 (rec : List (List PV) → Int → Option (Int)) (n : Nat) : St → Tr (Ex × St) := lent (S_spec_l3Tree_29 ([], 0, 0, 0)) VH_spec_l3Tree_29 (B_spec_l3Tree_29 rec n) DT_spec_l3Tree_29 n
abbrev LT_spec_l3Tree (rec : List (List PV) → Int → Option (Int)) (n : Nat) : LTab := mkLT [(29, LE_spec_l3Tree_29 rec n)]
def T_spec_l3Tree (rec : List (List PV) → Int → Option (Int)) (n : Nat) (x0 : List (List PV)) (x1 : Int) : Tr (Int) := (.ask (decide (0 ≤ x1 ∧ x1 < x0.length)) (.opt (x0[(x1).toNat]?) fun e80 => (.ask (decide (e80.length = 14)) (.opt (cellL e80 13) fun y81 => (.opt (loopF (B_spec_l3Tree_29 rec n) n (x0, x1, (IntKind.i64.wrap (x1 - (1 : Int))), (IntKind.i64.wrap ((y81.length : Int) - (1 : Int))))) fun r87 => (.alt r87 (fun r88 => (.done r88)) (fun r89 => (.done (IntKind.i64.wrap (r89 + (1 : Int)))))))) .fail)) .fail)
def F_spec_l3Tree : Nat → List (List PV) → Int → Option (Int)
  | 0, _, _ => none
  | n + 1, x0, x1 => (T_spec_l3Tree (F_spec_l3Tree n) n x0 x1).run
theorem ft_spec_l3Tree (rec : List (List PV) → Int → Option (Int)) (n : Nat) (x0 : List (List PV)) (x1 : Int) : funT (CT_spec_l3Tree rec n) (LT_spec_l3Tree rec n) K_spec_l3Tree (A_spec_l3Tree x0 x1) (U_spec_l3Tree x0 x1) = (T_spec_l3Tree rec n x0 x1).bind fun r => .done (O_spec_l3Tree r) := by kernel_rfl
theorem ct_spec_l3Tree (n : Nat) (ih : ∀ (x0 : List (List PV)) (x1 : Int) r, F_spec_l3Tree n x0 x1 = some r → runs KP lib n 76 (A_spec_l3Tree x0 x1) (U_spec_l3Tree x0 x1) = some (O_spec_l3Tree r)) : CTok (CT_spec_l3Tree (F_spec_l3Tree n) n) (runs KP lib n) := mkCT_cons (cent_ok (fun hs r h => by
    unfold FHr_spec_l3Tree at h
    split at h
    · exact ⟨A_spec_l3Tree _ _, U_spec_l3Tree _ _, rfl, rfl, ih _ _ r h⟩
    · cases h) (noEnt_ok)) (mkCT_nil)
theorem lt_spec_l3Tree_29 (n : Nat) (v : (List (List PV)) × Int × Int × Int) : (evalCT (CT_spec_l3Tree (F_spec_l3Tree n) n) (mkLT []) K_spec_l3Tree_L29 (S_spec_l3Tree_29 v) []).bind (ltail [0, 1, 5, 6] [(.ret, [4]), ((.exit 0), [5])]) = (B_spec_l3Tree_29 (F_spec_l3Tree n) n v).bind (lenc S_spec_l3Tree_29 D_spec_l3Tree_29) := by
  obtain ⟨w0, w1, w2, w3⟩ := v
  kernel_rfl
theorem le_spec_l3Tree_29 (n : Nat) (ih : ∀ (x0 : List (List PV)) (x1 : Int) r, F_spec_l3Tree n x0 x1 = some r → runs KP lib n 76 (A_spec_l3Tree x0 x1) (U_spec_l3Tree x0 x1) = some (O_spec_l3Tree r)) : LEok (runs KP lib n) n (29, [0, 1, 5, 6], [(.ret, [4]), ((.exit 0), [5])], K_spec_l3Tree_L29) (LE_spec_l3Tree_29 (F_spec_l3Tree n) n) := fun st e s h =>
  lent_ok (ct_spec_l3Tree n ih) (noLoops rfl) (lt_spec_l3Tree_29 n) (fun r => by
    rcases r with r | r <;> (intro h; cases h)) (fun r y h => by
    rcases r with r | r <;> (cases h; rfl)) (fun hs v h => by
    unfold VH_spec_l3Tree_29 at h
    split at h <;> cases h
    rfl) h
theorem lo_spec_l3Tree (n : Nat) (ih : ∀ (x0 : List (List PV)) (x1 : Int) r, F_spec_l3Tree n x0 x1 = some r → runs KP lib n 76 (A_spec_l3Tree x0 x1) (U_spec_l3Tree x0 x1) = some (O_spec_l3Tree r)) : LTok (LT_spec_l3Tree (F_spec_l3Tree n) n) (runs KP lib n) n K_spec_l3Tree.body := mkLT_ok (by
  intro x hx
  have hx : x ∈ ([(29, [0, 1, 5, 6], [(.ret, [4]), ((.exit 0), [5])], K_spec_l3Tree_L29)] : List (Nat × List Nat × List (Ex × List Nat) × KCode)) := hx
  simp only [List.mem_cons, List.not_mem_nil, or_false] at hx
  rcases hx with rfl
  · exact ⟨LE_spec_l3Tree_29 (F_spec_l3Tree n) n, fun st => rfl, le_spec_l3Tree_29 n ih⟩)
theorem th_spec_l3Tree : ∀ (n : Nat) (x0 : List (List PV)) (x1 : Int) (r : Int), F_spec_l3Tree n x0 x1 = some r → runs KP lib n 76 (A_spec_l3Tree x0 x1) (U_spec_l3Tree x0 x1) = some (O_spec_l3Tree r)
  | 0, x0, x1, r, h => by cases h
  | n + 1, x0, x1, r, h => fun_step (kf := K_spec_l3Tree) rfl (ct_spec_l3Tree n (th_spec_l3Tree n)) (lo_spec_l3Tree n (th_spec_l3Tree n)) (ft_spec_l3Tree (F_spec_l3Tree n) n x0 x1) h
def FH_spec_l3Tree (n : Nat) : Cont → Option (Int)
  | ([[[.r x0]], [[.i x1]]], []) => F_spec_l3Tree n x0 x1
  | _ => none
def E_spec_l3Tree (n : Nat) (d : List AV → List Go.Eng.Frame → Tr Res) : List AV → List Go.Eng.Frame → Tr Res := cent (A_spec_l3Tree ([]) (0)) (U_spec_l3Tree ([]) (0)) (FH_spec_l3Tree n) O_spec_l3Tree d
theorem eo_spec_l3Tree (n : Nat) {d : List AV → List Go.Eng.Frame → Tr Res} (hd : ∀ ar up r, (d ar up).run = some r → runs KP lib n 76 ar up = some r) : ∀ ar up r, (E_spec_l3Tree n d ar up).run = some r → runs KP lib n 76 ar up = some r :=
  cent_ok (fun hs r h => by
    unfold FH_spec_l3Tree at h
    split at h
    · exact ⟨A_spec_l3Tree _ _, U_spec_l3Tree _ _, rfl, rfl, th_spec_l3Tree n _ _ r h⟩
    · cases h) hd
/-! ### spec.l3Deep -/
def A_spec_l3Deep (x0 : List (List PV)) (x1 : Int) : List AV := [(.c (.p (.ls x0))), (.c (.p (.i .i64 x1)))]
def U_spec_l3Deep (x0 : List (List PV)) (x1 : Int) : List Go.Eng.Frame := []
def O_spec_l3Deep (r : Int) : Res := ⟨(.c (.p (.i .i64 r))), [], []⟩
def FHr_spec_l3Deep (rec : List (List PV) → Int → Option (Int)) : Cont → Option (Int)
  | ([[[.r x0]], [[.i x1]]], []) => rec x0 x1
  | _ => none
abbrev CT_spec_l3Deep (rec : List (List PV) → Int → Option (Int)) (n : Nat) : CTab := mkCT [(77, cent (A_spec_l3Deep ([]) (0)) (U_spec_l3Deep ([]) (0)) (fun hs => FHr_spec_l3Deep rec hs) O_spec_l3Deep (noEnt))]
def S_spec_l3Deep_29 (v : (List (List PV)) × Int × Int × Int) : St := ⟨[(0, (.c (.p (.ls v.1)))), (1, (.c (.p (.i .i64 v.2.1)))), (5, (.c (.p (.i .i64 v.2.2.1)))), (6, (.c (.p (.i .i64 v.2.2.2))))], [], []⟩
def B_spec_l3Deep_29 (rec : List (List PV) → Int → Option (Int)) (n : Nat) (v : (List (List PV)) × Int × Int × Int) : Tr (((List (List PV)) × Int × Int × Int) ⊕ ((Int))) := (.ask (decide (0 ≤ v.2.1 ∧ v.2.1 < v.1.length)) (.opt (v.1[(v.2.1).toNat]?) fun e100 => (.ask (decide (e100.length = 14)) (.opt (cellL e100 13) fun y101 => (.ask ((decide (v.2.2.2 < (y101.length : Int)))) (.ask (decide (0 ≤ v.2.1 ∧ v.2.1 < v.1.length)) (.opt (v.1[(v.2.1).toNat]?) fun e102 => (.ask (decide (e102.length = 14)) (.opt (cellL e102 13) fun y103 => (.ask (decide (0 ≤ v.2.2.2 ∧ v.2.2.2 < y103.length)) (.opt (y103[(v.2.2.2).toNat]?) fun e104 => (.ask (decide (e104.length = 1)) (.opt (cellI .i64 e104 0) fun y105 => (.opt (rec v.1 y105) fun r106 => (.done (.inl (v.1, v.2.1, (if r106 > v.2.2.1 then r106 else v.2.2.1), (IntKind.i64.wrap (v.2.2.2 + (1 : Int)))))))) .fail)) .fail)) .fail)) .fail) (.done (.inr (v.2.2.1))))) .fail)) .fail)
def D_spec_l3Deep_29 : (Int) → Ex × St := fun r => ((.exit 0), ⟨[(5, (.c (.p (.i .i64 r))))], [], []⟩)
def DT_spec_l3Deep_29 : (Int) → Tr (Ex × St) := fun r => .done ((.exit 0), ⟨[(5, (.c (.p (.i .i64 r))))], [], []⟩)
def VH_spec_l3Deep_29 : Cont3 → Option ((List (List PV)) × Int × Int × Int)
  | ([[[.r w0]], [[.i w1]], [[.i w2]], [[.i w3]]], [], []) => some (w0, w1, w2, w3)
  | _ => none
abbrev LE_spec_l3Deep_29 (rec : List (List PV) → Int → Option (Int)) (n : Nat) : St → Tr (Ex × St) := lent (S_spec_l3Deep_29 ([], 0, 0, 0)) VH_spec_l3Deep_29 (B_spec_l3Deep_29 rec n) DT_spec_l3Deep_29 n
abbrev LT_spec_l3Deep (rec : List (List PV) → Int → Option (Int)) (n : Nat) : LTab := mkLT [(29, LE_spec_l3Deep_29 rec n)]
def T_spec_l3Deep (rec : List (List PV) → Int → Option (Int)) (n : Nat) (x0 : List (List PV)) (x1 : Int) : Tr (Int) := (.opt (loopF (B_spec_l3Deep_29 rec n) n (x0, x1, (0 : Int), (0 : Int))) fun r107 => (.done (IntKind.i64.wrap (r107 + (1 : Int)))))
def F_spec_l3Deep : Nat → List (List PV) → Int → Option (Int)
  | 0, _, _ => none
  | n + 1, x0, x1 => (T_spec_l3Deep (F_spec_l3Deep n) n x0 x1).run
theorem ft_spec_l3Deep (rec : List (List PV) → Int → Option (Int)) (n : Nat) (x0 : List (List PV)) (x1 : Int) : funT (CT_spec_l3Deep rec n) (LT_spec_l3Deep rec n) K_spec_l3Deep (A_spec_l3Deep x0 x1) (U_spec_l3Deep x0 x1) = (T_spec_l3Deep rec n x0 x1).bind fun r => .done (O_spec_l3Deep r) := by kernel_rfl
theorem ct_spec_l3Deep (n : Nat) (ih : ∀ (x0 : List (List PV)) (x1 : Int) r, F_spec_l3Deep n x0 x1 = some r → runs KP lib n 77 (A_spec_l3Deep x0 x1) (U_spec_l3Deep x0 x1) = some (O_spec_l3Deep r)) : CTok (CT_spec_l3Deep (F_spec_l3Deep n) n) (runs KP lib n) := mkCT_cons (cent_ok (fun hs r h => by
    unfold FHr_spec_l3Deep at h
    split at h
    · exact ⟨A_spec_l3Deep _ _, U_spec_l3Deep _ _, rfl, rfl, ih _ _ r h⟩
    · cases h) (noEnt_ok)) (mkCT_nil)
theorem lt_spec_l3Deep_29 (n : Nat) (v : (List (List PV)) × Int × Int × Int) : (evalCT (CT_spec_l3Deep (F_spec_l3Deep n) n) (mkLT []) K_spec_l3Deep_L29 (S_spec_l3Deep_29 v) []).bind (ltail [0, 1, 5, 6] [(.ret, [4]), ((.exit 0), [5])]) = (B_spec_l3Deep_29 (F_spec_l3Deep n) n v).bind (lenc S_spec_l3Deep_29 D_spec_l3Deep_29) := by
  obtain ⟨w0, w1, w2, w3⟩ := v
  kernel_rfl
theorem le_spec_l3Deep_29 (n : Nat) (ih : ∀ (x0 : List (List PV)) (x1 : Int) r, F_spec_l3Deep n x0 x1 = some r → runs KP lib n 77 (A_spec_l3Deep x0 x1) (U_spec_l3Deep x0 x1) = some (O_spec_l3Deep r)) : LEok (runs KP lib n) n (29, [0, 1, 5, 6], [(.ret, [4]), ((.exit 0), [5])], K_spec_l3Deep_L29) (LE_spec_l3Deep_29 (F_spec_l3Deep n) n) := fun st e s h =>
  lent_ok (ct_spec_l3Deep n ih) (noLoops rfl) (lt_spec_l3Deep_29 n) (fun r h => by cases h) (fun r y h => by cases h; rfl) (fun hs v h => by
    unfold VH_spec_l3Deep_29 at h
    split at h <;> cases h
    rfl) h
theorem lo_spec_l3Deep (n : Nat) (ih : ∀ (x0 : List (List PV)) (x1 : Int) r, F_spec_l3Deep n x0 x1 = some r → runs KP lib n 77 (A_spec_l3Deep x0 x1) (U_spec_l3Deep x0 x1) = some (O_spec_l3Deep r)) : LTok (LT_spec_l3Deep (F_spec_l3Deep n) n) (runs KP lib n) n K_spec_l3Deep.body := mkLT_ok (by
  intro x hx
  have hx : x ∈ ([(29, [0, 1, 5, 6], [(.ret, [4]), ((.exit 0), [5])], K_spec_l3Deep_L29)] : List (Nat × List Nat × List (Ex × List Nat) × KCode)) := hx
  simp only [List.mem_cons, List.not_mem_nil, or_false] at hx
  rcases hx with rfl
  · exact ⟨LE_spec_l3Deep_29 (F_spec_l3Deep n) n, fun st => rfl, le_spec_l3Deep_29 n ih⟩)
theorem th_spec_l3Deep : ∀ (n : Nat) (x0 : List (List PV)) (x1 : Int) (r : Int), F_spec_l3Deep n x0 x1 = some r → runs KP lib n 77 (A_spec_l3Deep x0 x1) (U_spec_l3Deep x0 x1) = some (O_spec_l3Deep r)
  | 0, x0, x1, r, h => by cases h
  | n + 1, x0, x1, r, h => fun_step (kf := K_spec_l3Deep) rfl (ct_spec_l3Deep n (th_spec_l3Deep n)) (lo_spec_l3Deep n (th_spec_l3Deep n)) (ft_spec_l3Deep (F_spec_l3Deep n) n x0 x1) h
def FH_spec_l3Deep (n : Nat) : Cont → Option (Int)
  | ([[[.r x0]], [[.i x1]]], []) => F_spec_l3Deep n x0 x1
  | _ => none
def E_spec_l3Deep (n : Nat) (d : List AV → List Go.Eng.Frame → Tr Res) : List AV → List Go.Eng.Frame → Tr Res := cent (A_spec_l3Deep ([]) (0)) (U_spec_l3Deep ([]) (0)) (FH_spec_l3Deep n) O_spec_l3Deep d
theorem eo_spec_l3Deep (n : Nat) {d : List AV → List Go.Eng.Frame → Tr Res} (hd : ∀ ar up r, (d ar up).run = some r → runs KP lib n 77 ar up = some r) : ∀ ar up r, (E_spec_l3Deep n d ar up).run = some r → runs KP lib n 77 ar up = some r :=
  cent_ok (fun hs r h => by
    unfold FH_spec_l3Deep at h
    split at h
    · exact ⟨A_spec_l3Deep _ _, U_spec_l3Deep _ _, rfl, rfl, th_spec_l3Deep n _ _ r h⟩
    · cases h) hd
/-! ### spec.FormulaOk -/
def A_spec_FormulaOk (x0 : List (List PV)) : List AV := [(.c (.p (.ls x0)))]
def U_spec_FormulaOk (x0 : List (List PV)) : List Go.Eng.Frame := []
def O_spec_FormulaOk (r : Bool) : Res := ⟨(.c (.p (.b r))), [], []⟩
abbrev CT_spec_FormulaOk (n : Nat) : CTab := mkCT [(74, E_spec_l3NodeOk n (noEnt)), (75, E_spec_l1In n (noEnt)), (76, E_spec_l3Tree n (noEnt)), (77, E_spec_l3Deep n (noEnt))]
def S_spec_FormulaOk_475 (v : (List (List PV)) × Int × Int) : St := ⟨[(0, (.c (.p (.ls v.1)))), (3, (.c (.p (.i .i64 v.2.1)))), (4, (.c (.p (.i .i64 v.2.2))))], [], []⟩
def B_spec_FormulaOk_475 (n : Nat) (v : (List (List PV)) × Int × Int) : Tr (((List (List PV)) × Int × Int) ⊕ ((Bool) ⊕ ((List (List PV)) × Int))) := (.ask (decide (0 ≤ v.2.1 ∧ v.2.1 < v.1.length)) (.opt (v.1[(v.2.1).toNat]?) fun e56 => (.ask (decide (e56.length = 14)) (.opt (cellL e56 13) fun y57 => (.ask ((decide (v.2.2 < (y57.length : Int)))) (.ask (decide (0 ≤ v.2.1 ∧ v.2.1 < v.1.length)) (.opt (v.1[(v.2.1).toNat]?) fun e58 => (.ask (decide (e58.length = 14)) (.opt (cellL e58 13) fun y59 => (.ask (decide (0 ≤ v.2.2 ∧ v.2.2 < y59.length)) (.opt (y59[(v.2.2).toNat]?) fun e60 => (.ask (decide (e60.length = 1)) (.opt (cellI .i64 e60 0) fun y61 => (.opt (F_spec_l1In n y61 (0 : Int) (IntKind.i64.wrap (v.2.1 - (1 : Int)))) fun r62 => (.ask ((!r62)) (.done (.inr (.inl (false)))) (.ask (decide (0 ≤ y61 ∧ y61 < v.1.length)) (.opt (v.1[(y61).toNat]?) fun e63 => (.ask (decide (e63.length = 14)) (.opt (cellI .i64 e63 0) fun y64 => (.ask ((y64 == (3 : Int))) (.ask (decide (0 ≤ v.2.1 ∧ v.2.1 < v.1.length)) (.opt (v.1[(v.2.1).toNat]?) fun e65 => (.ask (decide (e65.length = 14)) (.opt (cellI .i64 e65 0) fun y66 => (.ask ((y66 != (6 : Int))) (.done (.inr (.inl (false)))) (.done (.inl (v.1, v.2.1, (IntKind.i64.wrap (v.2.2 + (1 : Int)))))))) .fail)) .fail) (.done (.inl (v.1, v.2.1, (IntKind.i64.wrap (v.2.2 + (1 : Int)))))))) .fail)) .fail)))) .fail)) .fail)) .fail)) .fail) (.done (.inr (.inr ((v.1, v.2.1))))))) .fail)) .fail)
def D_spec_FormulaOk_475 : ((Bool) ⊕ ((List (List PV)) × Int)) → Ex × St := fun | .inl r => (.ret, ⟨[(2, (.c (.p (.b r))))], [], []⟩) | .inr r => (fun r => ((.exit 2), ⟨[(0, (.c (.p (.ls r.1)))), (3, (.c (.p (.i .i64 r.2))))], [], []⟩)) r
def DT_spec_FormulaOk_475 : ((Bool) ⊕ ((List (List PV)) × Int)) → Tr (Ex × St) := fun r => .alt r (fun r => .done (.ret, ⟨[(2, (.c (.p (.b r))))], [], []⟩)) (fun r => .done ((.exit 2), ⟨[(0, (.c (.p (.ls r.1)))), (3, (.c (.p (.i .i64 r.2))))], [], []⟩))
def VH_spec_FormulaOk_475 : Cont3 → Option ((List (List PV)) × Int × Int)
  | ([[[.r w0]], [[.i w1]], [[.i w2]]], [], []) => some (w0, w1, w2)
  | _ => none
abbrev LE_spec_FormulaOk_475 (n : Nat) : St → Tr (Ex × St) := lent (S_spec_FormulaOk_475 ([], 0, 0)) VH_spec_FormulaOk_475 (B_spec_FormulaOk_475 n) DT_spec_FormulaOk_475 n
def S_spec_FormulaOk_29 (v : (List (List PV)) × Int) : St := ⟨[(0, (.c (.p (.ls v.1)))), (3, (.c (.p (.i .i64 v.2))))], [], []⟩
def B_spec_FormulaOk_29 (n : Nat) (v : (List (List PV)) × Int) : Tr (((List (List PV)) × Int) ⊕ ((Bool) ⊕ ((List (List PV))))) := (.ask ((decide (v.2 < (v.1.length : Int)))) (.ask (decide (0 ≤ v.2 ∧ v.2 < v.1.length)) (.opt (v.1[(v.2).toNat]?) fun e40 => (.ask (decide (e40.length = 14)) (.opt (cellI .i64 e40 0) fun y41 => (.opt (cellI .i64 e40 1) fun y42 => (.opt (cellI .i64 e40 2) fun y43 => (.opt (cellI .i64 e40 3) fun y44 => (.opt (cellS e40 4) fun y45 => (.opt (cellI .i64 e40 5) fun y46 => (.opt (cellI .i64 e40 6) fun y47 => (.opt (cellB e40 7) fun y48 => (.opt (cellB e40 8) fun y49 => (.opt (cellI .i64 e40 9) fun y50 => (.opt (cellI .i64 e40 10) fun y51 => (.opt (cellB e40 11) fun y52 => (.opt (cellB e40 12) fun y53 => (.opt (cellL e40 13) fun y54 => (.opt (F_spec_l3NodeOk n y41 y42 y43 y44 y45 y46 y47 y48 y49 y50 y51 y52 y53 y54) fun r55 => (.ask ((!r55)) (.done (.inr (.inl (false)))) (.opt (loopF (B_spec_FormulaOk_475 n) n (v.1, v.2, (0 : Int))) fun r67 => (.alt r67 (fun r68 => (.done (.inr (.inl (r68))))) (fun r69 => (.done (.inl (r69.1, (IntKind.i64.wrap (r69.2 + (1 : Int))))))))))))))))))))))))) .fail)) .fail) (.done (.inr (.inr (v.1)))))
def D_spec_FormulaOk_29 : ((Bool) ⊕ ((List (List PV)))) → Ex × St := fun | .inl r => (.ret, ⟨[(2, (.c (.p (.b r))))], [], []⟩) | .inr r => (fun r => ((.exit 0), ⟨[(0, (.c (.p (.ls r))))], [], []⟩)) r
def DT_spec_FormulaOk_29 : ((Bool) ⊕ ((List (List PV)))) → Tr (Ex × St) := fun r => .alt r (fun r => .done (.ret, ⟨[(2, (.c (.p (.b r))))], [], []⟩)) (fun r => .done ((.exit 0), ⟨[(0, (.c (.p (.ls r))))], [], []⟩))
def VH_spec_FormulaOk_29 : Cont3 → Option ((List (List PV)) × Int)
  | ([[[.r w0]], [[.i w1]]], [], []) => some (w0, w1)
  | _ => none
abbrev LE_spec_FormulaOk_29 (n : Nat) : St → Tr (Ex × St) := lent (S_spec_FormulaOk_29 ([], 0)) VH_spec_FormulaOk_29 (B_spec_FormulaOk_29 n) DT_spec_FormulaOk_29 n
abbrev LT_spec_FormulaOk (n : Nat) : LTab := mkLT [(29, LE_spec_FormulaOk_29 n)]
def T_spec_FormulaOk (n : Nat) (x0 : List (List PV)) : Tr (Bool) := (.ask ((decide ((x0.length : Int) < (1 : Int)))) (.done false) (.ask ((decide ((x0.length : Int) > (60 : Int)))) (.done false) (.opt (loopF (B_spec_FormulaOk_29 n) n (x0, (0 : Int))) fun r70 => (.alt r70 (fun r71 => (.done r71)) (fun r72 => (.opt (F_spec_l3Tree n r72 (IntKind.i64.wrap ((r72.length : Int) - (1 : Int)))) fun r90 => (.ask ((r90 == (0 : Int))) (.ask (decide (0 ≤ (IntKind.i64.wrap ((r72.length : Int) - (1 : Int))) ∧ (IntKind.i64.wrap ((r72.length : Int) - (1 : Int))) < r72.length)) (.opt (r72[((IntKind.i64.wrap ((r72.length : Int) - (1 : Int)))).toNat]?) fun e91 => (.ask (decide (e91.length = 14)) (.opt (cellI .i64 e91 0) fun y92 => (.ask ((y92 != (3 : Int))) (.opt (F_spec_l3Deep n r72 (IntKind.i64.wrap ((r72.length : Int) - (1 : Int)))) fun r108 => (.done (decide (r108 ≤ (12 : Int))))) (.done false))) .fail)) .fail) (.done false))))))))
def F_spec_FormulaOk : Nat → List (List PV) → Option (Bool)
  | 0, _ => none
  | n + 1, x0 => (T_spec_FormulaOk n x0).run
theorem ft_spec_FormulaOk (n : Nat) (x0 : List (List PV)) : funT (CT_spec_FormulaOk n) (LT_spec_FormulaOk n) K_spec_FormulaOk (A_spec_FormulaOk x0) (U_spec_FormulaOk x0) = (T_spec_FormulaOk n x0).bind fun r => .done (O_spec_FormulaOk r) := by kernel_rfl
theorem ct_spec_FormulaOk (n : Nat) : CTok (CT_spec_FormulaOk n) (runs KP lib n) := mkCT_cons (eo_spec_l3NodeOk n (noEnt_ok)) (mkCT_cons (eo_spec_l1In n (noEnt_ok)) (mkCT_cons (eo_spec_l3Tree n (noEnt_ok)) (mkCT_cons (eo_spec_l3Deep n (noEnt_ok)) (mkCT_nil))))
theorem lt_spec_FormulaOk_475 (n : Nat) (v : (List (List PV)) × Int × Int) : (evalCT (CT_spec_FormulaOk n) (mkLT []) K_spec_FormulaOk_L475 (S_spec_FormulaOk_475 v) []).bind (ltail [0, 3, 4] [(.ret, [2]), ((.exit 2), [0, 3]), ((.exit 1), [0, 3]), ((.exit 0), [0])]) = (B_spec_FormulaOk_475 n v).bind (lenc S_spec_FormulaOk_475 D_spec_FormulaOk_475) := by
  obtain ⟨w0, w1, w2⟩ := v
  kernel_rfl
theorem le_spec_FormulaOk_475 (n : Nat) : LEok (runs KP lib n) n (475, [0, 3, 4], [(.ret, [2]), ((.exit 2), [0, 3]), ((.exit 1), [0, 3]), ((.exit 0), [0])], K_spec_FormulaOk_L475) (LE_spec_FormulaOk_475 n) := fun st e s h =>
  lent_ok (ct_spec_FormulaOk n) (noLoops rfl) (lt_spec_FormulaOk_475 n) (fun r => by
    rcases r with r | r <;> (intro h; cases h)) (fun r y h => by
    rcases r with r | r <;> (cases h; rfl)) (fun hs v h => by
    unfold VH_spec_FormulaOk_475 at h
    split at h <;> cases h
    rfl) h
theorem li_spec_FormulaOk_29 (n : Nat) : LTok (mkLT [(475, LE_spec_FormulaOk_475 n)]) (runs KP lib n) n K_spec_FormulaOk_L29 := mkLT_ok (by
  intro x hx
  have hx : x ∈ ([(475, [0, 3, 4], [(.ret, [2]), ((.exit 2), [0, 3]), ((.exit 1), [0, 3]), ((.exit 0), [0])], K_spec_FormulaOk_L475)] : List (Nat × List Nat × List (Ex × List Nat) × KCode)) := hx
  simp only [List.mem_cons, List.not_mem_nil, or_false] at hx
  rcases hx with rfl
  · exact ⟨LE_spec_FormulaOk_475 n, fun st => rfl, le_spec_FormulaOk_475 n⟩)
theorem lt_spec_FormulaOk_29 (n : Nat) (v : (List (List PV)) × Int) : (evalCT (CT_spec_FormulaOk n) (mkLT [(475, LE_spec_FormulaOk_475 n)]) K_spec_FormulaOk_L29 (S_spec_FormulaOk_29 v) []).bind (ltail [0, 3] [(.ret, [2]), ((.exit 0), [0])]) = (B_spec_FormulaOk_29 n v).bind (lenc S_spec_FormulaOk_29 D_spec_FormulaOk_29) := by
  obtain ⟨w0, w1⟩ := v
  kernel_rfl
theorem le_spec_FormulaOk_29 (n : Nat) : LEok (runs KP lib n) n (29, [0, 3], [(.ret, [2]), ((.exit 0), [0])], K_spec_FormulaOk_L29) (LE_spec_FormulaOk_29 n) := fun st e s h =>
  lent_ok (ct_spec_FormulaOk n) (li_spec_FormulaOk_29 n) (lt_spec_FormulaOk_29 n) (fun r => by
    rcases r with r | r <;> (intro h; cases h)) (fun r y h => by
    rcases r with r | r <;> (cases h; rfl)) (fun hs v h => by
    unfold VH_spec_FormulaOk_29 at h
    split at h <;> cases h
    rfl) h
theorem lo_spec_FormulaOk (n : Nat) : LTok (LT_spec_FormulaOk n) (runs KP lib n) n K_spec_FormulaOk.body := mkLT_ok (by
  intro x hx
  have hx : x ∈ ([(29, [0, 3], [(.ret, [2]), ((.exit 0), [0])], K_spec_FormulaOk_L29)] : List (Nat × List Nat × List (Ex × List Nat) × KCode)) := hx
  simp only [List.mem_cons, List.not_mem_nil, or_false] at hx
  rcases hx with rfl
  · exact ⟨LE_spec_FormulaOk_29 n, fun st => rfl, le_spec_FormulaOk_29 n⟩)
theorem th_spec_FormulaOk : ∀ (n : Nat) (x0 : List (List PV)) (r : Bool), F_spec_FormulaOk n x0 = some r → runs KP lib n 37 (A_spec_FormulaOk x0) (U_spec_FormulaOk x0) = some (O_spec_FormulaOk r)
  | 0, x0, r, h => by cases h
  | n + 1, x0, r, h => fun_step (kf := K_spec_FormulaOk) rfl (ct_spec_FormulaOk n) (lo_spec_FormulaOk n) (ft_spec_FormulaOk n x0) h
def FH_spec_FormulaOk (n : Nat) : Cont → Option (Bool)
  | ([[[.r x0]]], []) => F_spec_FormulaOk n x0
  | _ => none
def E_spec_FormulaOk (n : Nat) (d : List AV → List Go.Eng.Frame → Tr Res) : List AV → List Go.Eng.Frame → Tr Res := cent (A_spec_FormulaOk ([])) (U_spec_FormulaOk ([])) (FH_spec_FormulaOk n) O_spec_FormulaOk d
theorem eo_spec_FormulaOk (n : Nat) {d : List AV → List Go.Eng.Frame → Tr Res} (hd : ∀ ar up r, (d ar up).run = some r → runs KP lib n 37 ar up = some r) : ∀ ar up r, (E_spec_FormulaOk n d ar up).run = some r → runs KP lib n 37 ar up = some r :=
  cent_ok (fun hs r h => by
    unfold FH_spec_FormulaOk at h
    split at h
    · exact ⟨A_spec_FormulaOk _, U_spec_FormulaOk _, rfl, rfl, th_spec_FormulaOk n _ r h⟩
    · cases h) hd
/-! ### impl.within -/
def A_impl_within (x0 : Int) (x1 : Int) (x2 : Int) : List AV := [(.c (.p (.i .i64 x0))), (.c (.p (.i .i64 x1))), (.c (.p (.i .i64 x2)))]
def U_impl_within (x0 : Int) (x1 : Int) (x2 : Int) : List Go.Eng.Frame := []
def O_impl_within (r : Bool) : Res := ⟨(.c (.p (.b r))), [], []⟩
abbrev CT_impl_within (n : Nat) : CTab := mkCT []
abbrev LT_impl_within (n : Nat) : LTab := mkLT []
def T_impl_within (n : Nat) (x0 : Int) (x1 : Int) (x2 : Int) : Tr (Bool) := (.ask ((decide (x0 ≥ x1))) (.done (decide (x0 ≤ x2))) (.done false))
def F_impl_within : Nat → Int → Int → Int → Option (Bool)
  | 0, _, _, _ => none
  | n + 1, x0, x1, x2 => (T_impl_within n x0 x1 x2).run
theorem ft_impl_within (n : Nat) (x0 : Int) (x1 : Int) (x2 : Int) : funT (CT_impl_within n) (LT_impl_within n) K_impl_within (A_impl_within x0 x1 x2) (U_impl_within x0 x1 x2) = (T_impl_within n x0 x1 x2).bind fun r => .done (O_impl_within r) := by kernel_rfl
theorem ct_impl_within (n : Nat) : CTok (CT_impl_within n) (runs KP lib n) := mkCT_nil
theorem th_impl_within : ∀ (n : Nat) (x0 : Int) (x1 : Int) (x2 : Int) (r : Bool), F_impl_within n x0 x1 x2 = some r → runs KP lib n 79 (A_impl_within x0 x1 x2) (U_impl_within x0 x1 x2) = some (O_impl_within r)
  | 0, x0, x1, x2, r, h => by cases h
  | n + 1, x0, x1, x2, r, h => fun_step (kf := K_impl_within) rfl (ct_impl_within n) (noLoops rfl) (ft_impl_within n x0 x1 x2) h
def FH_impl_within (n : Nat) : Cont → Option (Bool)
  | ([[[.i x0]], [[.i x1]], [[.i x2]]], []) => F_impl_within n x0 x1 x2
  | _ => none
def E_impl_within (n : Nat) (d : List AV → List Go.Eng.Frame → Tr Res) : List AV → List Go.Eng.Frame → Tr Res := cent (A_impl_within (0) (0) (0)) (U_impl_within (0) (0) (0)) (FH_impl_within n) O_impl_within d
theorem eo_impl_within (n : Nat) {d : List AV → List Go.Eng.Frame → Tr Res} (hd : ∀ ar up r, (d ar up).run = some r → runs KP lib n 79 ar up = some r) : ∀ ar up r, (E_impl_within n d ar up).run = some r → runs KP lib n 79 ar up = some r :=
  cent_ok (fun hs r h => by
    unfold FH_impl_within at h
    split at h
    · exact ⟨A_impl_within _ _ _, U_impl_within _ _ _, rfl, rfl, th_impl_within n _ _ _ r h⟩
    · cases h) hd
/-! ### impl.isText -/
def A_impl_isText (x0 : ByteArray) (x1 : Int) : List AV := [(.c (.p (.s x0))), (.c (.p (.i .i64 x1)))]
def U_impl_isText (x0 : ByteArray) (x1 : Int) : List Go.Eng.Frame := []
def O_impl_isText (r : Bool) : Res := ⟨(.c (.p (.b r))), [], []⟩
abbrev CT_impl_isText (n : Nat) : CTab := mkCT []
def S_impl_isText_13 (v : ByteArray × Int × Int × Int) : St := ⟨[(0, (.c (.p (.s v.1)))), (1, (.c (.p (.i .i64 v.2.1)))), (7, (.c (.p (.i .i64 v.2.2.1)))), (8, (.c (.p (.i .i64 v.2.2.2))))], [], []⟩
def B_impl_isText_13 (n : Nat) (v : ByteArray × Int × Int × Int) : Tr ((ByteArray × Int × Int × Int) ⊕ ((Bool) ⊕ (ByteArray × Int))) := (.ask ((decide (v.2.2.2 < v.2.2.1))) (.ask (decide (0 ≤ v.2.2.2)) (.opt (v.1.toList[(v.2.2.2).toNat]?) fun c129 => (.ask ((decide ((c129.toNat : Int) < (32 : Int)))) (.done (.inr (.inl (false)))) (.ask (decide (0 ≤ v.2.2.2)) (.opt (v.1.toList[(v.2.2.2).toNat]?) fun c130 => (.ask ((decide ((c130.toNat : Int) > (126 : Int)))) (.done (.inr (.inl (false)))) (.done (.inl (v.1, v.2.1, v.2.2.1, (IntKind.i64.wrap (v.2.2.2 + (1 : Int)))))))) .fail))) .fail) (.done (.inr (.inr ((v.1, v.2.1))))))
def D_impl_isText_13 : ((Bool) ⊕ (ByteArray × Int)) → Ex × St := fun | .inl r => (.ret, ⟨[(4, (.c (.p (.b r))))], [], []⟩) | .inr r => (fun r => ((.exit 0), ⟨[(0, (.c (.p (.s r.1)))), (1, (.c (.p (.i .i64 r.2))))], [], []⟩)) r
def DT_impl_isText_13 : ((Bool) ⊕ (ByteArray × Int)) → Tr (Ex × St) := fun r => .alt r (fun r => .done (.ret, ⟨[(4, (.c (.p (.b r))))], [], []⟩)) (fun r => .done ((.exit 0), ⟨[(0, (.c (.p (.s r.1)))), (1, (.c (.p (.i .i64 r.2))))], [], []⟩))
def VH_impl_isText_13 : Cont3 → Option (ByteArray × Int × Int × Int)
  | ([[[.s w0]], [[.i w1]], [[.i w2]], [[.i w3]]], [], []) => some (w0, w1, w2, w3)
  | _ => none
abbrev LE_impl_isText_13 (n : Nat) : St → Tr (Ex × St) := lent (S_impl_isText_13 (⟨#[]⟩, 0, 0, 0)) VH_impl_isText_13 (B_impl_isText_13 n) DT_impl_isText_13 n
abbrev LT_impl_isText (n : Nat) : LTab := mkLT [(13, LE_impl_isText_13 n)]
def T_impl_isText (n : Nat) (x0 : ByteArray) (x1 : Int) : Tr (Bool) := (.opt (loopF (B_impl_isText_13 n) n (x0, x1, (x0.size : Int), (0 : Int))) fun r131 => (.alt r131 (fun r132 => (.done r132)) (fun r133 => (.done (decide ((r133.1.size : Int) ≤ r133.2))))))
def F_impl_isText : Nat → ByteArray → Int → Option (Bool)
  | 0, _, _ => none
  | n + 1, x0, x1 => (T_impl_isText n x0 x1).run
theorem ft_impl_isText (n : Nat) (x0 : ByteArray) (x1 : Int) : funT (CT_impl_isText n) (LT_impl_isText n) K_impl_isText (A_impl_isText x0 x1) (U_impl_isText x0 x1) = (T_impl_isText n x0 x1).bind fun r => .done (O_impl_isText r) := by kernel_rfl
theorem ct_impl_isText (n : Nat) : CTok (CT_impl_isText n) (runs KP lib n) := mkCT_nil
theorem lt_impl_isText_13 (n : Nat) (v : ByteArray × Int × Int × Int) : (evalCT (CT_impl_isText n) (mkLT []) K_impl_isText_L13 (S_impl_isText_13 v) []).bind (ltail [0, 1, 7, 8] [(.ret, [4]), ((.exit 0), [0, 1])]) = (B_impl_isText_13 n v).bind (lenc S_impl_isText_13 D_impl_isText_13) := by
  obtain ⟨w0, w1, w2, w3⟩ := v
  kernel_rfl
theorem le_impl_isText_13 (n : Nat) : LEok (runs KP lib n) n (13, [0, 1, 7, 8], [(.ret, [4]), ((.exit 0), [0, 1])], K_impl_isText_L13) (LE_impl_isText_13 n) := fun st e s h =>
  lent_ok (ct_impl_isText n) (noLoops rfl) (lt_impl_isText_13 n) (fun r => by
    rcases r with r | r <;> (intro h; cases h)) (fun r y h => by
    rcases r with r | r <;> (cases h; rfl)) (fun hs v h => by
    unfold VH_impl_isText_13 at h
    split at h <;> cases h
    rfl) h
theorem lo_impl_isText (n : Nat) : LTok (LT_impl_isText n) (runs KP lib n) n K_impl_isText.body := mkLT_ok (by
  intro x hx
  have hx : x ∈ ([(13, [0, 1, 7, 8], [(.ret, [4]), ((.exit 0), [0, 1])], K_impl_isText_L13)] : List (Nat × List Nat × List (Ex × List Nat) × KCode)) := hx
  simp only [List.mem_cons, List.not_mem_nil, or_false] at hx
  rcases hx with rfl
  · exact ⟨LE_impl_isText_13 n, fun st => rfl, le_impl_isText_13 n⟩)
theorem th_impl_isText : ∀ (n : Nat) (x0 : ByteArray) (x1 : Int) (r : Bool), F_impl_isText n x0 x1 = some r → runs KP lib n 100 (A_impl_isText x0 x1) (U_impl_isText x0 x1) = some (O_impl_isText r)
  | 0, x0, x1, r, h => by cases h
  | n + 1, x0, x1, r, h => fun_step (kf := K_impl_isText) rfl (ct_impl_isText n) (lo_impl_isText n) (ft_impl_isText n x0 x1) h
def FH_impl_isText (n : Nat) : Cont → Option (Bool)
  | ([[[.s x0]], [[.i x1]]], []) => F_impl_isText n x0 x1
  | _ => none
def E_impl_isText (n : Nat) (d : List AV → List Go.Eng.Frame → Tr Res) : List AV → List Go.Eng.Frame → Tr Res := cent (A_impl_isText (⟨#[]⟩) (0)) (U_impl_isText (⟨#[]⟩) (0)) (FH_impl_isText n) O_impl_isText d
theorem eo_impl_isText (n : Nat) {d : List AV → List Go.Eng.Frame → Tr Res} (hd : ∀ ar up r, (d ar up).run = some r → runs KP lib n 100 ar up = some r) : ∀ ar up r, (E_impl_isText n d ar up).run = some r → runs KP lib n 100 ar up = some r :=
  cent_ok (fun hs r h => by
    unfold FH_impl_isText at h
    split at h
    · exact ⟨A_impl_isText _ _, U_impl_isText _ _, rfl, rfl, th_impl_isText n _ _ r h⟩
    · cases h) hd
/-! ### impl.ValueOk -/
def A_impl_ValueOk (x0 : Int) (x1 : Int) (x2 : ByteArray) : List AV := [(.agg [(.p (.i .i64 x0)), (.p (.i .i64 x1)), (.p (.s x2))])]
def U_impl_ValueOk (x0 : Int) (x1 : Int) (x2 : ByteArray) : List Go.Eng.Frame := []
def O_impl_ValueOk (r : Bool) : Res := ⟨(.c (.p (.b r))), [], []⟩
abbrev CT_impl_ValueOk (n : Nat) : CTab := mkCT [(100, E_impl_isText n (noEnt)), (79, E_impl_within n (noEnt))]
abbrev LT_impl_ValueOk (n : Nat) : LTab := mkLT []
def T_impl_ValueOk (n : Nat) (x0 : Int) (x1 : Int) (x2 : ByteArray) : Tr (Bool) := (.ask ((x0 == (2 : Int))) (.ask ((x1 == (0 : Int))) (.opt (F_impl_isText n x2 (200 : Int)) fun r134 => (.done r134)) (.done false)) (.ask ((!(x2.toList == (⟨#[]⟩ : ByteArray).toList))) (.done false) (.ask ((x0 == (0 : Int))) (.done (x1 == (0 : Int))) (.ask ((x0 == (1 : Int))) (.opt (F_impl_within n x1 (-1000000000000000 : Int) (1000000000000000 : Int)) fun r135 => (.done r135)) (.ask ((x0 == (3 : Int))) (.opt (F_impl_within n x1 (0 : Int) (1 : Int)) fun r136 => (.done r136)) (.ask ((x0 == (4 : Int))) (.opt (F_impl_within n x1 (1 : Int) (5 : Int)) fun r137 => (.done r137)) (.done false)))))))
def F_impl_ValueOk : Nat → Int → Int → ByteArray → Option (Bool)
  | 0, _, _, _ => none
  | n + 1, x0, x1, x2 => (T_impl_ValueOk n x0 x1 x2).run
theorem ft_impl_ValueOk (n : Nat) (x0 : Int) (x1 : Int) (x2 : ByteArray) : funT (CT_impl_ValueOk n) (LT_impl_ValueOk n) K_impl_ValueOk (A_impl_ValueOk x0 x1 x2) (U_impl_ValueOk x0 x1 x2) = (T_impl_ValueOk n x0 x1 x2).bind fun r => .done (O_impl_ValueOk r) := by kernel_rfl
theorem ct_impl_ValueOk (n : Nat) : CTok (CT_impl_ValueOk n) (runs KP lib n) := mkCT_cons (eo_impl_isText n (noEnt_ok)) (mkCT_cons (eo_impl_within n (noEnt_ok)) (mkCT_nil))
theorem th_impl_ValueOk : ∀ (n : Nat) (x0 : Int) (x1 : Int) (x2 : ByteArray) (r : Bool), F_impl_ValueOk n x0 x1 x2 = some r → runs KP lib n 61 (A_impl_ValueOk x0 x1 x2) (U_impl_ValueOk x0 x1 x2) = some (O_impl_ValueOk r)
  | 0, x0, x1, x2, r, h => by cases h
  | n + 1, x0, x1, x2, r, h => fun_step (kf := K_impl_ValueOk) rfl (ct_impl_ValueOk n) (noLoops rfl) (ft_impl_ValueOk n x0 x1 x2) h
def FH_impl_ValueOk (n : Nat) : Cont → Option (Bool)
  | ([[[.i x0], [.i x1], [.s x2]]], []) => F_impl_ValueOk n x0 x1 x2
  | _ => none
def E_impl_ValueOk (n : Nat) (d : List AV → List Go.Eng.Frame → Tr Res) : List AV → List Go.Eng.Frame → Tr Res := cent (A_impl_ValueOk (0) (0) (⟨#[]⟩)) (U_impl_ValueOk (0) (0) (⟨#[]⟩)) (FH_impl_ValueOk n) O_impl_ValueOk d
theorem eo_impl_ValueOk (n : Nat) {d : List AV → List Go.Eng.Frame → Tr Res} (hd : ∀ ar up r, (d ar up).run = some r → runs KP lib n 61 ar up = some r) : ∀ ar up r, (E_impl_ValueOk n d ar up).run = some r → runs KP lib n 61 ar up = some r :=
  cent_ok (fun hs r h => by
    unfold FH_impl_ValueOk at h
    split at h
    · exact ⟨A_impl_ValueOk _ _ _, U_impl_ValueOk _ _ _, rfl, rfl, th_impl_ValueOk n _ _ _ r h⟩
    · cases h) hd
/-! ### (impl.FNode).area -/
def A_impl_FNode_area (x0 : Int) (x1 : Int) (x2 : Int) (x3 : Int) (x4 : ByteArray) (x5 : Int) (x6 : Int) (x7 : Bool) (x8 : Bool) (x9 : Int) (x10 : Int) (x11 : Bool) (x12 : Bool) (x13 : List (List PV)) : List AV := [(.agg [(.p (.i .i64 x0)), (.p (.i .i64 x1)), (.p (.i .i64 x2)), (.p (.i .i64 x3)), (.p (.s x4)), (.p (.i .i64 x5)), (.p (.i .i64 x6)), (.p (.b x7)), (.p (.b x8)), (.p (.i .i64 x9)), (.p (.i .i64 x10)), (.p (.b x11)), (.p (.b x12)), (.p (.ls x13))])]
def U_impl_FNode_area (x0 : Int) (x1 : Int) (x2 : Int) (x3 : Int) (x4 : ByteArray) (x5 : Int) (x6 : Int) (x7 : Bool) (x8 : Bool) (x9 : Int) (x10 : Int) (x11 : Bool) (x12 : Bool) (x13 : List (List PV)) : List Go.Eng.Frame := []
def O_impl_FNode_area (r : Int × Int × Int × Int) : Res := ⟨(.agg [(.p (.i .i64 r.1)), (.p (.i .i64 r.2.1)), (.p (.i .i64 r.2.2.1)), (.p (.i .i64 r.2.2.2))]), [], []⟩
abbrev CT_impl_FNode_area (n : Nat) : CTab := mkCT []
abbrev LT_impl_FNode_area (n : Nat) : LTab := mkLT []
def T_impl_FNode_area (n : Nat) (x0 : Int) (x1 : Int) (x2 : Int) (x3 : Int) (x4 : ByteArray) (x5 : Int) (x6 : Int) (x7 : Bool) (x8 : Bool) (x9 : Int) (x10 : Int) (x11 : Bool) (x12 : Bool) (x13 : List (List PV)) : Tr (Int × Int × Int × Int) := (.ask ((x0 == (2 : Int))) (.done (x5, x6, x5, x6)) (.done (x5, x6, x9, x10)))
def F_impl_FNode_area : Nat → Int → Int → Int → Int → ByteArray → Int → Int → Bool → Bool → Int → Int → Bool → Bool → List (List PV) → Option (Int × Int × Int × Int)
  | 0, _, _, _, _, _, _, _, _, _, _, _, _, _, _ => none
  | n + 1, x0, x1, x2, x3, x4, x5, x6, x7, x8, x9, x10, x11, x12, x13 => (T_impl_FNode_area n x0 x1 x2 x3 x4 x5 x6 x7 x8 x9 x10 x11 x12 x13).run
theorem ft_impl_FNode_area (n : Nat) (x0 : Int) (x1 : Int) (x2 : Int) (x3 : Int) (x4 : ByteArray) (x5 : Int) (x6 : Int) (x7 : Bool) (x8 : Bool) (x9 : Int) (x10 : Int) (x11 : Bool) (x12 : Bool) (x13 : List (List PV)) : funT (CT_impl_FNode_area n) (LT_impl_FNode_area n) K_impl_FNode_area (A_impl_FNode_area x0 x1 x2 x3 x4 x5 x6 x7 x8 x9 x10 x11 x12 x13) (U_impl_FNode_area x0 x1 x2 x3 x4 x5 x6 x7 x8 x9 x10 x11 x12 x13) = (T_impl_FNode_area n x0 x1 x2 x3 x4 x5 x6 x7 x8 x9 x10 x11 x12 x13).bind fun r => .done (O_impl_FNode_area r) := by kernel_rfl
theorem ct_impl_FNode_area (n : Nat) : CTok (CT_impl_FNode_area n) (runs KP lib n) := mkCT_nil
theorem th_impl_FNode_area : ∀ (n : Nat) (x0 : Int) (x1 : Int) (x2 : Int) (x3 : Int) (x4 : ByteArray) (x5 : Int) (x6 : Int) (x7 : Bool) (x8 : Bool) (x9 : Int) (x10 : Int) (x11 : Bool) (x12 : Bool) (x13 : List (List PV)) (r : Int × Int × Int × Int), F_impl_FNode_area n x0 x1 x2 x3 x4 x5 x6 x7 x8 x9 x10 x11 x12 x13 = some r → runs KP lib n 116 (A_impl_FNode_area x0 x1 x2 x3 x4 x5 x6 x7 x8 x9 x10 x11 x12 x13) (U_impl_FNode_area x0 x1 x2 x3 x4 x5 x6 x7 x8 x9 x10 x11 x12 x13) = some (O_impl_FNode_area r)
  | 0, x0, x1, x2, x3, x4, x5, x6, x7, x8, x9, x10, x11, x12, x13, r, h => by cases h
  | n + 1, x0, x1, x2, x3, x4, x5, x6, x7, x8, x9, x10, x11, x12, x13, r, h => fun_step (kf := K_impl_FNode_area) rfl (ct_impl_FNode_area n) (noLoops rfl) (ft_impl_FNode_area n x0 x1 x2 x3 x4 x5 x6 x7 x8 x9 x10 x11 x12 x13) h
def FH_impl_FNode_area (n : Nat) : Cont → Option (Int × Int × Int × Int)
  | ([[[.i x0], [.i x1], [.i x2], [.i x3], [.s x4], [.i x5], [.i x6], [.b x7], [.b x8], [.i x9], [.i x10], [.b x11], [.b x12], [.r x13]]], []) => F_impl_FNode_area n x0 x1 x2 x3 x4 x5 x6 x7 x8 x9 x10 x11 x12 x13
  | _ => none
def E_impl_FNode_area (n : Nat) (d : List AV → List Go.Eng.Frame → Tr Res) : List AV → List Go.Eng.Frame → Tr Res := cent (A_impl_FNode_area (0) (0) (0) (0) (⟨#[]⟩) (0) (0) (false) (false) (0) (0) (false) (false) ([])) (U_impl_FNode_area (0) (0) (0) (0) (⟨#[]⟩) (0) (0) (false) (false) (0) (0) (false) (false) ([])) (FH_impl_FNode_area n) O_impl_FNode_area d
theorem eo_impl_FNode_area (n : Nat) {d : List AV → List Go.Eng.Frame → Tr Res} (hd : ∀ ar up r, (d ar up).run = some r → runs KP lib n 116 ar up = some r) : ∀ ar up r, (E_impl_FNode_area n d ar up).run = some r → runs KP lib n 116 ar up = some r :=
  cent_ok (fun hs r h => by
    unfold FH_impl_FNode_area at h
    split at h
    · exact ⟨A_impl_FNode_area _ _ _ _ _ _ _ _ _ _ _ _ _ _, U_impl_FNode_area _ _ _ _ _ _ _ _ _ _ _ _ _ _, rfl, rfl, th_impl_FNode_area n _ _ _ _ _ _ _ _ _ _ _ _ _ _ r h⟩
    · cases h) hd
/-! ### impl.RefOk -/
def A_impl_RefOk (x0 : Int) (x1 : Int) : List AV := [(.agg [(.p (.i .i64 x0)), (.p (.i .i64 x1))])]
def U_impl_RefOk (x0 : Int) (x1 : Int) : List Go.Eng.Frame := []
def O_impl_RefOk (r : Bool) : Res := ⟨(.c (.p (.b r))), [], []⟩
abbrev CT_impl_RefOk (n : Nat) : CTab := mkCT [(79, E_impl_within n (noEnt))]
abbrev LT_impl_RefOk (n : Nat) : LTab := mkLT []
def T_impl_RefOk (n : Nat) (x0 : Int) (x1 : Int) : Tr (Bool) := (.opt (F_impl_within n x0 (1 : Int) (52 : Int)) fun r140 => (.ask (r140) (.opt (F_impl_within n x1 (1 : Int) (99 : Int)) fun r141 => (.done r141)) (.done false)))
def F_impl_RefOk : Nat → Int → Int → Option (Bool)
  | 0, _, _ => none
  | n + 1, x0, x1 => (T_impl_RefOk n x0 x1).run
theorem ft_impl_RefOk (n : Nat) (x0 : Int) (x1 : Int) : funT (CT_impl_RefOk n) (LT_impl_RefOk n) K_impl_RefOk (A_impl_RefOk x0 x1) (U_impl_RefOk x0 x1) = (T_impl_RefOk n x0 x1).bind fun r => .done (O_impl_RefOk r) := by kernel_rfl
theorem ct_impl_RefOk (n : Nat) : CTok (CT_impl_RefOk n) (runs KP lib n) := mkCT_cons (eo_impl_within n (noEnt_ok)) (mkCT_nil)
theorem th_impl_RefOk : ∀ (n : Nat) (x0 : Int) (x1 : Int) (r : Bool), F_impl_RefOk n x0 x1 = some r → runs KP lib n 59 (A_impl_RefOk x0 x1) (U_impl_RefOk x0 x1) = some (O_impl_RefOk r)
  | 0, x0, x1, r, h => by cases h
  | n + 1, x0, x1, r, h => fun_step (kf := K_impl_RefOk) rfl (ct_impl_RefOk n) (noLoops rfl) (ft_impl_RefOk n x0 x1) h
def FH_impl_RefOk (n : Nat) : Cont → Option (Bool)
  | ([[[.i x0], [.i x1]]], []) => F_impl_RefOk n x0 x1
  | _ => none
def E_impl_RefOk (n : Nat) (d : List AV → List Go.Eng.Frame → Tr Res) : List AV → List Go.Eng.Frame → Tr Res := cent (A_impl_RefOk (0) (0)) (U_impl_RefOk (0) (0)) (FH_impl_RefOk n) O_impl_RefOk d
theorem eo_impl_RefOk (n : Nat) {d : List AV → List Go.Eng.Frame → Tr Res} (hd : ∀ ar up r, (d ar up).run = some r → runs KP lib n 59 ar up = some r) : ∀ ar up r, (E_impl_RefOk n d ar up).run = some r → runs KP lib n 59 ar up = some r :=
  cent_ok (fun hs r h => by
    unfold FH_impl_RefOk at h
    split at h
    · exact ⟨A_impl_RefOk _ _, U_impl_RefOk _ _, rfl, rfl, th_impl_RefOk n _ _ r h⟩
    · cases h) hd
/-! ### impl.AreaOk -/
def A_impl_AreaOk (x0 : Int) (x1 : Int) (x2 : Int) (x3 : Int) : List AV := [(.agg [(.p (.i .i64 x0)), (.p (.i .i64 x1)), (.p (.i .i64 x2)), (.p (.i .i64 x3))])]
def U_impl_AreaOk (x0 : Int) (x1 : Int) (x2 : Int) (x3 : Int) : List Go.Eng.Frame := []
def O_impl_AreaOk (r : Bool) : Res := ⟨(.c (.p (.b r))), [], []⟩
abbrev CT_impl_AreaOk (n : Nat) : CTab := mkCT [(59, E_impl_RefOk n (noEnt))]
abbrev LT_impl_AreaOk (n : Nat) : LTab := mkLT []
def T_impl_AreaOk (n : Nat) (x0 : Int) (x1 : Int) (x2 : Int) (x3 : Int) : Tr (Bool) := (.opt (F_impl_RefOk n x0 x1) fun r142 => (.ask (r142) (.opt (F_impl_RefOk n x2 x3) fun r143 => (.ask (r143) (.ask ((decide (x0 ≤ x2))) (.done (decide (x1 ≤ x3))) (.done false)) (.done false))) (.done false)))
def F_impl_AreaOk : Nat → Int → Int → Int → Int → Option (Bool)
  | 0, _, _, _, _ => none
  | n + 1, x0, x1, x2, x3 => (T_impl_AreaOk n x0 x1 x2 x3).run
theorem ft_impl_AreaOk (n : Nat) (x0 : Int) (x1 : Int) (x2 : Int) (x3 : Int) : funT (CT_impl_AreaOk n) (LT_impl_AreaOk n) K_impl_AreaOk (A_impl_AreaOk x0 x1 x2 x3) (U_impl_AreaOk x0 x1 x2 x3) = (T_impl_AreaOk n x0 x1 x2 x3).bind fun r => .done (O_impl_AreaOk r) := by kernel_rfl
theorem ct_impl_AreaOk (n : Nat) : CTok (CT_impl_AreaOk n) (runs KP lib n) := mkCT_cons (eo_impl_RefOk n (noEnt_ok)) (mkCT_nil)
theorem th_impl_AreaOk : ∀ (n : Nat) (x0 : Int) (x1 : Int) (x2 : Int) (x3 : Int) (r : Bool), F_impl_AreaOk n x0 x1 x2 x3 = some r → runs KP lib n 33 (A_impl_AreaOk x0 x1 x2 x3) (U_impl_AreaOk x0 x1 x2 x3) = some (O_impl_AreaOk r)
  | 0, x0, x1, x2, x3, r, h => by cases h
  | n + 1, x0, x1, x2, x3, r, h => fun_step (kf := K_impl_AreaOk) rfl (ct_impl_AreaOk n) (noLoops rfl) (ft_impl_AreaOk n x0 x1 x2 x3) h
def FH_impl_AreaOk (n : Nat) : Cont → Option (Bool)
  | ([[[.i x0], [.i x1], [.i x2], [.i x3]]], []) => F_impl_AreaOk n x0 x1 x2 x3
  | _ => none
def E_impl_AreaOk (n : Nat) (d : List AV → List Go.Eng.Frame → Tr Res) : List AV → List Go.Eng.Frame → Tr Res := cent (A_impl_AreaOk (0) (0) (0) (0)) (U_impl_AreaOk (0) (0) (0) (0)) (FH_impl_AreaOk n) O_impl_AreaOk d
theorem eo_impl_AreaOk (n : Nat) {d : List AV → List Go.Eng.Frame → Tr Res} (hd : ∀ ar up r, (d ar up).run = some r → runs KP lib n 33 ar up = some r) : ∀ ar up r, (E_impl_AreaOk n d ar up).run = some r → runs KP lib n 33 ar up = some r :=
  cent_ok (fun hs r h => by
    unfold FH_impl_AreaOk at h
    split at h
    · exact ⟨A_impl_AreaOk _ _ _ _, U_impl_AreaOk _ _ _ _, rfl, rfl, th_impl_AreaOk n _ _ _ _ r h⟩
    · cases h) hd
/-! ### (impl.FNode).isPlaced -/
def A_impl_FNode_isPlaced (x0 : Int) (x1 : Int) (x2 : Int) (x3 : Int) (x4 : ByteArray) (x5 : Int) (x6 : Int) (x7 : Bool) (x8 : Bool) (x9 : Int) (x10 : Int) (x11 : Bool) (x12 : Bool) (x13 : List (List PV)) : List AV := [(.agg [(.p (.i .i64 x0)), (.p (.i .i64 x1)), (.p (.i .i64 x2)), (.p (.i .i64 x3)), (.p (.s x4)), (.p (.i .i64 x5)), (.p (.i .i64 x6)), (.p (.b x7)), (.p (.b x8)), (.p (.i .i64 x9)), (.p (.i .i64 x10)), (.p (.b x11)), (.p (.b x12)), (.p (.ls x13))])]
def U_impl_FNode_isPlaced (x0 : Int) (x1 : Int) (x2 : Int) (x3 : Int) (x4 : ByteArray) (x5 : Int) (x6 : Int) (x7 : Bool) (x8 : Bool) (x9 : Int) (x10 : Int) (x11 : Bool) (x12 : Bool) (x13 : List (List PV)) : List Go.Eng.Frame := []
def O_impl_FNode_isPlaced (r : Bool) : Res := ⟨(.c (.p (.b r))), [], []⟩
abbrev CT_impl_FNode_isPlaced (n : Nat) : CTab := mkCT [(116, E_impl_FNode_area n (noEnt)), (33, E_impl_AreaOk n (noEnt))]
abbrev LT_impl_FNode_isPlaced (n : Nat) : LTab := mkLT []
def T_impl_FNode_isPlaced (n : Nat) (x0 : Int) (x1 : Int) (x2 : Int) (x3 : Int) (x4 : ByteArray) (x5 : Int) (x6 : Int) (x7 : Bool) (x8 : Bool) (x9 : Int) (x10 : Int) (x11 : Bool) (x12 : Bool) (x13 : List (List PV)) : Tr (Bool) := (.ask ((x0 != (2 : Int))) (.ask ((x0 != (3 : Int))) (.done true) (.opt (F_impl_FNode_area n x0 x1 x2 x3 x4 x5 x6 x7 x8 x9 x10 x11 x12 x13) fun r139 => (.opt (F_impl_AreaOk n r139.1 r139.2.1 r139.2.2.1 r139.2.2.2) fun r144 => (.done r144)))) (.opt (F_impl_FNode_area n x0 x1 x2 x3 x4 x5 x6 x7 x8 x9 x10 x11 x12 x13) fun r145 => (.opt (F_impl_AreaOk n r145.1 r145.2.1 r145.2.2.1 r145.2.2.2) fun r146 => (.done r146))))
def F_impl_FNode_isPlaced : Nat → Int → Int → Int → Int → ByteArray → Int → Int → Bool → Bool → Int → Int → Bool → Bool → List (List PV) → Option (Bool)
  | 0, _, _, _, _, _, _, _, _, _, _, _, _, _, _ => none
  | n + 1, x0, x1, x2, x3, x4, x5, x6, x7, x8, x9, x10, x11, x12, x13 => (T_impl_FNode_isPlaced n x0 x1 x2 x3 x4 x5 x6 x7 x8 x9 x10 x11 x12 x13).run
theorem ft_impl_FNode_isPlaced (n : Nat) (x0 : Int) (x1 : Int) (x2 : Int) (x3 : Int) (x4 : ByteArray) (x5 : Int) (x6 : Int) (x7 : Bool) (x8 : Bool) (x9 : Int) (x10 : Int) (x11 : Bool) (x12 : Bool) (x13 : List (List PV)) : funT (CT_impl_FNode_isPlaced n) (LT_impl_FNode_isPlaced n) K_impl_FNode_isPlaced (A_impl_FNode_isPlaced x0 x1 x2 x3 x4 x5 x6 x7 x8 x9 x10 x11 x12 x13) (U_impl_FNode_isPlaced x0 x1 x2 x3 x4 x5 x6 x7 x8 x9 x10 x11 x12 x13) = (T_impl_FNode_isPlaced n x0 x1 x2 x3 x4 x5 x6 x7 x8 x9 x10 x11 x12 x13).bind fun r => .done (O_impl_FNode_isPlaced r) := by kernel_rfl
theorem ct_impl_FNode_isPlaced (n : Nat) : CTok (CT_impl_FNode_isPlaced n) (runs KP lib n) := mkCT_cons (eo_impl_FNode_area n (noEnt_ok)) (mkCT_cons (eo_impl_AreaOk n (noEnt_ok)) (mkCT_nil))
theorem th_impl_FNode_isPlaced : ∀ (n : Nat) (x0 : Int) (x1 : Int) (x2 : Int) (x3 : Int) (x4 : ByteArray) (x5 : Int) (x6 : Int) (x7 : Bool) (x8 : Bool) (x9 : Int) (x10 : Int) (x11 : Bool) (x12 : Bool) (x13 : List (List PV)) (r : Bool), F_impl_FNode_isPlaced n x0 x1 x2 x3 x4 x5 x6 x7 x8 x9 x10 x11 x12 x13 = some r → runs KP lib n 129 (A_impl_FNode_isPlaced x0 x1 x2 x3 x4 x5 x6 x7 x8 x9 x10 x11 x12 x13) (U_impl_FNode_isPlaced x0 x1 x2 x3 x4 x5 x6 x7 x8 x9 x10 x11 x12 x13) = some (O_impl_FNode_isPlaced r)
  | 0, x0, x1, x2, x3, x4, x5, x6, x7, x8, x9, x10, x11, x12, x13, r, h => by cases h
  | n + 1, x0, x1, x2, x3, x4, x5, x6, x7, x8, x9, x10, x11, x12, x13, r, h => fun_step (kf := K_impl_FNode_isPlaced) rfl (ct_impl_FNode_isPlaced n) (noLoops rfl) (ft_impl_FNode_isPlaced n x0 x1 x2 x3 x4 x5 x6 x7 x8 x9 x10 x11 x12 x13) h
def FH_impl_FNode_isPlaced (n : Nat) : Cont → Option (Bool)
  | ([[[.i x0], [.i x1], [.i x2], [.i x3], [.s x4], [.i x5], [.i x6], [.b x7], [.b x8], [.i x9], [.i x10], [.b x11], [.b x12], [.r x13]]], []) => F_impl_FNode_isPlaced n x0 x1 x2 x3 x4 x5 x6 x7 x8 x9 x10 x11 x12 x13
  | _ => none
def E_impl_FNode_isPlaced (n : Nat) (d : List AV → List Go.Eng.Frame → Tr Res) : List AV → List Go.Eng.Frame → Tr Res := cent (A_impl_FNode_isPlaced (0) (0) (0) (0) (⟨#[]⟩) (0) (0) (false) (false) (0) (0) (false) (false) ([])) (U_impl_FNode_isPlaced (0) (0) (0) (0) (⟨#[]⟩) (0) (0) (false) (false) (0) (0) (false) (false) ([])) (FH_impl_FNode_isPlaced n) O_impl_FNode_isPlaced d
theorem eo_impl_FNode_isPlaced (n : Nat) {d : List AV → List Go.Eng.Frame → Tr Res} (hd : ∀ ar up r, (d ar up).run = some r → runs KP lib n 129 ar up = some r) : ∀ ar up r, (E_impl_FNode_isPlaced n d ar up).run = some r → runs KP lib n 129 ar up = some r :=
  cent_ok (fun hs r h => by
    unfold FH_impl_FNode_isPlaced at h
    split at h
    · exact ⟨A_impl_FNode_isPlaced _ _ _ _ _ _ _ _ _ _ _ _ _ _, U_impl_FNode_isPlaced _ _ _ _ _ _ _ _ _ _ _ _ _ _, rfl, rfl, th_impl_FNode_isPlaced n _ _ _ _ _ _ _ _ _ _ _ _ _ _ r h⟩
    · cases h) hd
/-! ### (impl.FNode).kidsOk -/
def A_impl_FNode_kidsOk (x0 : Int) (x1 : Int) (x2 : Int) (x3 : Int) (x4 : ByteArray) (x5 : Int) (x6 : Int) (x7 : Bool) (x8 : Bool) (x9 : Int) (x10 : Int) (x11 : Bool) (x12 : Bool) (x13 : List (List PV)) : List AV := [(.agg [(.p (.i .i64 x0)), (.p (.i .i64 x1)), (.p (.i .i64 x2)), (.p (.i .i64 x3)), (.p (.s x4)), (.p (.i .i64 x5)), (.p (.i .i64 x6)), (.p (.b x7)), (.p (.b x8)), (.p (.i .i64 x9)), (.p (.i .i64 x10)), (.p (.b x11)), (.p (.b x12)), (.p (.ls x13))])]
def U_impl_FNode_kidsOk (x0 : Int) (x1 : Int) (x2 : Int) (x3 : Int) (x4 : ByteArray) (x5 : Int) (x6 : Int) (x7 : Bool) (x8 : Bool) (x9 : Int) (x10 : Int) (x11 : Bool) (x12 : Bool) (x13 : List (List PV)) : List Go.Eng.Frame := []
def O_impl_FNode_kidsOk (r : Bool) : Res := ⟨(.c (.p (.b r))), [], []⟩
abbrev CT_impl_FNode_kidsOk (n : Nat) : CTab := mkCT [(79, E_impl_within n (noEnt))]
abbrev LT_impl_FNode_kidsOk (n : Nat) : LTab := mkLT []
def T_impl_FNode_kidsOk (n : Nat) (x0 : Int) (x1 : Int) (x2 : Int) (x3 : Int) (x4 : ByteArray) (x5 : Int) (x6 : Int) (x7 : Bool) (x8 : Bool) (x9 : Int) (x10 : Int) (x11 : Bool) (x12 : Bool) (x13 : List (List PV)) : Tr (Bool) := (.ask ((x0 == (4 : Int))) (.ask ((x1 == (0 : Int))) (.done ((x13.length : Int) == (1 : Int))) (.done false)) (.ask ((x0 == (5 : Int))) (.opt (F_impl_within n x1 (1 : Int) (11 : Int)) fun r148 => (.ask (r148) (.done ((x13.length : Int) == (2 : Int))) (.done false))) (.ask ((x0 == (6 : Int))) (.opt (F_impl_within n x1 (1 : Int) (10 : Int)) fun r149 => (.ask ((!r149)) (.done false) (.ask ((x1 == (5 : Int))) (.opt (F_impl_within n (x13.length : Int) (2 : Int) (3 : Int)) fun r150 => (.done r150)) (.ask ((decide (x1 ≥ (8 : Int)))) (.done ((x13.length : Int) == (1 : Int))) (.opt (F_impl_within n (x13.length : Int) (1 : Int) (10 : Int)) fun r151 => (.done r151)))))) (.ask ((x1 == (0 : Int))) (.done ((x13.length : Int) == (0 : Int))) (.done false)))))
def F_impl_FNode_kidsOk : Nat → Int → Int → Int → Int → ByteArray → Int → Int → Bool → Bool → Int → Int → Bool → Bool → List (List PV) → Option (Bool)
  | 0, _, _, _, _, _, _, _, _, _, _, _, _, _, _ => none
  | n + 1, x0, x1, x2, x3, x4, x5, x6, x7, x8, x9, x10, x11, x12, x13 => (T_impl_FNode_kidsOk n x0 x1 x2 x3 x4 x5 x6 x7 x8 x9 x10 x11 x12 x13).run
theorem ft_impl_FNode_kidsOk (n : Nat) (x0 : Int) (x1 : Int) (x2 : Int) (x3 : Int) (x4 : ByteArray) (x5 : Int) (x6 : Int) (x7 : Bool) (x8 : Bool) (x9 : Int) (x10 : Int) (x11 : Bool) (x12 : Bool) (x13 : List (List PV)) : funT (CT_impl_FNode_kidsOk n) (LT_impl_FNode_kidsOk n) K_impl_FNode_kidsOk (A_impl_FNode_kidsOk x0 x1 x2 x3 x4 x5 x6 x7 x8 x9 x10 x11 x12 x13) (U_impl_FNode_kidsOk x0 x1 x2 x3 x4 x5 x6 x7 x8 x9 x10 x11 x12 x13) = (T_impl_FNode_kidsOk n x0 x1 x2 x3 x4 x5 x6 x7 x8 x9 x10 x11 x12 x13).bind fun r => .done (O_impl_FNode_kidsOk r) := by kernel_rfl
theorem ct_impl_FNode_kidsOk (n : Nat) : CTok (CT_impl_FNode_kidsOk n) (runs KP lib n) := mkCT_cons (eo_impl_within n (noEnt_ok)) (mkCT_nil)
theorem th_impl_FNode_kidsOk : ∀ (n : Nat) (x0 : Int) (x1 : Int) (x2 : Int) (x3 : Int) (x4 : ByteArray) (x5 : Int) (x6 : Int) (x7 : Bool) (x8 : Bool) (x9 : Int) (x10 : Int) (x11 : Bool) (x12 : Bool) (x13 : List (List PV)) (r : Bool), F_impl_FNode_kidsOk n x0 x1 x2 x3 x4 x5 x6 x7 x8 x9 x10 x11 x12 x13 = some r → runs KP lib n 130 (A_impl_FNode_kidsOk x0 x1 x2 x3 x4 x5 x6 x7 x8 x9 x10 x11 x12 x13) (U_impl_FNode_kidsOk x0 x1 x2 x3 x4 x5 x6 x7 x8 x9 x10 x11 x12 x13) = some (O_impl_FNode_kidsOk r)
  | 0, x0, x1, x2, x3, x4, x5, x6, x7, x8, x9, x10, x11, x12, x13, r, h => by cases h
  | n + 1, x0, x1, x2, x3, x4, x5, x6, x7, x8, x9, x10, x11, x12, x13, r, h => fun_step (kf := K_impl_FNode_kidsOk) rfl (ct_impl_FNode_kidsOk n) (noLoops rfl) (ft_impl_FNode_kidsOk n x0 x1 x2 x3 x4 x5 x6 x7 x8 x9 x10 x11 x12 x13) h
def FH_impl_FNode_kidsOk (n : Nat) : Cont → Option (Bool)
  | ([[[.i x0], [.i x1], [.i x2], [.i x3], [.s x4], [.i x5], [.i x6], [.b x7], [.b x8], [.i x9], [.i x10], [.b x11], [.b x12], [.r x13]]], []) => F_impl_FNode_kidsOk n x0 x1 x2 x3 x4 x5 x6 x7 x8 x9 x10 x11 x12 x13
  | _ => none
def E_impl_FNode_kidsOk (n : Nat) (d : List AV → List Go.Eng.Frame → Tr Res) : List AV → List Go.Eng.Frame → Tr Res := cent (A_impl_FNode_kidsOk (0) (0) (0) (0) (⟨#[]⟩) (0) (0) (false) (false) (0) (0) (false) (false) ([])) (U_impl_FNode_kidsOk (0) (0) (0) (0) (⟨#[]⟩) (0) (0) (false) (false) (0) (0) (false) (false) ([])) (FH_impl_FNode_kidsOk n) O_impl_FNode_kidsOk d
theorem eo_impl_FNode_kidsOk (n : Nat) {d : List AV → List Go.Eng.Frame → Tr Res} (hd : ∀ ar up r, (d ar up).run = some r → runs KP lib n 130 ar up = some r) : ∀ ar up r, (E_impl_FNode_kidsOk n d ar up).run = some r → runs KP lib n 130 ar up = some r :=
  cent_ok (fun hs r h => by
    unfold FH_impl_FNode_kidsOk at h
    split at h
    · exact ⟨A_impl_FNode_kidsOk _ _ _ _ _ _ _ _ _ _ _ _ _ _, U_impl_FNode_kidsOk _ _ _ _ _ _ _ _ _ _ _ _ _ _, rfl, rfl, th_impl_FNode_kidsOk n _ _ _ _ _ _ _ _ _ _ _ _ _ _ r h⟩
    · cases h) hd
/-! ### (impl.FNode).isOwn -/
def A_impl_FNode_isOwn (x0 : Int) (x1 : Int) (x2 : Int) (x3 : Int) (x4 : ByteArray) (x5 : Int) (x6 : Int) (x7 : Bool) (x8 : Bool) (x9 : Int) (x10 : Int) (x11 : Bool) (x12 : Bool) (x13 : List (List PV)) : List AV := [(.agg [(.p (.i .i64 x0)), (.p (.i .i64 x1)), (.p (.i .i64 x2)), (.p (.i .i64 x3)), (.p (.s x4)), (.p (.i .i64 x5)), (.p (.i .i64 x6)), (.p (.b x7)), (.p (.b x8)), (.p (.i .i64 x9)), (.p (.i .i64 x10)), (.p (.b x11)), (.p (.b x12)), (.p (.ls x13))])]
def U_impl_FNode_isOwn (x0 : Int) (x1 : Int) (x2 : Int) (x3 : Int) (x4 : ByteArray) (x5 : Int) (x6 : Int) (x7 : Bool) (x8 : Bool) (x9 : Int) (x10 : Int) (x11 : Bool) (x12 : Bool) (x13 : List (List PV)) : List Go.Eng.Frame := []
def O_impl_FNode_isOwn (r : Bool) : Res := ⟨(.c (.p (.b r))), [], []⟩
abbrev CT_impl_FNode_isOwn (n : Nat) : CTab := mkCT [(61, E_impl_ValueOk n (noEnt)), (129, E_impl_FNode_isPlaced n (noEnt)), (130, E_impl_FNode_kidsOk n (noEnt))]
abbrev LT_impl_FNode_isOwn (n : Nat) : LTab := mkLT []
def T_impl_FNode_isOwn (n : Nat) (x0 : Int) (x1 : Int) (x2 : Int) (x3 : Int) (x4 : ByteArray) (x5 : Int) (x6 : Int) (x7 : Bool) (x8 : Bool) (x9 : Int) (x10 : Int) (x11 : Bool) (x12 : Bool) (x13 : List (List PV)) : Tr (Bool) := (.ask ((x0 == (1 : Int))) (.opt (F_impl_ValueOk n x2 x3 x4) fun r138 => (.ask ((!r138)) (.done false) (.ask ((x2 == (0 : Int))) (.done false) (.ask ((x2 == (1 : Int))) (.ask ((decide (x3 < (0 : Int)))) (.done false) (.opt (F_impl_FNode_isPlaced n x0 x1 x2 x3 x4 x5 x6 x7 x8 x9 x10 x11 x12 x13) fun r147 => (.ask (r147) (.opt (F_impl_FNode_kidsOk n x0 x1 x2 x3 x4 x5 x6 x7 x8 x9 x10 x11 x12 x13) fun r152 => (.ask (r152) (.ask (((x2 == x2) && ((x3 == x3) && ((x4.toList == x4.toList) && true)))) (.ask ((((0 : Int) == x5) && (((0 : Int) == x6) && ((false == x7) && ((false == x8) && true))))) (.done (((0 : Int) == x9) && (((0 : Int) == x10) && ((false == x11) && ((false == x12) && true))))) (.done false)) (.done false)) (.done false))) (.done false)))) (.opt (F_impl_FNode_isPlaced n x0 x1 x2 x3 x4 x5 x6 x7 x8 x9 x10 x11 x12 x13) fun r153 => (.ask (r153) (.opt (F_impl_FNode_kidsOk n x0 x1 x2 x3 x4 x5 x6 x7 x8 x9 x10 x11 x12 x13) fun r154 => (.ask (r154) (.ask (((x2 == x2) && ((x3 == x3) && ((x4.toList == x4.toList) && true)))) (.ask ((((0 : Int) == x5) && (((0 : Int) == x6) && ((false == x7) && ((false == x8) && true))))) (.done (((0 : Int) == x9) && (((0 : Int) == x10) && ((false == x11) && ((false == x12) && true))))) (.done false)) (.done false)) (.done false))) (.done false))))))) (.ask ((x0 == (2 : Int))) (.opt (F_impl_FNode_isPlaced n x0 x1 x2 x3 x4 x5 x6 x7 x8 x9 x10 x11 x12 x13) fun r155 => (.ask (r155) (.opt (F_impl_FNode_kidsOk n x0 x1 x2 x3 x4 x5 x6 x7 x8 x9 x10 x11 x12 x13) fun r156 => (.ask (r156) (.ask ((((0 : Int) == x2) && (((0 : Int) == x3) && (((⟨#[]⟩ : ByteArray).toList == x4.toList) && true)))) (.ask (((x5 == x5) && ((x6 == x6) && ((x7 == x7) && ((x8 == x8) && true))))) (.done (((0 : Int) == x9) && (((0 : Int) == x10) && ((false == x11) && ((false == x12) && true))))) (.done false)) (.done false)) (.done false))) (.done false))) (.ask ((x0 == (3 : Int))) (.opt (F_impl_FNode_isPlaced n x0 x1 x2 x3 x4 x5 x6 x7 x8 x9 x10 x11 x12 x13) fun r157 => (.ask (r157) (.opt (F_impl_FNode_kidsOk n x0 x1 x2 x3 x4 x5 x6 x7 x8 x9 x10 x11 x12 x13) fun r158 => (.ask (r158) (.ask ((((0 : Int) == x2) && (((0 : Int) == x3) && (((⟨#[]⟩ : ByteArray).toList == x4.toList) && true)))) (.ask (((x5 == x5) && ((x6 == x6) && ((x7 == x7) && ((x8 == x8) && true))))) (.done ((x9 == x9) && ((x10 == x10) && ((x11 == x11) && ((x12 == x12) && true))))) (.done false)) (.done false)) (.done false))) (.done false))) (.ask ((x0 == (4 : Int))) (.opt (F_impl_FNode_isPlaced n x0 x1 x2 x3 x4 x5 x6 x7 x8 x9 x10 x11 x12 x13) fun r159 => (.ask (r159) (.opt (F_impl_FNode_kidsOk n x0 x1 x2 x3 x4 x5 x6 x7 x8 x9 x10 x11 x12 x13) fun r160 => (.ask (r160) (.ask ((((0 : Int) == x2) && (((0 : Int) == x3) && (((⟨#[]⟩ : ByteArray).toList == x4.toList) && true)))) (.ask ((((0 : Int) == x5) && (((0 : Int) == x6) && ((false == x7) && ((false == x8) && true))))) (.done (((0 : Int) == x9) && (((0 : Int) == x10) && ((false == x11) && ((false == x12) && true))))) (.done false)) (.done false)) (.done false))) (.done false))) (.ask ((x0 == (5 : Int))) (.opt (F_impl_FNode_isPlaced n x0 x1 x2 x3 x4 x5 x6 x7 x8 x9 x10 x11 x12 x13) fun r161 => (.ask (r161) (.opt (F_impl_FNode_kidsOk n x0 x1 x2 x3 x4 x5 x6 x7 x8 x9 x10 x11 x12 x13) fun r162 => (.ask (r162) (.ask ((((0 : Int) == x2) && (((0 : Int) == x3) && (((⟨#[]⟩ : ByteArray).toList == x4.toList) && true)))) (.ask ((((0 : Int) == x5) && (((0 : Int) == x6) && ((false == x7) && ((false == x8) && true))))) (.done (((0 : Int) == x9) && (((0 : Int) == x10) && ((false == x11) && ((false == x12) && true))))) (.done false)) (.done false)) (.done false))) (.done false))) (.ask ((x0 == (6 : Int))) (.opt (F_impl_FNode_isPlaced n x0 x1 x2 x3 x4 x5 x6 x7 x8 x9 x10 x11 x12 x13) fun r163 => (.ask (r163) (.opt (F_impl_FNode_kidsOk n x0 x1 x2 x3 x4 x5 x6 x7 x8 x9 x10 x11 x12 x13) fun r164 => (.ask (r164) (.ask ((((0 : Int) == x2) && (((0 : Int) == x3) && (((⟨#[]⟩ : ByteArray).toList == x4.toList) && true)))) (.ask ((((0 : Int) == x5) && (((0 : Int) == x6) && ((false == x7) && ((false == x8) && true))))) (.done (((0 : Int) == x9) && (((0 : Int) == x10) && ((false == x11) && ((false == x12) && true))))) (.done false)) (.done false)) (.done false))) (.done false))) (.done false)))))))
def F_impl_FNode_isOwn : Nat → Int → Int → Int → Int → ByteArray → Int → Int → Bool → Bool → Int → Int → Bool → Bool → List (List PV) → Option (Bool)
  | 0, _, _, _, _, _, _, _, _, _, _, _, _, _, _ => none
  | n + 1, x0, x1, x2, x3, x4, x5, x6, x7, x8, x9, x10, x11, x12, x13 => (T_impl_FNode_isOwn n x0 x1 x2 x3 x4 x5 x6 x7 x8 x9 x10 x11 x12 x13).run
theorem ft_impl_FNode_isOwn (n : Nat) (x0 : Int) (x1 : Int) (x2 : Int) (x3 : Int) (x4 : ByteArray) (x5 : Int) (x6 : Int) (x7 : Bool) (x8 : Bool) (x9 : Int) (x10 : Int) (x11 : Bool) (x12 : Bool) (x13 : List (List PV)) : funT (CT_impl_FNode_isOwn n) (LT_impl_FNode_isOwn n) K_impl_FNode_isOwn (A_impl_FNode_isOwn x0 x1 x2 x3 x4 x5 x6 x7 x8 x9 x10 x11 x12 x13) (U_impl_FNode_isOwn x0 x1 x2 x3 x4 x5 x6 x7 x8 x9 x10 x11 x12 x13) = (T_impl_FNode_isOwn n x0 x1 x2 x3 x4 x5 x6 x7 x8 x9 x10 x11 x12 x13).bind fun r => .done (O_impl_FNode_isOwn r) := by kernel_rfl
theorem ct_impl_FNode_isOwn (n : Nat) : CTok (CT_impl_FNode_isOwn n) (runs KP lib n) := mkCT_cons (eo_impl_ValueOk n (noEnt_ok)) (mkCT_cons (eo_impl_FNode_isPlaced n (noEnt_ok)) (mkCT_cons (eo_impl_FNode_kidsOk n (noEnt_ok)) (mkCT_nil)))
theorem th_impl_FNode_isOwn : ∀ (n : Nat) (x0 : Int) (x1 : Int) (x2 : Int) (x3 : Int) (x4 : ByteArray) (x5 : Int) (x6 : Int) (x7 : Bool) (x8 : Bool) (x9 : Int) (x10 : Int) (x11 : Bool) (x12 : Bool) (x13 : List (List PV)) (r : Bool), F_impl_FNode_isOwn n x0 x1 x2 x3 x4 x5 x6 x7 x8 x9 x10 x11 x12 x13 = some r → runs KP lib n 113 (A_impl_FNode_isOwn x0 x1 x2 x3 x4 x5 x6 x7 x8 x9 x10 x11 x12 x13) (U_impl_FNode_isOwn x0 x1 x2 x3 x4 x5 x6 x7 x8 x9 x10 x11 x12 x13) = some (O_impl_FNode_isOwn r)
  | 0, x0, x1, x2, x3, x4, x5, x6, x7, x8, x9, x10, x11, x12, x13, r, h => by cases h
  | n + 1, x0, x1, x2, x3, x4, x5, x6, x7, x8, x9, x10, x11, x12, x13, r, h => fun_step (kf := K_impl_FNode_isOwn) rfl (ct_impl_FNode_isOwn n) (noLoops rfl) (ft_impl_FNode_isOwn n x0 x1 x2 x3 x4 x5 x6 x7 x8 x9 x10 x11 x12 x13) h
def FH_impl_FNode_isOwn (n : Nat) : Cont → Option (Bool)
  | ([[[.i x0], [.i x1], [.i x2], [.i x3], [.s x4], [.i x5], [.i x6], [.b x7], [.b x8], [.i x9], [.i x10], [.b x11], [.b x12], [.r x13]]], []) => F_impl_FNode_isOwn n x0 x1 x2 x3 x4 x5 x6 x7 x8 x9 x10 x11 x12 x13
  | _ => none
def E_impl_FNode_isOwn (n : Nat) (d : List AV → List Go.Eng.Frame → Tr Res) : List AV → List Go.Eng.Frame → Tr Res := cent (A_impl_FNode_isOwn (0) (0) (0) (0) (⟨#[]⟩) (0) (0) (false) (false) (0) (0) (false) (false) ([])) (U_impl_FNode_isOwn (0) (0) (0) (0) (⟨#[]⟩) (0) (0) (false) (false) (0) (0) (false) (false) ([])) (FH_impl_FNode_isOwn n) O_impl_FNode_isOwn d
theorem eo_impl_FNode_isOwn (n : Nat) {d : List AV → List Go.Eng.Frame → Tr Res} (hd : ∀ ar up r, (d ar up).run = some r → runs KP lib n 113 ar up = some r) : ∀ ar up r, (E_impl_FNode_isOwn n d ar up).run = some r → runs KP lib n 113 ar up = some r :=
  cent_ok (fun hs r h => by
    unfold FH_impl_FNode_isOwn at h
    split at h
    · exact ⟨A_impl_FNode_isOwn _ _ _ _ _ _ _ _ _ _ _ _ _ _, U_impl_FNode_isOwn _ _ _ _ _ _ _ _ _ _ _ _ _ _, rfl, rfl, th_impl_FNode_isOwn n _ _ _ _ _ _ _ _ _ _ _ _ _ _ r h⟩
    · cases h) hd
/-! ### impl.from -/
def A_impl_from (x0 : List (List PV)) (x1 : Int) (x2 : Int) : List AV := [(.c (.p (.ls x0))), (.c (.p (.i .i64 x1))), (.c (.p (.i .i64 x2)))]
def U_impl_from (x0 : List (List PV)) (x1 : Int) (x2 : Int) : List Go.Eng.Frame := []
def O_impl_from (r : Int) : Res := ⟨(.c (.p (.i .i64 r))), [], []⟩
def FHr_impl_from (rec : List (List PV) → Int → Int → Option (Int)) : Cont → Option (Int)
  | ([[[.r x0]], [[.i x1]], [[.i x2]]], []) => rec x0 x1 x2
  | _ => none
abbrev CT_impl_from (rec : List (List PV) → Int → Int → Option (Int)) (n : Nat) : CTab := mkCT [(113, E_impl_FNode_isOwn n (noEnt)), (80, cent (A_impl_from ([]) (0) (0)) (U_impl_from ([]) (0) (0)) (fun hs => FHr_impl_from rec hs) O_impl_from (noEnt))]
def S_impl_from_61 (v : (List (List PV)) × Int × Int × Int × Int) : St := ⟨[(0, (.c (.p (.ls v.1)))), (1, (.c (.p (.i .i64 v.2.1)))), (2, (.c (.p (.i .i64 v.2.2.1)))), (7, (.c (.p (.i .i64 v.2.2.2.1)))), (8, (.c (.p (.i .i64 v.2.2.2.2))))], [], []⟩
def B_impl_from_61 (rec : List (List PV) → Int → Int → Option (Int)) (n : Nat) (v : (List (List PV)) × Int × Int × Int × Int) : Tr (((List (List PV)) × Int × Int × Int × Int) ⊕ ((Int) ⊕ (Int))) := (.ask ((decide (v.2.2.2.2 ≥ (0 : Int)))) (.ask (decide (0 ≤ v.2.1 ∧ v.2.1 < v.1.length)) (.opt (v.1[(v.2.1).toNat]?) fun e168 => (.ask (decide (e168.length = 14)) (.opt (cellL e168 13) fun y169 => (.ask (decide (0 ≤ v.2.2.2.2 ∧ v.2.2.2.2 < y169.length)) (.opt (y169[(v.2.2.2.2).toNat]?) fun e170 => (.ask (decide (e170.length = 1)) (.opt (cellI .i64 e170 0) fun y171 => (.ask ((y171 != (IntKind.i64.wrap (v.2.2.2.1 - (1 : Int))))) (.done (.inr (.inl ((-1 : Int))))) (.ask ((decide (y171 < (0 : Int)))) (.done (.inr (.inl ((-1 : Int))))) (.ask (decide (0 ≤ y171 ∧ y171 < v.1.length)) (.opt (v.1[(y171).toNat]?) fun e172 => (.ask (decide (e172.length = 14)) (.opt (cellI .i64 e172 0) fun y173 => (.ask ((y173 == (3 : Int))) (.ask (decide (0 ≤ v.2.1 ∧ v.2.1 < v.1.length)) (.opt (v.1[(v.2.1).toNat]?) fun e174 => (.ask (decide (e174.length = 14)) (.opt (cellI .i64 e174 0) fun y175 => (.ask ((y175 != (6 : Int))) (.done (.inr (.inl ((-1 : Int))))) (.opt (rec v.1 y171 (IntKind.i64.wrap (v.2.2.1 + (1 : Int)))) fun r176 => (.ask ((decide (r176 < (0 : Int)))) (.done (.inr (.inl ((-1 : Int))))) (.done (.inl (v.1, v.2.1, v.2.2.1, r176, (IntKind.i64.wrap (v.2.2.2.2 - (1 : Int)))))))))) .fail)) .fail) (.opt (rec v.1 y171 (IntKind.i64.wrap (v.2.2.1 + (1 : Int)))) fun r177 => (.ask ((decide (r177 < (0 : Int)))) (.done (.inr (.inl ((-1 : Int))))) (.done (.inl (v.1, v.2.1, v.2.2.1, r177, (IntKind.i64.wrap (v.2.2.2.2 - (1 : Int)))))))))) .fail)) .fail)))) .fail)) .fail)) .fail)) .fail) (.done (.inr (.inr (v.2.2.2.1)))))
def D_impl_from_61 : ((Int) ⊕ (Int)) → Ex × St := fun | .inl r => (.ret, ⟨[(6, (.c (.p (.i .i64 r))))], [], []⟩) | .inr r => (fun r => ((.exit 0), ⟨[(7, (.c (.p (.i .i64 r))))], [], []⟩)) r
def DT_impl_from_61 : ((Int) ⊕ (Int)) → Tr (Ex × St) := fun r => .alt r (fun r => .done (.ret, ⟨[(6, (.c (.p (.i .i64 r))))], [], []⟩)) (fun r => .done ((.exit 0), ⟨[(7, (.c (.p (.i .i64 r))))], [], []⟩))
def VH_impl_from_61 : Cont3 → Option ((List (List PV)) × Int × Int × Int × Int)
  | ([[[.r w0]], [[.i w1]], [[.i w2]], [[.i w3]], [[.i w4]]], [], []) => some (w0, w1, w2, w3, w4)
  | _ => none
abbrev LE_impl_from_61 (rec : List (List PV) → Int → Int → Option (Int)) (n : Nat) : St → Tr (Ex × St) := lent (S_impl_from_61 ([], 0, 0, 0, 0)) VH_impl_from_61 (B_impl_from_61 rec n) DT_impl_from_61 n
abbrev LT_impl_from (rec : List (List PV) → Int → Int → Option (Int)) (n : Nat) : LTab := mkLT [(61, LE_impl_from_61 rec n)]
def T_impl_from (rec : List (List PV) → Int → Int → Option (Int)) (n : Nat) (x0 : List (List PV)) (x1 : Int) (x2 : Int) : Tr (Int) := (.ask ((decide (x1 < (0 : Int)))) (.done (-1 : Int)) (.ask ((decide (x2 ≥ (12 : Int)))) (.done (-1 : Int)) (.ask (decide (0 ≤ x1 ∧ x1 < x0.length)) (.opt (x0[(x1).toNat]?) fun e114 => (.ask (decide (e114.length = 14)) (.opt (cellI .i64 e114 0) fun y115 => (.opt (cellI .i64 e114 1) fun y116 => (.opt (cellI .i64 e114 2) fun y117 => (.opt (cellI .i64 e114 3) fun y118 => (.opt (cellS e114 4) fun y119 => (.opt (cellI .i64 e114 5) fun y120 => (.opt (cellI .i64 e114 6) fun y121 => (.opt (cellB e114 7) fun y122 => (.opt (cellB e114 8) fun y123 => (.opt (cellI .i64 e114 9) fun y124 => (.opt (cellI .i64 e114 10) fun y125 => (.opt (cellB e114 11) fun y126 => (.opt (cellB e114 12) fun y127 => (.opt (cellL e114 13) fun y128 => (.opt (F_impl_FNode_isOwn n y115 y116 y117 y118 y119 y120 y121 y122 y123 y124 y125 y126 y127 y128) fun r165 => (.ask ((!r165)) (.done (-1 : Int)) (.ask (decide (0 ≤ x1 ∧ x1 < x0.length)) (.opt (x0[(x1).toNat]?) fun e166 => (.ask (decide (e166.length = 14)) (.opt (cellL e166 13) fun y167 => (.opt (loopF (B_impl_from_61 rec n) n (x0, x1, x2, x1, (IntKind.i64.wrap ((y167.length : Int) - (1 : Int))))) fun r178 => (.alt r178 (fun r179 => (.done r179)) (fun r180 => (.done r180))))) .fail)) .fail))))))))))))))))) .fail)) .fail)))
def F_impl_from : Nat → List (List PV) → Int → Int → Option (Int)
  | 0, _, _, _ => none
  | n + 1, x0, x1, x2 => (T_impl_from (F_impl_from n) n x0 x1 x2).run
theorem ft_impl_from (rec : List (List PV) → Int → Int → Option (Int)) (n : Nat) (x0 : List (List PV)) (x1 : Int) (x2 : Int) : funT (CT_impl_from rec n) (LT_impl_from rec n) K_impl_from (A_impl_from x0 x1 x2) (U_impl_from x0 x1 x2) = (T_impl_from rec n x0 x1 x2).bind fun r => .done (O_impl_from r) := by kernel_rfl
theorem ct_impl_from (n : Nat) (ih : ∀ (x0 : List (List PV)) (x1 : Int) (x2 : Int) r, F_impl_from n x0 x1 x2 = some r → runs KP lib n 80 (A_impl_from x0 x1 x2) (U_impl_from x0 x1 x2) = some (O_impl_from r)) : CTok (CT_impl_from (F_impl_from n) n) (runs KP lib n) := mkCT_cons (eo_impl_FNode_isOwn n (noEnt_ok)) (mkCT_cons (cent_ok (fun hs r h => by
    unfold FHr_impl_from at h
    split at h
    · exact ⟨A_impl_from _ _ _, U_impl_from _ _ _, rfl, rfl, ih _ _ _ r h⟩
    · cases h) (noEnt_ok)) (mkCT_nil))
theorem lt_impl_from_61 (n : Nat) (v : (List (List PV)) × Int × Int × Int × Int) : (evalCT (CT_impl_from (F_impl_from n) n) (mkLT []) K_impl_from_L61 (S_impl_from_61 v) []).bind (ltail [0, 1, 2, 7, 8] [(.ret, [6]), ((.exit 0), [7])]) = (B_impl_from_61 (F_impl_from n) n v).bind (lenc S_impl_from_61 D_impl_from_61) := by
  obtain ⟨w0, w1, w2, w3, w4⟩ := v
  kernel_rfl
theorem le_impl_from_61 (n : Nat) (ih : ∀ (x0 : List (List PV)) (x1 : Int) (x2 : Int) r, F_impl_from n x0 x1 x2 = some r → runs KP lib n 80 (A_impl_from x0 x1 x2) (U_impl_from x0 x1 x2) = some (O_impl_from r)) : LEok (runs KP lib n) n (61, [0, 1, 2, 7, 8], [(.ret, [6]), ((.exit 0), [7])], K_impl_from_L61) (LE_impl_from_61 (F_impl_from n) n) := fun st e s h =>
  lent_ok (ct_impl_from n ih) (noLoops rfl) (lt_impl_from_61 n) (fun r => by
    rcases r with r | r <;> (intro h; cases h)) (fun r y h => by
    rcases r with r | r <;> (cases h; rfl)) (fun hs v h => by
    unfold VH_impl_from_61 at h
    split at h <;> cases h
    rfl) h
theorem lo_impl_from (n : Nat) (ih : ∀ (x0 : List (List PV)) (x1 : Int) (x2 : Int) r, F_impl_from n x0 x1 x2 = some r → runs KP lib n 80 (A_impl_from x0 x1 x2) (U_impl_from x0 x1 x2) = some (O_impl_from r)) : LTok (LT_impl_from (F_impl_from n) n) (runs KP lib n) n K_impl_from.body := mkLT_ok (by
  intro x hx
  have hx : x ∈ ([(61, [0, 1, 2, 7, 8], [(.ret, [6]), ((.exit 0), [7])], K_impl_from_L61)] : List (Nat × List Nat × List (Ex × List Nat) × KCode)) := hx
  simp only [List.mem_cons, List.not_mem_nil, or_false] at hx
  rcases hx with rfl
  · exact ⟨LE_impl_from_61 (F_impl_from n) n, fun st => rfl, le_impl_from_61 n ih⟩)
theorem th_impl_from : ∀ (n : Nat) (x0 : List (List PV)) (x1 : Int) (x2 : Int) (r : Int), F_impl_from n x0 x1 x2 = some r → runs KP lib n 80 (A_impl_from x0 x1 x2) (U_impl_from x0 x1 x2) = some (O_impl_from r)
  | 0, x0, x1, x2, r, h => by cases h
  | n + 1, x0, x1, x2, r, h => fun_step (kf := K_impl_from) rfl (ct_impl_from n (th_impl_from n)) (lo_impl_from n (th_impl_from n)) (ft_impl_from (F_impl_from n) n x0 x1 x2) h
def FH_impl_from (n : Nat) : Cont → Option (Int)
  | ([[[.r x0]], [[.i x1]], [[.i x2]]], []) => F_impl_from n x0 x1 x2
  | _ => none
def E_impl_from (n : Nat) (d : List AV → List Go.Eng.Frame → Tr Res) : List AV → List Go.Eng.Frame → Tr Res := cent (A_impl_from ([]) (0) (0)) (U_impl_from ([]) (0) (0)) (FH_impl_from n) O_impl_from d
theorem eo_impl_from (n : Nat) {d : List AV → List Go.Eng.Frame → Tr Res} (hd : ∀ ar up r, (d ar up).run = some r → runs KP lib n 80 ar up = some r) : ∀ ar up r, (E_impl_from n d ar up).run = some r → runs KP lib n 80 ar up = some r :=
  cent_ok (fun hs r h => by
    unfold FH_impl_from at h
    split at h
    · exact ⟨A_impl_from _ _ _, U_impl_from _ _ _, rfl, rfl, th_impl_from n _ _ _ r h⟩
    · cases h) hd
/-! ### impl.FormulaOk -/
def A_impl_FormulaOk (x0 : List (List PV)) : List AV := [(.c (.p (.ls x0)))]
def U_impl_FormulaOk (x0 : List (List PV)) : List Go.Eng.Frame := []
def O_impl_FormulaOk (r : Bool) : Res := ⟨(.c (.p (.b r))), [], []⟩
abbrev CT_impl_FormulaOk (n : Nat) : CTab := mkCT [(79, E_impl_within n (noEnt)), (80, E_impl_from n (noEnt))]
abbrev LT_impl_FormulaOk (n : Nat) : LTab := mkLT []
def T_impl_FormulaOk (n : Nat) (x0 : List (List PV)) : Tr (Bool) := (.opt (F_impl_within n (x0.length : Int) (1 : Int) (60 : Int)) fun r111 => (.ask (r111) (.ask (decide (0 ≤ (IntKind.i64.wrap ((x0.length : Int) - (1 : Int))) ∧ (IntKind.i64.wrap ((x0.length : Int) - (1 : Int))) < x0.length)) (.opt (x0[((IntKind.i64.wrap ((x0.length : Int) - (1 : Int)))).toNat]?) fun e112 => (.ask (decide (e112.length = 14)) (.opt (cellI .i64 e112 0) fun y113 => (.ask ((y113 != (3 : Int))) (.opt (F_impl_from n x0 (IntKind.i64.wrap ((x0.length : Int) - (1 : Int))) (0 : Int)) fun r181 => (.done (r181 == (0 : Int)))) (.done false))) .fail)) .fail) (.done false)))
def F_impl_FormulaOk : Nat → List (List PV) → Option (Bool)
  | 0, _ => none
  | n + 1, x0 => (T_impl_FormulaOk n x0).run
theorem ft_impl_FormulaOk (n : Nat) (x0 : List (List PV)) : funT (CT_impl_FormulaOk n) (LT_impl_FormulaOk n) K_impl_FormulaOk (A_impl_FormulaOk x0) (U_impl_FormulaOk x0) = (T_impl_FormulaOk n x0).bind fun r => .done (O_impl_FormulaOk r) := by kernel_rfl
theorem ct_impl_FormulaOk (n : Nat) : CTok (CT_impl_FormulaOk n) (runs KP lib n) := mkCT_cons (eo_impl_within n (noEnt_ok)) (mkCT_cons (eo_impl_from n (noEnt_ok)) (mkCT_nil))
theorem th_impl_FormulaOk : ∀ (n : Nat) (x0 : List (List PV)) (r : Bool), F_impl_FormulaOk n x0 = some r → runs KP lib n 39 (A_impl_FormulaOk x0) (U_impl_FormulaOk x0) = some (O_impl_FormulaOk r)
  | 0, x0, r, h => by cases h
  | n + 1, x0, r, h => fun_step (kf := K_impl_FormulaOk) rfl (ct_impl_FormulaOk n) (noLoops rfl) (ft_impl_FormulaOk n x0) h
def FH_impl_FormulaOk (n : Nat) : Cont → Option (Bool)
  | ([[[.r x0]]], []) => F_impl_FormulaOk n x0
  | _ => none
def E_impl_FormulaOk (n : Nat) (d : List AV → List Go.Eng.Frame → Tr Res) : List AV → List Go.Eng.Frame → Tr Res := cent (A_impl_FormulaOk ([])) (U_impl_FormulaOk ([])) (FH_impl_FormulaOk n) O_impl_FormulaOk d
theorem eo_impl_FormulaOk (n : Nat) {d : List AV → List Go.Eng.Frame → Tr Res} (hd : ∀ ar up r, (d ar up).run = some r → runs KP lib n 39 ar up = some r) : ∀ ar up r, (E_impl_FormulaOk n d ar up).run = some r → runs KP lib n 39 ar up = some r :=
  cent_ok (fun hs r h => by
    unfold FH_impl_FormulaOk at h
    split at h
    · exact ⟨A_impl_FormulaOk _, U_impl_FormulaOk _, rfl, rfl, th_impl_FormulaOk n _ r h⟩
    · cases h) hd
/-! ### laws.eqValue -/
def A_laws_eqValue (x0 : Int) (x1 : Int) (x2 : ByteArray) (x3 : Int) (x4 : Int) (x5 : ByteArray) : List AV := [(.agg [(.p (.i .i64 x0)), (.p (.i .i64 x1)), (.p (.s x2))]), (.agg [(.p (.i .i64 x3)), (.p (.i .i64 x4)), (.p (.s x5))])]
def U_laws_eqValue (x0 : Int) (x1 : Int) (x2 : ByteArray) (x3 : Int) (x4 : Int) (x5 : ByteArray) : List Go.Eng.Frame := []
def O_laws_eqValue (r : Bool) : Res := ⟨(.c (.p (.b r))), [], []⟩
abbrev CT_laws_eqValue (n : Nat) : CTab := mkCT []
abbrev LT_laws_eqValue (n : Nat) : LTab := mkLT []
def T_laws_eqValue (n : Nat) (x0 : Int) (x1 : Int) (x2 : ByteArray) (x3 : Int) (x4 : Int) (x5 : ByteArray) : Tr (Bool) := (.ask ((x0 != x3)) (.done false) (.ask ((x1 != x4)) (.done false) (.ask ((!(x2.toList == x5.toList))) (.done false) (.done true))))
def F_laws_eqValue : Nat → Int → Int → ByteArray → Int → Int → ByteArray → Option (Bool)
  | 0, _, _, _, _, _, _ => none
  | n + 1, x0, x1, x2, x3, x4, x5 => (T_laws_eqValue n x0 x1 x2 x3 x4 x5).run
theorem ft_laws_eqValue (n : Nat) (x0 : Int) (x1 : Int) (x2 : ByteArray) (x3 : Int) (x4 : Int) (x5 : ByteArray) : funT (CT_laws_eqValue n) (LT_laws_eqValue n) K_laws_eqValue (A_laws_eqValue x0 x1 x2 x3 x4 x5) (U_laws_eqValue x0 x1 x2 x3 x4 x5) = (T_laws_eqValue n x0 x1 x2 x3 x4 x5).bind fun r => .done (O_laws_eqValue r) := by kernel_rfl
theorem ct_laws_eqValue (n : Nat) : CTok (CT_laws_eqValue n) (runs KP lib n) := mkCT_nil
theorem th_laws_eqValue : ∀ (n : Nat) (x0 : Int) (x1 : Int) (x2 : ByteArray) (x3 : Int) (x4 : Int) (x5 : ByteArray) (r : Bool), F_laws_eqValue n x0 x1 x2 x3 x4 x5 = some r → runs KP lib n 20 (A_laws_eqValue x0 x1 x2 x3 x4 x5) (U_laws_eqValue x0 x1 x2 x3 x4 x5) = some (O_laws_eqValue r)
  | 0, x0, x1, x2, x3, x4, x5, r, h => by cases h
  | n + 1, x0, x1, x2, x3, x4, x5, r, h => fun_step (kf := K_laws_eqValue) rfl (ct_laws_eqValue n) (noLoops rfl) (ft_laws_eqValue n x0 x1 x2 x3 x4 x5) h
def FH_laws_eqValue (n : Nat) : Cont → Option (Bool)
  | ([[[.i x0], [.i x1], [.s x2]], [[.i x3], [.i x4], [.s x5]]], []) => F_laws_eqValue n x0 x1 x2 x3 x4 x5
  | _ => none
def E_laws_eqValue (n : Nat) (d : List AV → List Go.Eng.Frame → Tr Res) : List AV → List Go.Eng.Frame → Tr Res := cent (A_laws_eqValue (0) (0) (⟨#[]⟩) (0) (0) (⟨#[]⟩)) (U_laws_eqValue (0) (0) (⟨#[]⟩) (0) (0) (⟨#[]⟩)) (FH_laws_eqValue n) O_laws_eqValue d
theorem eo_laws_eqValue (n : Nat) {d : List AV → List Go.Eng.Frame → Tr Res} (hd : ∀ ar up r, (d ar up).run = some r → runs KP lib n 20 ar up = some r) : ∀ ar up r, (E_laws_eqValue n d ar up).run = some r → runs KP lib n 20 ar up = some r :=
  cent_ok (fun hs r h => by
    unfold FH_laws_eqValue at h
    split at h
    · exact ⟨A_laws_eqValue _ _ _ _ _ _, U_laws_eqValue _ _ _ _ _ _, rfl, rfl, th_laws_eqValue n _ _ _ _ _ _ r h⟩
    · cases h) hd
/-! ### laws.eqRef -/
def A_laws_eqRef (x0 : Int) (x1 : Int) (x2 : Int) (x3 : Int) : List AV := [(.agg [(.p (.i .i64 x0)), (.p (.i .i64 x1))]), (.agg [(.p (.i .i64 x2)), (.p (.i .i64 x3))])]
def U_laws_eqRef (x0 : Int) (x1 : Int) (x2 : Int) (x3 : Int) : List Go.Eng.Frame := []
def O_laws_eqRef (r : Bool) : Res := ⟨(.c (.p (.b r))), [], []⟩
abbrev CT_laws_eqRef (n : Nat) : CTab := mkCT []
abbrev LT_laws_eqRef (n : Nat) : LTab := mkLT []
def T_laws_eqRef (n : Nat) (x0 : Int) (x1 : Int) (x2 : Int) (x3 : Int) : Tr (Bool) := (.ask ((x0 != x2)) (.done false) (.ask ((x1 != x3)) (.done false) (.done true)))
def F_laws_eqRef : Nat → Int → Int → Int → Int → Option (Bool)
  | 0, _, _, _, _ => none
  | n + 1, x0, x1, x2, x3 => (T_laws_eqRef n x0 x1 x2 x3).run
theorem ft_laws_eqRef (n : Nat) (x0 : Int) (x1 : Int) (x2 : Int) (x3 : Int) : funT (CT_laws_eqRef n) (LT_laws_eqRef n) K_laws_eqRef (A_laws_eqRef x0 x1 x2 x3) (U_laws_eqRef x0 x1 x2 x3) = (T_laws_eqRef n x0 x1 x2 x3).bind fun r => .done (O_laws_eqRef r) := by kernel_rfl
theorem ct_laws_eqRef (n : Nat) : CTok (CT_laws_eqRef n) (runs KP lib n) := mkCT_nil
theorem th_laws_eqRef : ∀ (n : Nat) (x0 : Int) (x1 : Int) (x2 : Int) (x3 : Int) (r : Bool), F_laws_eqRef n x0 x1 x2 x3 = some r → runs KP lib n 101 (A_laws_eqRef x0 x1 x2 x3) (U_laws_eqRef x0 x1 x2 x3) = some (O_laws_eqRef r)
  | 0, x0, x1, x2, x3, r, h => by cases h
  | n + 1, x0, x1, x2, x3, r, h => fun_step (kf := K_laws_eqRef) rfl (ct_laws_eqRef n) (noLoops rfl) (ft_laws_eqRef n x0 x1 x2 x3) h
def FH_laws_eqRef (n : Nat) : Cont → Option (Bool)
  | ([[[.i x0], [.i x1]], [[.i x2], [.i x3]]], []) => F_laws_eqRef n x0 x1 x2 x3
  | _ => none
def E_laws_eqRef (n : Nat) (d : List AV → List Go.Eng.Frame → Tr Res) : List AV → List Go.Eng.Frame → Tr Res := cent (A_laws_eqRef (0) (0) (0) (0)) (U_laws_eqRef (0) (0) (0) (0)) (FH_laws_eqRef n) O_laws_eqRef d
theorem eo_laws_eqRef (n : Nat) {d : List AV → List Go.Eng.Frame → Tr Res} (hd : ∀ ar up r, (d ar up).run = some r → runs KP lib n 101 ar up = some r) : ∀ ar up r, (E_laws_eqRef n d ar up).run = some r → runs KP lib n 101 ar up = some r :=
  cent_ok (fun hs r h => by
    unfold FH_laws_eqRef at h
    split at h
    · exact ⟨A_laws_eqRef _ _ _ _, U_laws_eqRef _ _ _ _, rfl, rfl, th_laws_eqRef n _ _ _ _ r h⟩
    · cases h) hd
/-! ### laws.eqPlace -/
def A_laws_eqPlace (x0 : Int) (x1 : Int) (x2 : Bool) (x3 : Bool) (x4 : Int) (x5 : Int) (x6 : Bool) (x7 : Bool) : List AV := [(.agg [(.p (.i .i64 x0)), (.p (.i .i64 x1)), (.p (.b x2)), (.p (.b x3))]), (.agg [(.p (.i .i64 x4)), (.p (.i .i64 x5)), (.p (.b x6)), (.p (.b x7))])]
def U_laws_eqPlace (x0 : Int) (x1 : Int) (x2 : Bool) (x3 : Bool) (x4 : Int) (x5 : Int) (x6 : Bool) (x7 : Bool) : List Go.Eng.Frame := []
def O_laws_eqPlace (r : Bool) : Res := ⟨(.c (.p (.b r))), [], []⟩
abbrev CT_laws_eqPlace (n : Nat) : CTab := mkCT [(101, E_laws_eqRef n (noEnt))]
abbrev LT_laws_eqPlace (n : Nat) : LTab := mkLT []
def T_laws_eqPlace (n : Nat) (x0 : Int) (x1 : Int) (x2 : Bool) (x3 : Bool) (x4 : Int) (x5 : Int) (x6 : Bool) (x7 : Bool) : Tr (Bool) := (.opt (F_laws_eqRef n x0 x1 x4 x5) fun r215 => (.ask ((!r215)) (.done false) (.ask ((!(x2 == x6))) (.done false) (.ask ((!(x3 == x7))) (.done false) (.done true)))))
def F_laws_eqPlace : Nat → Int → Int → Bool → Bool → Int → Int → Bool → Bool → Option (Bool)
  | 0, _, _, _, _, _, _, _, _ => none
  | n + 1, x0, x1, x2, x3, x4, x5, x6, x7 => (T_laws_eqPlace n x0 x1 x2 x3 x4 x5 x6 x7).run
theorem ft_laws_eqPlace (n : Nat) (x0 : Int) (x1 : Int) (x2 : Bool) (x3 : Bool) (x4 : Int) (x5 : Int) (x6 : Bool) (x7 : Bool) : funT (CT_laws_eqPlace n) (LT_laws_eqPlace n) K_laws_eqPlace (A_laws_eqPlace x0 x1 x2 x3 x4 x5 x6 x7) (U_laws_eqPlace x0 x1 x2 x3 x4 x5 x6 x7) = (T_laws_eqPlace n x0 x1 x2 x3 x4 x5 x6 x7).bind fun r => .done (O_laws_eqPlace r) := by kernel_rfl
theorem ct_laws_eqPlace (n : Nat) : CTok (CT_laws_eqPlace n) (runs KP lib n) := mkCT_cons (eo_laws_eqRef n (noEnt_ok)) (mkCT_nil)
theorem th_laws_eqPlace : ∀ (n : Nat) (x0 : Int) (x1 : Int) (x2 : Bool) (x3 : Bool) (x4 : Int) (x5 : Int) (x6 : Bool) (x7 : Bool) (r : Bool), F_laws_eqPlace n x0 x1 x2 x3 x4 x5 x6 x7 = some r → runs KP lib n 114 (A_laws_eqPlace x0 x1 x2 x3 x4 x5 x6 x7) (U_laws_eqPlace x0 x1 x2 x3 x4 x5 x6 x7) = some (O_laws_eqPlace r)
  | 0, x0, x1, x2, x3, x4, x5, x6, x7, r, h => by cases h
  | n + 1, x0, x1, x2, x3, x4, x5, x6, x7, r, h => fun_step (kf := K_laws_eqPlace) rfl (ct_laws_eqPlace n) (noLoops rfl) (ft_laws_eqPlace n x0 x1 x2 x3 x4 x5 x6 x7) h
def FH_laws_eqPlace (n : Nat) : Cont → Option (Bool)
  | ([[[.i x0], [.i x1], [.b x2], [.b x3]], [[.i x4], [.i x5], [.b x6], [.b x7]]], []) => F_laws_eqPlace n x0 x1 x2 x3 x4 x5 x6 x7
  | _ => none
def E_laws_eqPlace (n : Nat) (d : List AV → List Go.Eng.Frame → Tr Res) : List AV → List Go.Eng.Frame → Tr Res := cent (A_laws_eqPlace (0) (0) (false) (false) (0) (0) (false) (false)) (U_laws_eqPlace (0) (0) (false) (false) (0) (0) (false) (false)) (FH_laws_eqPlace n) O_laws_eqPlace d
theorem eo_laws_eqPlace (n : Nat) {d : List AV → List Go.Eng.Frame → Tr Res} (hd : ∀ ar up r, (d ar up).run = some r → runs KP lib n 114 ar up = some r) : ∀ ar up r, (E_laws_eqPlace n d ar up).run = some r → runs KP lib n 114 ar up = some r :=
  cent_ok (fun hs r h => by
    unfold FH_laws_eqPlace at h
    split at h
    · exact ⟨A_laws_eqPlace _ _ _ _ _ _ _ _, U_laws_eqPlace _ _ _ _ _ _ _ _, rfl, rfl, th_laws_eqPlace n _ _ _ _ _ _ _ _ r h⟩
    · cases h) hd
/-! ### laws.eqInt64S -/
def A_laws_eqInt64S (x0 : List (List PV)) (x1 : List (List PV)) : List AV := [(.c (.p (.ls x0))), (.c (.p (.ls x1)))]
def U_laws_eqInt64S (x0 : List (List PV)) (x1 : List (List PV)) : List Go.Eng.Frame := []
def O_laws_eqInt64S (r : Bool) : Res := ⟨(.c (.p (.b r))), [], []⟩
abbrev CT_laws_eqInt64S (n : Nat) : CTab := mkCT []
def S_laws_eqInt64S_29 (v : (List (List PV)) × (List (List PV)) × Int) : St := ⟨[(0, (.c (.p (.ls v.1)))), (1, (.c (.p (.ls v.2.1)))), (5, (.c (.p (.i .i64 v.2.2))))], [], []⟩
def B_laws_eqInt64S_29 (n : Nat) (v : (List (List PV)) × (List (List PV)) × Int) : Tr (((List (List PV)) × (List (List PV)) × Int) ⊕ ((Bool) ⊕ (Unit))) := (.ask ((decide (v.2.2 < (v.1.length : Int)))) (.ask (decide (0 ≤ v.2.2 ∧ v.2.2 < v.1.length)) (.opt (v.1[(v.2.2).toNat]?) fun e218 => (.ask (decide (e218.length = 1)) (.opt (cellI .i64 e218 0) fun y219 => (.ask (decide (0 ≤ v.2.2 ∧ v.2.2 < v.2.1.length)) (.opt (v.2.1[(v.2.2).toNat]?) fun e220 => (.ask (decide (e220.length = 1)) (.opt (cellI .i64 e220 0) fun y221 => (.ask ((y219 != y221)) (.done (.inr (.inl (false)))) (.done (.inl (v.1, v.2.1, (IntKind.i64.wrap (v.2.2 + (1 : Int)))))))) .fail)) .fail)) .fail)) .fail) (.done (.inr (.inr (())))))
def D_laws_eqInt64S_29 : ((Bool) ⊕ (Unit)) → Ex × St := fun | .inl r => (.ret, ⟨[(4, (.c (.p (.b r))))], [], []⟩) | .inr r => (fun r => ((.exit 0), ⟨[], [], []⟩)) r
def DT_laws_eqInt64S_29 : ((Bool) ⊕ (Unit)) → Tr (Ex × St) := fun r => .alt r (fun r => .done (.ret, ⟨[(4, (.c (.p (.b r))))], [], []⟩)) (fun r => .done ((.exit 0), ⟨[], [], []⟩))
def VH_laws_eqInt64S_29 : Cont3 → Option ((List (List PV)) × (List (List PV)) × Int)
  | ([[[.r w0]], [[.r w1]], [[.i w2]]], [], []) => some (w0, w1, w2)
  | _ => none
abbrev LE_laws_eqInt64S_29 (n : Nat) : St → Tr (Ex × St) := lent (S_laws_eqInt64S_29 ([], [], 0)) VH_laws_eqInt64S_29 (B_laws_eqInt64S_29 n) DT_laws_eqInt64S_29 n
abbrev LT_laws_eqInt64S (n : Nat) : LTab := mkLT [(29, LE_laws_eqInt64S_29 n)]
def T_laws_eqInt64S (n : Nat) (x0 : List (List PV)) (x1 : List (List PV)) : Tr (Bool) := (.ask (((x0.length : Int) != (x1.length : Int))) (.done false) (.opt (loopF (B_laws_eqInt64S_29 n) n (x0, x1, (0 : Int))) fun r222 => (.alt r222 (fun r223 => (.done r223)) (fun r224 => (.done true)))))
def F_laws_eqInt64S : Nat → List (List PV) → List (List PV) → Option (Bool)
  | 0, _, _ => none
  | n + 1, x0, x1 => (T_laws_eqInt64S n x0 x1).run
theorem ft_laws_eqInt64S (n : Nat) (x0 : List (List PV)) (x1 : List (List PV)) : funT (CT_laws_eqInt64S n) (LT_laws_eqInt64S n) K_laws_eqInt64S (A_laws_eqInt64S x0 x1) (U_laws_eqInt64S x0 x1) = (T_laws_eqInt64S n x0 x1).bind fun r => .done (O_laws_eqInt64S r) := by kernel_rfl
theorem ct_laws_eqInt64S (n : Nat) : CTok (CT_laws_eqInt64S n) (runs KP lib n) := mkCT_nil
theorem lt_laws_eqInt64S_29 (n : Nat) (v : (List (List PV)) × (List (List PV)) × Int) : (evalCT (CT_laws_eqInt64S n) (mkLT []) K_laws_eqInt64S_L29 (S_laws_eqInt64S_29 v) []).bind (ltail [0, 1, 5] [(.ret, [4]), ((.exit 0), [])]) = (B_laws_eqInt64S_29 n v).bind (lenc S_laws_eqInt64S_29 D_laws_eqInt64S_29) := by
  obtain ⟨w0, w1, w2⟩ := v
  kernel_rfl
theorem le_laws_eqInt64S_29 (n : Nat) : LEok (runs KP lib n) n (29, [0, 1, 5], [(.ret, [4]), ((.exit 0), [])], K_laws_eqInt64S_L29) (LE_laws_eqInt64S_29 n) := fun st e s h =>
  lent_ok (ct_laws_eqInt64S n) (noLoops rfl) (lt_laws_eqInt64S_29 n) (fun r => by
    rcases r with r | r <;> (intro h; cases h)) (fun r y h => by
    rcases r with r | r <;> (cases h; rfl)) (fun hs v h => by
    unfold VH_laws_eqInt64S_29 at h
    split at h <;> cases h
    rfl) h
theorem lo_laws_eqInt64S (n : Nat) : LTok (LT_laws_eqInt64S n) (runs KP lib n) n K_laws_eqInt64S.body := mkLT_ok (by
  intro x hx
  have hx : x ∈ ([(29, [0, 1, 5], [(.ret, [4]), ((.exit 0), [])], K_laws_eqInt64S_L29)] : List (Nat × List Nat × List (Ex × List Nat) × KCode)) := hx
  simp only [List.mem_cons, List.not_mem_nil, or_false] at hx
  rcases hx with rfl
  · exact ⟨LE_laws_eqInt64S_29 n, fun st => rfl, le_laws_eqInt64S_29 n⟩)
theorem th_laws_eqInt64S : ∀ (n : Nat) (x0 : List (List PV)) (x1 : List (List PV)) (r : Bool), F_laws_eqInt64S n x0 x1 = some r → runs KP lib n 115 (A_laws_eqInt64S x0 x1) (U_laws_eqInt64S x0 x1) = some (O_laws_eqInt64S r)
  | 0, x0, x1, r, h => by cases h
  | n + 1, x0, x1, r, h => fun_step (kf := K_laws_eqInt64S) rfl (ct_laws_eqInt64S n) (lo_laws_eqInt64S n) (ft_laws_eqInt64S n x0 x1) h
def FH_laws_eqInt64S (n : Nat) : Cont → Option (Bool)
  | ([[[.r x0]], [[.r x1]]], []) => F_laws_eqInt64S n x0 x1
  | _ => none
def E_laws_eqInt64S (n : Nat) (d : List AV → List Go.Eng.Frame → Tr Res) : List AV → List Go.Eng.Frame → Tr Res := cent (A_laws_eqInt64S ([]) ([])) (U_laws_eqInt64S ([]) ([])) (FH_laws_eqInt64S n) O_laws_eqInt64S d
theorem eo_laws_eqInt64S (n : Nat) {d : List AV → List Go.Eng.Frame → Tr Res} (hd : ∀ ar up r, (d ar up).run = some r → runs KP lib n 115 ar up = some r) : ∀ ar up r, (E_laws_eqInt64S n d ar up).run = some r → runs KP lib n 115 ar up = some r :=
  cent_ok (fun hs r h => by
    unfold FH_laws_eqInt64S at h
    split at h
    · exact ⟨A_laws_eqInt64S _ _, U_laws_eqInt64S _ _, rfl, rfl, th_laws_eqInt64S n _ _ r h⟩
    · cases h) hd
/-! ### laws.eqFNode -/
def A_laws_eqFNode (x0 : Int) (x1 : Int) (x2 : Int) (x3 : Int) (x4 : ByteArray) (x5 : Int) (x6 : Int) (x7 : Bool) (x8 : Bool) (x9 : Int) (x10 : Int) (x11 : Bool) (x12 : Bool) (x13 : List (List PV)) (x14 : Int) (x15 : Int) (x16 : Int) (x17 : Int) (x18 : ByteArray) (x19 : Int) (x20 : Int) (x21 : Bool) (x22 : Bool) (x23 : Int) (x24 : Int) (x25 : Bool) (x26 : Bool) (x27 : List (List PV)) : List AV := [(.agg [(.p (.i .i64 x0)), (.p (.i .i64 x1)), (.p (.i .i64 x2)), (.p (.i .i64 x3)), (.p (.s x4)), (.p (.i .i64 x5)), (.p (.i .i64 x6)), (.p (.b x7)), (.p (.b x8)), (.p (.i .i64 x9)), (.p (.i .i64 x10)), (.p (.b x11)), (.p (.b x12)), (.p (.ls x13))]), (.agg [(.p (.i .i64 x14)), (.p (.i .i64 x15)), (.p (.i .i64 x16)), (.p (.i .i64 x17)), (.p (.s x18)), (.p (.i .i64 x19)), (.p (.i .i64 x20)), (.p (.b x21)), (.p (.b x22)), (.p (.i .i64 x23)), (.p (.i .i64 x24)), (.p (.b x25)), (.p (.b x26)), (.p (.ls x27))])]
def U_laws_eqFNode (x0 : Int) (x1 : Int) (x2 : Int) (x3 : Int) (x4 : ByteArray) (x5 : Int) (x6 : Int) (x7 : Bool) (x8 : Bool) (x9 : Int) (x10 : Int) (x11 : Bool) (x12 : Bool) (x13 : List (List PV)) (x14 : Int) (x15 : Int) (x16 : Int) (x17 : Int) (x18 : ByteArray) (x19 : Int) (x20 : Int) (x21 : Bool) (x22 : Bool) (x23 : Int) (x24 : Int) (x25 : Bool) (x26 : Bool) (x27 : List (List PV)) : List Go.Eng.Frame := []
def O_laws_eqFNode (r : Bool) : Res := ⟨(.c (.p (.b r))), [], []⟩
abbrev CT_laws_eqFNode (n : Nat) : CTab := mkCT [(20, E_laws_eqValue n (noEnt)), (114, E_laws_eqPlace n (noEnt)), (115, E_laws_eqInt64S n (noEnt))]
abbrev LT_laws_eqFNode (n : Nat) : LTab := mkLT []
def T_laws_eqFNode (n : Nat) (x0 : Int) (x1 : Int) (x2 : Int) (x3 : Int) (x4 : ByteArray) (x5 : Int) (x6 : Int) (x7 : Bool) (x8 : Bool) (x9 : Int) (x10 : Int) (x11 : Bool) (x12 : Bool) (x13 : List (List PV)) (x14 : Int) (x15 : Int) (x16 : Int) (x17 : Int) (x18 : ByteArray) (x19 : Int) (x20 : Int) (x21 : Bool) (x22 : Bool) (x23 : Int) (x24 : Int) (x25 : Bool) (x26 : Bool) (x27 : List (List PV)) : Tr (Bool) := (.ask ((x0 != x14)) (.done false) (.ask ((x1 != x15)) (.done false) (.opt (F_laws_eqValue n x2 x3 x4 x16 x17 x18) fun r214 => (.ask ((!r214)) (.done false) (.opt (F_laws_eqPlace n x5 x6 x7 x8 x19 x20 x21 x22) fun r216 => (.ask ((!r216)) (.done false) (.opt (F_laws_eqPlace n x9 x10 x11 x12 x23 x24 x25 x26) fun r217 => (.ask ((!r217)) (.done false) (.opt (F_laws_eqInt64S n x13 x27) fun r225 => (.ask ((!r225)) (.done false) (.done true)))))))))))
def F_laws_eqFNode : Nat → Int → Int → Int → Int → ByteArray → Int → Int → Bool → Bool → Int → Int → Bool → Bool → List (List PV) → Int → Int → Int → Int → ByteArray → Int → Int → Bool → Bool → Int → Int → Bool → Bool → List (List PV) → Option (Bool)
  | 0, _, _, _, _, _, _, _, _, _, _, _, _, _, _, _, _, _, _, _, _, _, _, _, _, _, _, _, _ => none
  | n + 1, x0, x1, x2, x3, x4, x5, x6, x7, x8, x9, x10, x11, x12, x13, x14, x15, x16, x17, x18, x19, x20, x21, x22, x23, x24, x25, x26, x27 => (T_laws_eqFNode n x0 x1 x2 x3 x4 x5 x6 x7 x8 x9 x10 x11 x12 x13 x14 x15 x16 x17 x18 x19 x20 x21 x22 x23 x24 x25 x26 x27).run
theorem ft_laws_eqFNode (n : Nat) (x0 : Int) (x1 : Int) (x2 : Int) (x3 : Int) (x4 : ByteArray) (x5 : Int) (x6 : Int) (x7 : Bool) (x8 : Bool) (x9 : Int) (x10 : Int) (x11 : Bool) (x12 : Bool) (x13 : List (List PV)) (x14 : Int) (x15 : Int) (x16 : Int) (x17 : Int) (x18 : ByteArray) (x19 : Int) (x20 : Int) (x21 : Bool) (x22 : Bool) (x23 : Int) (x24 : Int) (x25 : Bool) (x26 : Bool) (x27 : List (List PV)) : funT (CT_laws_eqFNode n) (LT_laws_eqFNode n) K_laws_eqFNode (A_laws_eqFNode x0 x1 x2 x3 x4 x5 x6 x7 x8 x9 x10 x11 x12 x13 x14 x15 x16 x17 x18 x19 x20 x21 x22 x23 x24 x25 x26 x27) (U_laws_eqFNode x0 x1 x2 x3 x4 x5 x6 x7 x8 x9 x10 x11 x12 x13 x14 x15 x16 x17 x18 x19 x20 x21 x22 x23 x24 x25 x26 x27) = (T_laws_eqFNode n x0 x1 x2 x3 x4 x5 x6 x7 x8 x9 x10 x11 x12 x13 x14 x15 x16 x17 x18 x19 x20 x21 x22 x23 x24 x25 x26 x27).bind fun r => .done (O_laws_eqFNode r) := by kernel_rfl
theorem ct_laws_eqFNode (n : Nat) : CTok (CT_laws_eqFNode n) (runs KP lib n) := mkCT_cons (eo_laws_eqValue n (noEnt_ok)) (mkCT_cons (eo_laws_eqPlace n (noEnt_ok)) (mkCT_cons (eo_laws_eqInt64S n (noEnt_ok)) (mkCT_nil)))
theorem th_laws_eqFNode : ∀ (n : Nat) (x0 : Int) (x1 : Int) (x2 : Int) (x3 : Int) (x4 : ByteArray) (x5 : Int) (x6 : Int) (x7 : Bool) (x8 : Bool) (x9 : Int) (x10 : Int) (x11 : Bool) (x12 : Bool) (x13 : List (List PV)) (x14 : Int) (x15 : Int) (x16 : Int) (x17 : Int) (x18 : ByteArray) (x19 : Int) (x20 : Int) (x21 : Bool) (x22 : Bool) (x23 : Int) (x24 : Int) (x25 : Bool) (x26 : Bool) (x27 : List (List PV)) (r : Bool), F_laws_eqFNode n x0 x1 x2 x3 x4 x5 x6 x7 x8 x9 x10 x11 x12 x13 x14 x15 x16 x17 x18 x19 x20 x21 x22 x23 x24 x25 x26 x27 = some r → runs KP lib n 81 (A_laws_eqFNode x0 x1 x2 x3 x4 x5 x6 x7 x8 x9 x10 x11 x12 x13 x14 x15 x16 x17 x18 x19 x20 x21 x22 x23 x24 x25 x26 x27) (U_laws_eqFNode x0 x1 x2 x3 x4 x5 x6 x7 x8 x9 x10 x11 x12 x13 x14 x15 x16 x17 x18 x19 x20 x21 x22 x23 x24 x25 x26 x27) = some (O_laws_eqFNode r)
  | 0, x0, x1, x2, x3, x4, x5, x6, x7, x8, x9, x10, x11, x12, x13, x14, x15, x16, x17, x18, x19, x20, x21, x22, x23, x24, x25, x26, x27, r, h => by cases h
  | n + 1, x0, x1, x2, x3, x4, x5, x6, x7, x8, x9, x10, x11, x12, x13, x14, x15, x16, x17, x18, x19, x20, x21, x22, x23, x24, x25, x26, x27, r, h => fun_step (kf := K_laws_eqFNode) rfl (ct_laws_eqFNode n) (noLoops rfl) (ft_laws_eqFNode n x0 x1 x2 x3 x4 x5 x6 x7 x8 x9 x10 x11 x12 x13 x14 x15 x16 x17 x18 x19 x20 x21 x22 x23 x24 x25 x26 x27) h
def FH_laws_eqFNode (n : Nat) : Cont → Option (Bool)
  | ([[[.i x0], [.i x1], [.i x2], [.i x3], [.s x4], [.i x5], [.i x6], [.b x7], [.b x8], [.i x9], [.i x10], [.b x11], [.b x12], [.r x13]], [[.i x14], [.i x15], [.i x16], [.i x17], [.s x18], [.i x19], [.i x20], [.b x21], [.b x22], [.i x23], [.i x24], [.b x25], [.b x26], [.r x27]]], []) => F_laws_eqFNode n x0 x1 x2 x3 x4 x5 x6 x7 x8 x9 x10 x11 x12 x13 x14 x15 x16 x17 x18 x19 x20 x21 x22 x23 x24 x25 x26 x27
  | _ => none
def E_laws_eqFNode (n : Nat) (d : List AV → List Go.Eng.Frame → Tr Res) : List AV → List Go.Eng.Frame → Tr Res := cent (A_laws_eqFNode (0) (0) (0) (0) (⟨#[]⟩) (0) (0) (false) (false) (0) (0) (false) (false) ([]) (0) (0) (0) (0) (⟨#[]⟩) (0) (0) (false) (false) (0) (0) (false) (false) ([])) (U_laws_eqFNode (0) (0) (0) (0) (⟨#[]⟩) (0) (0) (false) (false) (0) (0) (false) (false) ([]) (0) (0) (0) (0) (⟨#[]⟩) (0) (0) (false) (false) (0) (0) (false) (false) ([])) (FH_laws_eqFNode n) O_laws_eqFNode d
theorem eo_laws_eqFNode (n : Nat) {d : List AV → List Go.Eng.Frame → Tr Res} (hd : ∀ ar up r, (d ar up).run = some r → runs KP lib n 81 ar up = some r) : ∀ ar up r, (E_laws_eqFNode n d ar up).run = some r → runs KP lib n 81 ar up = some r :=
  cent_ok (fun hs r h => by
    unfold FH_laws_eqFNode at h
    split at h
    · exact ⟨A_laws_eqFNode _ _ _ _ _ _ _ _ _ _ _ _ _ _ _ _ _ _ _ _ _ _ _ _ _ _ _ _, U_laws_eqFNode _ _ _ _ _ _ _ _ _ _ _ _ _ _ _ _ _ _ _ _ _ _ _ _ _ _ _ _, rfl, rfl, th_laws_eqFNode n _ _ _ _ _ _ _ _ _ _ _ _ _ _ _ _ _ _ _ _ _ _ _ _ _ _ _ _ r h⟩
    · cases h) hd
/-! ### laws.eqFNodeS -/
def A_laws_eqFNodeS (x0 : List (List PV)) (x1 : List (List PV)) : List AV := [(.c (.p (.ls x0))), (.c (.p (.ls x1)))]
def U_laws_eqFNodeS (x0 : List (List PV)) (x1 : List (List PV)) : List Go.Eng.Frame := []
def O_laws_eqFNodeS (r : Bool) : Res := ⟨(.c (.p (.b r))), [], []⟩
abbrev CT_laws_eqFNodeS (n : Nat) : CTab := mkCT [(81, E_laws_eqFNode n (noEnt))]
def S_laws_eqFNodeS_29 (v : (List (List PV)) × (List (List PV)) × Int) : St := ⟨[(0, (.c (.p (.ls v.1)))), (1, (.c (.p (.ls v.2.1)))), (5, (.c (.p (.i .i64 v.2.2))))], [], []⟩
def B_laws_eqFNodeS_29 (n : Nat) (v : (List (List PV)) × (List (List PV)) × Int) : Tr (((List (List PV)) × (List (List PV)) × Int) ⊕ ((Bool) ⊕ (Unit))) := (.ask ((decide (v.2.2 < (v.1.length : Int)))) (.ask (decide (0 ≤ v.2.2 ∧ v.2.2 < v.1.length)) (.opt (v.1[(v.2.2).toNat]?) fun e184 => (.ask (decide (e184.length = 14)) (.opt (cellI .i64 e184 0) fun y185 => (.opt (cellI .i64 e184 1) fun y186 => (.opt (cellI .i64 e184 2) fun y187 => (.opt (cellI .i64 e184 3) fun y188 => (.opt (cellS e184 4) fun y189 => (.opt (cellI .i64 e184 5) fun y190 => (.opt (cellI .i64 e184 6) fun y191 => (.opt (cellB e184 7) fun y192 => (.opt (cellB e184 8) fun y193 => (.opt (cellI .i64 e184 9) fun y194 => (.opt (cellI .i64 e184 10) fun y195 => (.opt (cellB e184 11) fun y196 => (.opt (cellB e184 12) fun y197 => (.opt (cellL e184 13) fun y198 => (.ask (decide (0 ≤ v.2.2 ∧ v.2.2 < v.2.1.length)) (.opt (v.2.1[(v.2.2).toNat]?) fun e199 => (.ask (decide (e199.length = 14)) (.opt (cellI .i64 e199 0) fun y200 => (.opt (cellI .i64 e199 1) fun y201 => (.opt (cellI .i64 e199 2) fun y202 => (.opt (cellI .i64 e199 3) fun y203 => (.opt (cellS e199 4) fun y204 => (.opt (cellI .i64 e199 5) fun y205 => (.opt (cellI .i64 e199 6) fun y206 => (.opt (cellB e199 7) fun y207 => (.opt (cellB e199 8) fun y208 => (.opt (cellI .i64 e199 9) fun y209 => (.opt (cellI .i64 e199 10) fun y210 => (.opt (cellB e199 11) fun y211 => (.opt (cellB e199 12) fun y212 => (.opt (cellL e199 13) fun y213 => (.opt (F_laws_eqFNode n y185 y186 y187 y188 y189 y190 y191 y192 y193 y194 y195 y196 y197 y198 y200 y201 y202 y203 y204 y205 y206 y207 y208 y209 y210 y211 y212 y213) fun r214 => (.ask ((!r214)) (.done (.inr (.inl (false)))) (.done (.inl (v.1, v.2.1, (IntKind.i64.wrap (v.2.2 + (1 : Int)))))))))))))))))))))) .fail)) .fail))))))))))))))) .fail)) .fail) (.done (.inr (.inr (())))))
def D_laws_eqFNodeS_29 : ((Bool) ⊕ (Unit)) → Ex × St := fun | .inl r => (.ret, ⟨[(4, (.c (.p (.b r))))], [], []⟩) | .inr r => (fun r => ((.exit 0), ⟨[], [], []⟩)) r
def DT_laws_eqFNodeS_29 : ((Bool) ⊕ (Unit)) → Tr (Ex × St) := fun r => .alt r (fun r => .done (.ret, ⟨[(4, (.c (.p (.b r))))], [], []⟩)) (fun r => .done ((.exit 0), ⟨[], [], []⟩))
def VH_laws_eqFNodeS_29 : Cont3 → Option ((List (List PV)) × (List (List PV)) × Int)
  | ([[[.r w0]], [[.r w1]], [[.i w2]]], [], []) => some (w0, w1, w2)
  | _ => none
abbrev LE_laws_eqFNodeS_29 (n : Nat) : St → Tr (Ex × St) := lent (S_laws_eqFNodeS_29 ([], [], 0)) VH_laws_eqFNodeS_29 (B_laws_eqFNodeS_29 n) DT_laws_eqFNodeS_29 n
abbrev LT_laws_eqFNodeS (n : Nat) : LTab := mkLT [(29, LE_laws_eqFNodeS_29 n)]
def T_laws_eqFNodeS (n : Nat) (x0 : List (List PV)) (x1 : List (List PV)) : Tr (Bool) := (.ask (((x0.length : Int) != (x1.length : Int))) (.done false) (.opt (loopF (B_laws_eqFNodeS_29 n) n (x0, x1, (0 : Int))) fun r215 => (.alt r215 (fun r216 => (.done r216)) (fun r217 => (.done true)))))
def F_laws_eqFNodeS : Nat → List (List PV) → List (List PV) → Option (Bool)
  | 0, _, _ => none
  | n + 1, x0, x1 => (T_laws_eqFNodeS n x0 x1).run
theorem ft_laws_eqFNodeS (n : Nat) (x0 : List (List PV)) (x1 : List (List PV)) : funT (CT_laws_eqFNodeS n) (LT_laws_eqFNodeS n) K_laws_eqFNodeS (A_laws_eqFNodeS x0 x1) (U_laws_eqFNodeS x0 x1) = (T_laws_eqFNodeS n x0 x1).bind fun r => .done (O_laws_eqFNodeS r) := by kernel_rfl
theorem ct_laws_eqFNodeS (n : Nat) : CTok (CT_laws_eqFNodeS n) (runs KP lib n) := mkCT_cons (eo_laws_eqFNode n (noEnt_ok)) (mkCT_nil)
theorem lt_laws_eqFNodeS_29 (n : Nat) (v : (List (List PV)) × (List (List PV)) × Int) : (evalCT (CT_laws_eqFNodeS n) (mkLT []) K_laws_eqFNodeS_L29 (S_laws_eqFNodeS_29 v) []).bind (ltail [0, 1, 5] [(.ret, [4]), ((.exit 0), [])]) = (B_laws_eqFNodeS_29 n v).bind (lenc S_laws_eqFNodeS_29 D_laws_eqFNodeS_29) := by
  obtain ⟨w0, w1, w2⟩ := v
  kernel_rfl
theorem le_laws_eqFNodeS_29 (n : Nat) : LEok (runs KP lib n) n (29, [0, 1, 5], [(.ret, [4]), ((.exit 0), [])], K_laws_eqFNodeS_L29) (LE_laws_eqFNodeS_29 n) := fun st e s h =>
  lent_ok (ct_laws_eqFNodeS n) (noLoops rfl) (lt_laws_eqFNodeS_29 n) (fun r => by
    rcases r with r | r <;> (intro h; cases h)) (fun r y h => by
    rcases r with r | r <;> (cases h; rfl)) (fun hs v h => by
    unfold VH_laws_eqFNodeS_29 at h
    split at h <;> cases h
    rfl) h
theorem lo_laws_eqFNodeS (n : Nat) : LTok (LT_laws_eqFNodeS n) (runs KP lib n) n K_laws_eqFNodeS.body := mkLT_ok (by
  intro x hx
  have hx : x ∈ ([(29, [0, 1, 5], [(.ret, [4]), ((.exit 0), [])], K_laws_eqFNodeS_L29)] : List (Nat × List Nat × List (Ex × List Nat) × KCode)) := hx
  simp only [List.mem_cons, List.not_mem_nil, or_false] at hx
  rcases hx with rfl
  · exact ⟨LE_laws_eqFNodeS_29 n, fun st => rfl, le_laws_eqFNodeS_29 n⟩)
theorem th_laws_eqFNodeS : ∀ (n : Nat) (x0 : List (List PV)) (x1 : List (List PV)) (r : Bool), F_laws_eqFNodeS n x0 x1 = some r → runs KP lib n 40 (A_laws_eqFNodeS x0 x1) (U_laws_eqFNodeS x0 x1) = some (O_laws_eqFNodeS r)
  | 0, x0, x1, r, h => by cases h
  | n + 1, x0, x1, r, h => fun_step (kf := K_laws_eqFNodeS) rfl (ct_laws_eqFNodeS n) (lo_laws_eqFNodeS n) (ft_laws_eqFNodeS n x0 x1) h
def FH_laws_eqFNodeS (n : Nat) : Cont → Option (Bool)
  | ([[[.r x0]], [[.r x1]]], []) => F_laws_eqFNodeS n x0 x1
  | _ => none
def E_laws_eqFNodeS (n : Nat) (d : List AV → List Go.Eng.Frame → Tr Res) : List AV → List Go.Eng.Frame → Tr Res := cent (A_laws_eqFNodeS ([]) ([])) (U_laws_eqFNodeS ([]) ([])) (FH_laws_eqFNodeS n) O_laws_eqFNodeS d
theorem eo_laws_eqFNodeS (n : Nat) {d : List AV → List Go.Eng.Frame → Tr Res} (hd : ∀ ar up r, (d ar up).run = some r → runs KP lib n 40 ar up = some r) : ∀ ar up r, (E_laws_eqFNodeS n d ar up).run = some r → runs KP lib n 40 ar up = some r :=
  cent_ok (fun hs r h => by
    unfold FH_laws_eqFNodeS at h
    split at h
    · exact ⟨A_laws_eqFNodeS _ _, U_laws_eqFNodeS _ _, rfl, rfl, th_laws_eqFNodeS n _ _ r h⟩
    · cases h) hd
/-! ### laws.FnExactFormulaOk -/
def A_laws_FnExactFormulaOk (x0 : List (List PV)) : List AV := [(.c (.p (.ls x0)))]
def U_laws_FnExactFormulaOk (x0 : List (List PV)) : List Go.Eng.Frame := []
def O_laws_FnExactFormulaOk (r : Bool) : Res := ⟨(.c (.p (.b r))), [], []⟩
abbrev CT_laws_FnExactFormulaOk (n : Nat) : CTab := mkCT [(36, E_laws_szFNodeS n (noEnt)), (38, E_laws_toFNodeS n (noEnt)), (37, E_spec_FormulaOk n (noEnt)), (39, E_impl_FormulaOk n (noEnt)), (40, E_laws_eqFNodeS n (noEnt))]
abbrev LT_laws_FnExactFormulaOk (n : Nat) : LTab := mkLT []
def T_laws_FnExactFormulaOk (n : Nat) (x0 : List (List PV)) : Tr (Bool) := (.opt (F_laws_szFNodeS n x0 (1048576 : Int)) fun r20 => (.ask ((decide (r20 < (0 : Int)))) (.done true) (.opt (F_laws_toFNodeS n x0) fun r39 => (.ask (decide (r39.1 = r39.2.length)) (.opt (F_spec_FormulaOk n r39.2) fun r109 => (.ask (apartR (⟨(.c (.p (.b r109))), [], []⟩ : Res)) (.opt (F_laws_toFNodeS n x0) fun r110 => (.ask (decide (r110.1 = r110.2.length)) (.opt (F_impl_FormulaOk n r110.2) fun r182 => (.ask (apartR (⟨(.c (.p (.b r182))), [], []⟩ : Res)) (.ask ((!(r182 == r109))) (.done false) (.opt (F_laws_toFNodeS n x0) fun r183 => (.ask (decide (r110.1 = r110.2.length)) (.ask (decide (r183.1 = r183.2.length)) (.opt (F_laws_eqFNodeS n r110.2 r183.2) fun r218 => (.ask (apartR (⟨(.c (.p (.b r218))), [], []⟩ : Res)) (.ask ((!r218)) (.done false) (.done true)) .fail)) .fail) .fail))) .fail)) .fail)) .fail)) .fail))))
def F_laws_FnExactFormulaOk : Nat → List (List PV) → Option (Bool)
  | 0, _ => none
  | n + 1, x0 => (T_laws_FnExactFormulaOk n x0).run
theorem ft_laws_FnExactFormulaOk (n : Nat) (x0 : List (List PV)) : funT (CT_laws_FnExactFormulaOk n) (LT_laws_FnExactFormulaOk n) K_laws_FnExactFormulaOk (A_laws_FnExactFormulaOk x0) (U_laws_FnExactFormulaOk x0) = (T_laws_FnExactFormulaOk n x0).bind fun r => .done (O_laws_FnExactFormulaOk r) := by kernel_rfl
theorem ct_laws_FnExactFormulaOk (n : Nat) : CTok (CT_laws_FnExactFormulaOk n) (runs KP lib n) := mkCT_cons (eo_laws_szFNodeS n (noEnt_ok)) (mkCT_cons (eo_laws_toFNodeS n (noEnt_ok)) (mkCT_cons (eo_spec_FormulaOk n (noEnt_ok)) (mkCT_cons (eo_impl_FormulaOk n (noEnt_ok)) (mkCT_cons (eo_laws_eqFNodeS n (noEnt_ok)) (mkCT_nil)))))
theorem th_laws_FnExactFormulaOk : ∀ (n : Nat) (x0 : List (List PV)) (r : Bool), F_laws_FnExactFormulaOk n x0 = some r → runs KP lib n 7 (A_laws_FnExactFormulaOk x0) (U_laws_FnExactFormulaOk x0) = some (O_laws_FnExactFormulaOk r)
  | 0, x0, r, h => by cases h
  | n + 1, x0, r, h => fun_step (kf := K_laws_FnExactFormulaOk) rfl (ct_laws_FnExactFormulaOk n) (noLoops rfl) (ft_laws_FnExactFormulaOk n x0) h
def FH_laws_FnExactFormulaOk (n : Nat) : Cont → Option (Bool)
  | ([[[.r x0]]], []) => F_laws_FnExactFormulaOk n x0
  | _ => none
def E_laws_FnExactFormulaOk (n : Nat) (d : List AV → List Go.Eng.Frame → Tr Res) : List AV → List Go.Eng.Frame → Tr Res := cent (A_laws_FnExactFormulaOk ([])) (U_laws_FnExactFormulaOk ([])) (FH_laws_FnExactFormulaOk n) O_laws_FnExactFormulaOk d
theorem eo_laws_FnExactFormulaOk (n : Nat) {d : List AV → List Go.Eng.Frame → Tr Res} (hd : ∀ ar up r, (d ar up).run = some r → runs KP lib n 7 ar up = some r) : ∀ ar up r, (E_laws_FnExactFormulaOk n d ar up).run = some r → runs KP lib n 7 ar up = some r :=
  cent_ok (fun hs r h => by
    unfold FH_laws_FnExactFormulaOk at h
    split at h
    · exact ⟨A_laws_FnExactFormulaOk _, U_laws_FnExactFormulaOk _, rfl, rfl, th_laws_FnExactFormulaOk n _ r h⟩
    · cases h) hd
end Go.Proofs.Ytaannlnlddbgdab.KFnExactFormulaOk
