/-
  The trees of what FnExactFormulaText calls: plain functions, and that the engine reckons just these. No condition.
-/
import Derived.Test.YtaannlnlddbgdabDoorKFnExactFormulaText
import Derived.Test.YtaannlnlddbgdabDoorE33
import Derived.KernelRfl
namespace Go.Proofs.YtaannlnlddbgdabDoor.KFnExactFormulaText
open Go.Eng
set_option linter.unusedVariables false
set_option maxRecDepth 100000
def lib : FuncId → List AV → Option AV := libCons 52 Q_strconv_FormatInt (libCons 77 Q_strings_ReplaceAll (libCons 82 Q_strings_Join (libNil)))
/-! ### laws.szValue -/
def A_laws_szValue (x0 : Int) (x1 : Int) (x2 : ByteArray) (x3 : Int) : List AV := [(.agg [(.p (.i .i64 x0)), (.p (.i .i64 x1)), (.p (.s x2))]), (.c (.p (.i .i64 x3)))]
def U_laws_szValue (x0 : Int) (x1 : Int) (x2 : ByteArray) (x3 : Int) : List Go.Eng.Frame := []
def O_laws_szValue (r : Int) : Res := ⟨(.c (.p (.i .i64 r))), [], []⟩
abbrev CT_laws_szValue (n : Nat) : CTab := mkCT []
abbrev LT_laws_szValue (n : Nat) : LTab := mkLT []
def T_laws_szValue (n : Nat) (x0 : Int) (x1 : Int) (x2 : ByteArray) (x3 : Int) : Tr (Int) := (.ask ((decide ((IntKind.i64.wrap (x3 - (x2.size : Int))) < (0 : Int)))) (.done (-1 : Int)) (.done (IntKind.i64.wrap (x3 - (x2.size : Int)))))
def F_laws_szValue : Nat → Int → Int → ByteArray → Int → Option (Int)
  | 0, _, _, _, _ => none
  | n + 1, x0, x1, x2, x3 => (T_laws_szValue n x0 x1 x2 x3).run
theorem ft_laws_szValue (n : Nat) (x0 : Int) (x1 : Int) (x2 : ByteArray) (x3 : Int) : funT (CT_laws_szValue n) (LT_laws_szValue n) K_laws_szValue (A_laws_szValue x0 x1 x2 x3) (U_laws_szValue x0 x1 x2 x3) = (T_laws_szValue n x0 x1 x2 x3).bind fun r => .done (O_laws_szValue r) := by kernel_rfl
theorem ct_laws_szValue (n : Nat) : CTok (CT_laws_szValue n) (runs KP lib n) := mkCT_nil
theorem th_laws_szValue : ∀ (n : Nat) (x0 : Int) (x1 : Int) (x2 : ByteArray) (x3 : Int) (r : Int), F_laws_szValue n x0 x1 x2 x3 = some r → runs KP lib n 64 (A_laws_szValue x0 x1 x2 x3) (U_laws_szValue x0 x1 x2 x3) = some (O_laws_szValue r)
  | 0, x0, x1, x2, x3, r, h => by cases h
  | n + 1, x0, x1, x2, x3, r, h => fun_step (kf := K_laws_szValue) rfl (ct_laws_szValue n) (noLoops rfl) (ft_laws_szValue n x0 x1 x2 x3) h
def FH_laws_szValue (n : Nat) : Cont → Option (Int)
  | ([[[.i x0], [.i x1], [.s x2]], [[.i x3]]], []) => F_laws_szValue n x0 x1 x2 x3
  | _ => none
def E_laws_szValue (n : Nat) (d : List AV → List Go.Eng.Frame → Tr Res) : List AV → List Go.Eng.Frame → Tr Res := cent (A_laws_szValue (0) (0) (⟨#[]⟩) (0)) (U_laws_szValue (0) (0) (⟨#[]⟩) (0)) (FH_laws_szValue n) O_laws_szValue d
theorem eo_laws_szValue (n : Nat) {d : List AV → List Go.Eng.Frame → Tr Res} (hd : ∀ ar up r, (d ar up).run = some r → runs KP lib n 64 ar up = some r) : ∀ ar up r, (E_laws_szValue n d ar up).run = some r → runs KP lib n 64 ar up = some r :=
  cent_ok (fun hs r h => by
    unfold FH_laws_szValue at h
    split at h
    · exact ⟨A_laws_szValue _ _ _ _, U_laws_szValue _ _ _ _, rfl, rfl, th_laws_szValue n _ _ _ _ r h⟩
    · cases h) hd
/-! ### laws.szInt64S -/
def A_laws_szInt64S (x0 : List (List PV)) (x1 : Int) : List AV := [(.c (.p (.ls x0))), (.c (.p (.i .i64 x1)))]
def U_laws_szInt64S (x0 : List (List PV)) (x1 : Int) : List Go.Eng.Frame := []
def O_laws_szInt64S (r : Int) : Res := ⟨(.c (.p (.i .i64 r))), [], []⟩
abbrev CT_laws_szInt64S (n : Nat) : CTab := mkCT []
abbrev LT_laws_szInt64S (n : Nat) : LTab := mkLT []
def T_laws_szInt64S (n : Nat) (x0 : List (List PV)) (x1 : Int) : Tr (Int) := (.ask ((decide ((IntKind.i64.wrap (x1 - (x0.length : Int))) < (0 : Int)))) (.done (-1 : Int)) (.done (IntKind.i64.wrap (x1 - (x0.length : Int)))))
def F_laws_szInt64S : Nat → List (List PV) → Int → Option (Int)
  | 0, _, _ => none
  | n + 1, x0, x1 => (T_laws_szInt64S n x0 x1).run
theorem ft_laws_szInt64S (n : Nat) (x0 : List (List PV)) (x1 : Int) : funT (CT_laws_szInt64S n) (LT_laws_szInt64S n) K_laws_szInt64S (A_laws_szInt64S x0 x1) (U_laws_szInt64S x0 x1) = (T_laws_szInt64S n x0 x1).bind fun r => .done (O_laws_szInt64S r) := by kernel_rfl
theorem ct_laws_szInt64S (n : Nat) : CTok (CT_laws_szInt64S n) (runs KP lib n) := mkCT_nil
theorem th_laws_szInt64S : ∀ (n : Nat) (x0 : List (List PV)) (x1 : Int) (r : Int), F_laws_szInt64S n x0 x1 = some r → runs KP lib n 65 (A_laws_szInt64S x0 x1) (U_laws_szInt64S x0 x1) = some (O_laws_szInt64S r)
  | 0, x0, x1, r, h => by cases h
  | n + 1, x0, x1, r, h => fun_step (kf := K_laws_szInt64S) rfl (ct_laws_szInt64S n) (noLoops rfl) (ft_laws_szInt64S n x0 x1) h
def FH_laws_szInt64S (n : Nat) : Cont → Option (Int)
  | ([[[.r x0]], [[.i x1]]], []) => F_laws_szInt64S n x0 x1
  | _ => none
def E_laws_szInt64S (n : Nat) (d : List AV → List Go.Eng.Frame → Tr Res) : List AV → List Go.Eng.Frame → Tr Res := cent (A_laws_szInt64S ([]) (0)) (U_laws_szInt64S ([]) (0)) (FH_laws_szInt64S n) O_laws_szInt64S d
theorem eo_laws_szInt64S (n : Nat) {d : List AV → List Go.Eng.Frame → Tr Res} (hd : ∀ ar up r, (d ar up).run = some r → runs KP lib n 65 ar up = some r) : ∀ ar up r, (E_laws_szInt64S n d ar up).run = some r → runs KP lib n 65 ar up = some r :=
  cent_ok (fun hs r h => by
    unfold FH_laws_szInt64S at h
    split at h
    · exact ⟨A_laws_szInt64S _ _, U_laws_szInt64S _ _, rfl, rfl, th_laws_szInt64S n _ _ r h⟩
    · cases h) hd
/-! ### laws.szFNode -/
def A_laws_szFNode (x0 : Int) (x1 : Int) (x2 : Int) (x3 : Int) (x4 : ByteArray) (x5 : Int) (x6 : Int) (x7 : Bool) (x8 : Bool) (x9 : Int) (x10 : Int) (x11 : Bool) (x12 : Bool) (x13 : List (List PV)) (x14 : Int) : List AV := [(.agg [(.p (.i .i64 x0)), (.p (.i .i64 x1)), (.p (.i .i64 x2)), (.p (.i .i64 x3)), (.p (.s x4)), (.p (.i .i64 x5)), (.p (.i .i64 x6)), (.p (.b x7)), (.p (.b x8)), (.p (.i .i64 x9)), (.p (.i .i64 x10)), (.p (.b x11)), (.p (.b x12)), (.p (.ls x13))]), (.c (.p (.i .i64 x14)))]
def U_laws_szFNode (x0 : Int) (x1 : Int) (x2 : Int) (x3 : Int) (x4 : ByteArray) (x5 : Int) (x6 : Int) (x7 : Bool) (x8 : Bool) (x9 : Int) (x10 : Int) (x11 : Bool) (x12 : Bool) (x13 : List (List PV)) (x14 : Int) : List Go.Eng.Frame := []
def O_laws_szFNode (r : Int) : Res := ⟨(.c (.p (.i .i64 r))), [], []⟩
abbrev CT_laws_szFNode (n : Nat) : CTab := mkCT [(64, E_laws_szValue n (noEnt)), (65, E_laws_szInt64S n (noEnt))]
abbrev LT_laws_szFNode (n : Nat) : LTab := mkLT []
def T_laws_szFNode (n : Nat) (x0 : Int) (x1 : Int) (x2 : Int) (x3 : Int) (x4 : ByteArray) (x5 : Int) (x6 : Int) (x7 : Bool) (x8 : Bool) (x9 : Int) (x10 : Int) (x11 : Bool) (x12 : Bool) (x13 : List (List PV)) (x14 : Int) : Tr (Int) := (.opt (F_laws_szValue n x2 x3 x4 x14) fun r16 => (.ask ((decide (r16 < (0 : Int)))) (.done (-1 : Int)) (.opt (F_laws_szInt64S n x13 r16) fun r17 => (.ask ((decide (r17 < (0 : Int)))) (.done (-1 : Int)) (.done r17)))))
def F_laws_szFNode : Nat → Int → Int → Int → Int → ByteArray → Int → Int → Bool → Bool → Int → Int → Bool → Bool → List (List PV) → Int → Option (Int)
  | 0, _, _, _, _, _, _, _, _, _, _, _, _, _, _, _ => none
  | n + 1, x0, x1, x2, x3, x4, x5, x6, x7, x8, x9, x10, x11, x12, x13, x14 => (T_laws_szFNode n x0 x1 x2 x3 x4 x5 x6 x7 x8 x9 x10 x11 x12 x13 x14).run
theorem ft_laws_szFNode (n : Nat) (x0 : Int) (x1 : Int) (x2 : Int) (x3 : Int) (x4 : ByteArray) (x5 : Int) (x6 : Int) (x7 : Bool) (x8 : Bool) (x9 : Int) (x10 : Int) (x11 : Bool) (x12 : Bool) (x13 : List (List PV)) (x14 : Int) : funT (CT_laws_szFNode n) (LT_laws_szFNode n) K_laws_szFNode (A_laws_szFNode x0 x1 x2 x3 x4 x5 x6 x7 x8 x9 x10 x11 x12 x13 x14) (U_laws_szFNode x0 x1 x2 x3 x4 x5 x6 x7 x8 x9 x10 x11 x12 x13 x14) = (T_laws_szFNode n x0 x1 x2 x3 x4 x5 x6 x7 x8 x9 x10 x11 x12 x13 x14).bind fun r => .done (O_laws_szFNode r) := by kernel_rfl
theorem ct_laws_szFNode (n : Nat) : CTok (CT_laws_szFNode n) (runs KP lib n) := mkCT_cons (eo_laws_szValue n (noEnt_ok)) (mkCT_cons (eo_laws_szInt64S n (noEnt_ok)) (mkCT_nil))
theorem th_laws_szFNode : ∀ (n : Nat) (x0 : Int) (x1 : Int) (x2 : Int) (x3 : Int) (x4 : ByteArray) (x5 : Int) (x6 : Int) (x7 : Bool) (x8 : Bool) (x9 : Int) (x10 : Int) (x11 : Bool) (x12 : Bool) (x13 : List (List PV)) (x14 : Int) (r : Int), F_laws_szFNode n x0 x1 x2 x3 x4 x5 x6 x7 x8 x9 x10 x11 x12 x13 x14 = some r → runs KP lib n 45 (A_laws_szFNode x0 x1 x2 x3 x4 x5 x6 x7 x8 x9 x10 x11 x12 x13 x14) (U_laws_szFNode x0 x1 x2 x3 x4 x5 x6 x7 x8 x9 x10 x11 x12 x13 x14) = some (O_laws_szFNode r)
  | 0, x0, x1, x2, x3, x4, x5, x6, x7, x8, x9, x10, x11, x12, x13, x14, r, h => by cases h
  | n + 1, x0, x1, x2, x3, x4, x5, x6, x7, x8, x9, x10, x11, x12, x13, x14, r, h => fun_step (kf := K_laws_szFNode) rfl (ct_laws_szFNode n) (noLoops rfl) (ft_laws_szFNode n x0 x1 x2 x3 x4 x5 x6 x7 x8 x9 x10 x11 x12 x13 x14) h
def FH_laws_szFNode (n : Nat) : Cont → Option (Int)
  | ([[[.i x0], [.i x1], [.i x2], [.i x3], [.s x4], [.i x5], [.i x6], [.b x7], [.b x8], [.i x9], [.i x10], [.b x11], [.b x12], [.r x13]], [[.i x14]]], []) => F_laws_szFNode n x0 x1 x2 x3 x4 x5 x6 x7 x8 x9 x10 x11 x12 x13 x14
  | _ => none
def E_laws_szFNode (n : Nat) (d : List AV → List Go.Eng.Frame → Tr Res) : List AV → List Go.Eng.Frame → Tr Res := cent (A_laws_szFNode (0) (0) (0) (0) (⟨#[]⟩) (0) (0) (false) (false) (0) (0) (false) (false) ([]) (0)) (U_laws_szFNode (0) (0) (0) (0) (⟨#[]⟩) (0) (0) (false) (false) (0) (0) (false) (false) ([]) (0)) (FH_laws_szFNode n) O_laws_szFNode d
theorem eo_laws_szFNode (n : Nat) {d : List AV → List Go.Eng.Frame → Tr Res} (hd : ∀ ar up r, (d ar up).run = some r → runs KP lib n 45 ar up = some r) : ∀ ar up r, (E_laws_szFNode n d ar up).run = some r → runs KP lib n 45 ar up = some r :=
  cent_ok (fun hs r h => by
    unfold FH_laws_szFNode at h
    split at h
    · exact ⟨A_laws_szFNode _ _ _ _ _ _ _ _ _ _ _ _ _ _ _, U_laws_szFNode _ _ _ _ _ _ _ _ _ _ _ _ _ _ _, rfl, rfl, th_laws_szFNode n _ _ _ _ _ _ _ _ _ _ _ _ _ _ _ r h⟩
    · cases h) hd
/-! ### laws.szFNodeS -/
def A_laws_szFNodeS (x0 : List (List PV)) (x1 : Int) : List AV := [(.c (.p (.ls x0))), (.c (.p (.i .i64 x1)))]
def U_laws_szFNodeS (x0 : List (List PV)) (x1 : Int) : List Go.Eng.Frame := []
def O_laws_szFNodeS (r : Int) : Res := ⟨(.c (.p (.i .i64 r))), [], []⟩
abbrev CT_laws_szFNodeS (n : Nat) : CTab := mkCT [(45, E_laws_szFNode n (noEnt))]
def S_laws_szFNodeS_61 (v : (List (List PV)) × Int × Int) : St := ⟨[(0, (.c (.p (.ls v.1)))), (1, (.c (.p (.i .i64 v.2.1)))), (5, (.c (.p (.i .i64 v.2.2))))], [], []⟩
def B_laws_szFNodeS_61 (n : Nat) (v : (List (List PV)) × Int × Int) : Tr (((List (List PV)) × Int × Int) ⊕ ((Int) ⊕ (Int))) := (.ask ((decide (v.2.2 < (v.1.length : Int)))) (.ask (decide (0 ≤ v.2.2 ∧ v.2.2 < v.1.length)) (.opt (v.1[(v.2.2).toNat]?) fun e1 => (.ask (decide (e1.length = 14)) (.opt (cellI .i64 e1 0) fun y2 => (.opt (cellI .i64 e1 1) fun y3 => (.opt (cellI .i64 e1 2) fun y4 => (.opt (cellI .i64 e1 3) fun y5 => (.opt (cellS e1 4) fun y6 => (.opt (cellI .i64 e1 5) fun y7 => (.opt (cellI .i64 e1 6) fun y8 => (.opt (cellB e1 7) fun y9 => (.opt (cellB e1 8) fun y10 => (.opt (cellI .i64 e1 9) fun y11 => (.opt (cellI .i64 e1 10) fun y12 => (.opt (cellB e1 11) fun y13 => (.opt (cellB e1 12) fun y14 => (.opt (cellL e1 13) fun y15 => (.opt (F_laws_szFNode n y2 y3 y4 y5 y6 y7 y8 y9 y10 y11 y12 y13 y14 y15 v.2.1) fun r16 => (.ask ((decide (r16 < (0 : Int)))) (.done (.inr (.inl ((-1 : Int))))) (.done (.inl (v.1, r16, (IntKind.i64.wrap (v.2.2 + (1 : Int)))))))))))))))))))))) .fail)) .fail) (.done (.inr (.inr (v.2.1)))))
def D_laws_szFNodeS_61 : ((Int) ⊕ (Int)) → Ex × St := fun | .inl r => (.ret, ⟨[(4, (.c (.p (.i .i64 r))))], [], []⟩) | .inr r => (fun r => ((.exit 0), ⟨[(1, (.c (.p (.i .i64 r))))], [], []⟩)) r
def DT_laws_szFNodeS_61 : ((Int) ⊕ (Int)) → Tr (Ex × St) := fun r => .alt r (fun r => .done (.ret, ⟨[(4, (.c (.p (.i .i64 r))))], [], []⟩)) (fun r => .done ((.exit 0), ⟨[(1, (.c (.p (.i .i64 r))))], [], []⟩))
def VH_laws_szFNodeS_61 : Cont3 → Option ((List (List PV)) × Int × Int)
  | ([[[.r w0]], [[.i w1]], [[.i w2]]], [], []) => some (w0, w1, w2)
  | _ => none
abbrev LE_laws_szFNodeS_61 (n : Nat) : St → Tr (Ex × St) := lent (S_laws_szFNodeS_61 ([], 0, 0)) VH_laws_szFNodeS_61 (B_laws_szFNodeS_61 n) DT_laws_szFNodeS_61 n
abbrev LT_laws_szFNodeS (n : Nat) : LTab := mkLT [(61, LE_laws_szFNodeS_61 n)]
def T_laws_szFNodeS (n : Nat) (x0 : List (List PV)) (x1 : Int) : Tr (Int) := (.ask ((decide ((IntKind.i64.wrap (x1 - (x0.length : Int))) < (0 : Int)))) (.done (-1 : Int)) (.opt (loopF (B_laws_szFNodeS_61 n) n (x0, (IntKind.i64.wrap (x1 - (x0.length : Int))), (0 : Int))) fun r17 => (.alt r17 (fun r18 => (.done r18)) (fun r19 => (.done r19)))))
def F_laws_szFNodeS : Nat → List (List PV) → Int → Option (Int)
  | 0, _, _ => none
  | n + 1, x0, x1 => (T_laws_szFNodeS n x0 x1).run
theorem ft_laws_szFNodeS (n : Nat) (x0 : List (List PV)) (x1 : Int) : funT (CT_laws_szFNodeS n) (LT_laws_szFNodeS n) K_laws_szFNodeS (A_laws_szFNodeS x0 x1) (U_laws_szFNodeS x0 x1) = (T_laws_szFNodeS n x0 x1).bind fun r => .done (O_laws_szFNodeS r) := by kernel_rfl
theorem ct_laws_szFNodeS (n : Nat) : CTok (CT_laws_szFNodeS n) (runs KP lib n) := mkCT_cons (eo_laws_szFNode n (noEnt_ok)) (mkCT_nil)
theorem lt_laws_szFNodeS_61 (n : Nat) (v : (List (List PV)) × Int × Int) : (evalCT (CT_laws_szFNodeS n) (mkLT []) K_laws_szFNodeS_L61 (S_laws_szFNodeS_61 v) []).bind (ltail [0, 1, 5] [(.ret, [4]), ((.exit 0), [1])]) = (B_laws_szFNodeS_61 n v).bind (lenc S_laws_szFNodeS_61 D_laws_szFNodeS_61) := by
  obtain ⟨w0, w1, w2⟩ := v
  kernel_rfl
theorem le_laws_szFNodeS_61 (n : Nat) : LEok (runs KP lib n) n (61, [0, 1, 5], [(.ret, [4]), ((.exit 0), [1])], K_laws_szFNodeS_L61) (LE_laws_szFNodeS_61 n) := fun st e s h =>
  lent_ok (ct_laws_szFNodeS n) (noLoops rfl) (lt_laws_szFNodeS_61 n) (fun r => by
    rcases r with r | r <;> (intro h; cases h)) (fun r y h => by
    rcases r with r | r <;> (cases h; rfl)) (fun hs v h => by
    unfold VH_laws_szFNodeS_61 at h
    split at h <;> cases h
    rfl) h
theorem lo_laws_szFNodeS (n : Nat) : LTok (LT_laws_szFNodeS n) (runs KP lib n) n K_laws_szFNodeS.body := mkLT_ok (by
  intro x hx
  have hx : x ∈ ([(61, [0, 1, 5], [(.ret, [4]), ((.exit 0), [1])], K_laws_szFNodeS_L61)] : List (Nat × List Nat × List (Ex × List Nat) × KCode)) := hx
  simp only [List.mem_cons, List.not_mem_nil, or_false] at hx
  rcases hx with rfl
  · exact ⟨LE_laws_szFNodeS_61 n, fun st => rfl, le_laws_szFNodeS_61 n⟩)
theorem th_laws_szFNodeS : ∀ (n : Nat) (x0 : List (List PV)) (x1 : Int) (r : Int), F_laws_szFNodeS n x0 x1 = some r → runs KP lib n 23 (A_laws_szFNodeS x0 x1) (U_laws_szFNodeS x0 x1) = some (O_laws_szFNodeS r)
  | 0, x0, x1, r, h => by cases h
  | n + 1, x0, x1, r, h => fun_step (kf := K_laws_szFNodeS) rfl (ct_laws_szFNodeS n) (lo_laws_szFNodeS n) (ft_laws_szFNodeS n x0 x1) h
def FH_laws_szFNodeS (n : Nat) : Cont → Option (Int)
  | ([[[.r x0]], [[.i x1]]], []) => F_laws_szFNodeS n x0 x1
  | _ => none
def E_laws_szFNodeS (n : Nat) (d : List AV → List Go.Eng.Frame → Tr Res) : List AV → List Go.Eng.Frame → Tr Res := cent (A_laws_szFNodeS ([]) (0)) (U_laws_szFNodeS ([]) (0)) (FH_laws_szFNodeS n) O_laws_szFNodeS d
theorem eo_laws_szFNodeS (n : Nat) {d : List AV → List Go.Eng.Frame → Tr Res} (hd : ∀ ar up r, (d ar up).run = some r → runs KP lib n 23 ar up = some r) : ∀ ar up r, (E_laws_szFNodeS n d ar up).run = some r → runs KP lib n 23 ar up = some r :=
  cent_ok (fun hs r h => by
    unfold FH_laws_szFNodeS at h
    split at h
    · exact ⟨A_laws_szFNodeS _ _, U_laws_szFNodeS _ _, rfl, rfl, th_laws_szFNodeS n _ _ r h⟩
    · cases h) hd
/-! ### laws.toValue -/
def A_laws_toValue (x0 : Int) (x1 : Int) (x2 : ByteArray) : List AV := [(.agg [(.p (.i .i64 x0)), (.p (.i .i64 x1)), (.p (.s x2))])]
def U_laws_toValue (x0 : Int) (x1 : Int) (x2 : ByteArray) : List Go.Eng.Frame := []
def O_laws_toValue (r : Int × Int × ByteArray) : Res := ⟨(.agg [(.p (.i .i64 r.1)), (.p (.i .i64 r.2.1)), (.p (.s r.2.2))]), [], []⟩
abbrev CT_laws_toValue (n : Nat) : CTab := mkCT []
abbrev LT_laws_toValue (n : Nat) : LTab := mkLT []
def T_laws_toValue (n : Nat) (x0 : Int) (x1 : Int) (x2 : ByteArray) : Tr (Int × Int × ByteArray) := (.done (x0, x1, x2))
def F_laws_toValue : Nat → Int → Int → ByteArray → Option (Int × Int × ByteArray)
  | 0, _, _, _ => none
  | n + 1, x0, x1, x2 => (T_laws_toValue n x0 x1 x2).run
theorem ft_laws_toValue (n : Nat) (x0 : Int) (x1 : Int) (x2 : ByteArray) : funT (CT_laws_toValue n) (LT_laws_toValue n) K_laws_toValue (A_laws_toValue x0 x1 x2) (U_laws_toValue x0 x1 x2) = (T_laws_toValue n x0 x1 x2).bind fun r => .done (O_laws_toValue r) := by kernel_rfl
theorem ct_laws_toValue (n : Nat) : CTok (CT_laws_toValue n) (runs KP lib n) := mkCT_nil
theorem th_laws_toValue : ∀ (n : Nat) (x0 : Int) (x1 : Int) (x2 : ByteArray) (r : Int × Int × ByteArray), F_laws_toValue n x0 x1 x2 = some r → runs KP lib n 74 (A_laws_toValue x0 x1 x2) (U_laws_toValue x0 x1 x2) = some (O_laws_toValue r)
  | 0, x0, x1, x2, r, h => by cases h
  | n + 1, x0, x1, x2, r, h => fun_step (kf := K_laws_toValue) rfl (ct_laws_toValue n) (noLoops rfl) (ft_laws_toValue n x0 x1 x2) h
def FH_laws_toValue (n : Nat) : Cont → Option (Int × Int × ByteArray)
  | ([[[.i x0], [.i x1], [.s x2]]], []) => F_laws_toValue n x0 x1 x2
  | _ => none
def E_laws_toValue (n : Nat) (d : List AV → List Go.Eng.Frame → Tr Res) : List AV → List Go.Eng.Frame → Tr Res := cent (A_laws_toValue (0) (0) (⟨#[]⟩)) (U_laws_toValue (0) (0) (⟨#[]⟩)) (FH_laws_toValue n) O_laws_toValue d
theorem eo_laws_toValue (n : Nat) {d : List AV → List Go.Eng.Frame → Tr Res} (hd : ∀ ar up r, (d ar up).run = some r → runs KP lib n 74 ar up = some r) : ∀ ar up r, (E_laws_toValue n d ar up).run = some r → runs KP lib n 74 ar up = some r :=
  cent_ok (fun hs r h => by
    unfold FH_laws_toValue at h
    split at h
    · exact ⟨A_laws_toValue _ _ _, U_laws_toValue _ _ _, rfl, rfl, th_laws_toValue n _ _ _ r h⟩
    · cases h) hd
/-! ### laws.toRef -/
def A_laws_toRef (x0 : Int) (x1 : Int) : List AV := [(.agg [(.p (.i .i64 x0)), (.p (.i .i64 x1))])]
def U_laws_toRef (x0 : Int) (x1 : Int) : List Go.Eng.Frame := []
def O_laws_toRef (r : Int × Int) : Res := ⟨(.agg [(.p (.i .i64 r.1)), (.p (.i .i64 r.2))]), [], []⟩
abbrev CT_laws_toRef (n : Nat) : CTab := mkCT []
abbrev LT_laws_toRef (n : Nat) : LTab := mkLT []
def T_laws_toRef (n : Nat) (x0 : Int) (x1 : Int) : Tr (Int × Int) := (.done (x0, x1))
def F_laws_toRef : Nat → Int → Int → Option (Int × Int)
  | 0, _, _ => none
  | n + 1, x0, x1 => (T_laws_toRef n x0 x1).run
theorem ft_laws_toRef (n : Nat) (x0 : Int) (x1 : Int) : funT (CT_laws_toRef n) (LT_laws_toRef n) K_laws_toRef (A_laws_toRef x0 x1) (U_laws_toRef x0 x1) = (T_laws_toRef n x0 x1).bind fun r => .done (O_laws_toRef r) := by kernel_rfl
theorem ct_laws_toRef (n : Nat) : CTok (CT_laws_toRef n) (runs KP lib n) := mkCT_nil
theorem th_laws_toRef : ∀ (n : Nat) (x0 : Int) (x1 : Int) (r : Int × Int), F_laws_toRef n x0 x1 = some r → runs KP lib n 30 (A_laws_toRef x0 x1) (U_laws_toRef x0 x1) = some (O_laws_toRef r)
  | 0, x0, x1, r, h => by cases h
  | n + 1, x0, x1, r, h => fun_step (kf := K_laws_toRef) rfl (ct_laws_toRef n) (noLoops rfl) (ft_laws_toRef n x0 x1) h
def FH_laws_toRef (n : Nat) : Cont → Option (Int × Int)
  | ([[[.i x0], [.i x1]]], []) => F_laws_toRef n x0 x1
  | _ => none
def E_laws_toRef (n : Nat) (d : List AV → List Go.Eng.Frame → Tr Res) : List AV → List Go.Eng.Frame → Tr Res := cent (A_laws_toRef (0) (0)) (U_laws_toRef (0) (0)) (FH_laws_toRef n) O_laws_toRef d
theorem eo_laws_toRef (n : Nat) {d : List AV → List Go.Eng.Frame → Tr Res} (hd : ∀ ar up r, (d ar up).run = some r → runs KP lib n 30 ar up = some r) : ∀ ar up r, (E_laws_toRef n d ar up).run = some r → runs KP lib n 30 ar up = some r :=
  cent_ok (fun hs r h => by
    unfold FH_laws_toRef at h
    split at h
    · exact ⟨A_laws_toRef _ _, U_laws_toRef _ _, rfl, rfl, th_laws_toRef n _ _ r h⟩
    · cases h) hd
/-! ### laws.toPlace -/
def A_laws_toPlace (x0 : Int) (x1 : Int) (x2 : Bool) (x3 : Bool) : List AV := [(.agg [(.p (.i .i64 x0)), (.p (.i .i64 x1)), (.p (.b x2)), (.p (.b x3))])]
def U_laws_toPlace (x0 : Int) (x1 : Int) (x2 : Bool) (x3 : Bool) : List Go.Eng.Frame := []
def O_laws_toPlace (r : Int × Int × Bool × Bool) : Res := ⟨(.agg [(.p (.i .i64 r.1)), (.p (.i .i64 r.2.1)), (.p (.b r.2.2.1)), (.p (.b r.2.2.2))]), [], []⟩
abbrev CT_laws_toPlace (n : Nat) : CTab := mkCT [(30, E_laws_toRef n (noEnt))]
abbrev LT_laws_toPlace (n : Nat) : LTab := mkLT []
def T_laws_toPlace (n : Nat) (x0 : Int) (x1 : Int) (x2 : Bool) (x3 : Bool) : Tr (Int × Int × Bool × Bool) := (.opt (F_laws_toRef n x0 x1) fun r37 => (.done (r37.1, r37.2, x2, x3)))
def F_laws_toPlace : Nat → Int → Int → Bool → Bool → Option (Int × Int × Bool × Bool)
  | 0, _, _, _, _ => none
  | n + 1, x0, x1, x2, x3 => (T_laws_toPlace n x0 x1 x2 x3).run
theorem ft_laws_toPlace (n : Nat) (x0 : Int) (x1 : Int) (x2 : Bool) (x3 : Bool) : funT (CT_laws_toPlace n) (LT_laws_toPlace n) K_laws_toPlace (A_laws_toPlace x0 x1 x2 x3) (U_laws_toPlace x0 x1 x2 x3) = (T_laws_toPlace n x0 x1 x2 x3).bind fun r => .done (O_laws_toPlace r) := by kernel_rfl
theorem ct_laws_toPlace (n : Nat) : CTok (CT_laws_toPlace n) (runs KP lib n) := mkCT_cons (eo_laws_toRef n (noEnt_ok)) (mkCT_nil)
theorem th_laws_toPlace : ∀ (n : Nat) (x0 : Int) (x1 : Int) (x2 : Bool) (x3 : Bool) (r : Int × Int × Bool × Bool), F_laws_toPlace n x0 x1 x2 x3 = some r → runs KP lib n 8 (A_laws_toPlace x0 x1 x2 x3) (U_laws_toPlace x0 x1 x2 x3) = some (O_laws_toPlace r)
  | 0, x0, x1, x2, x3, r, h => by cases h
  | n + 1, x0, x1, x2, x3, r, h => fun_step (kf := K_laws_toPlace) rfl (ct_laws_toPlace n) (noLoops rfl) (ft_laws_toPlace n x0 x1 x2 x3) h
def FH_laws_toPlace (n : Nat) : Cont → Option (Int × Int × Bool × Bool)
  | ([[[.i x0], [.i x1], [.b x2], [.b x3]]], []) => F_laws_toPlace n x0 x1 x2 x3
  | _ => none
def E_laws_toPlace (n : Nat) (d : List AV → List Go.Eng.Frame → Tr Res) : List AV → List Go.Eng.Frame → Tr Res := cent (A_laws_toPlace (0) (0) (false) (false)) (U_laws_toPlace (0) (0) (false) (false)) (FH_laws_toPlace n) O_laws_toPlace d
theorem eo_laws_toPlace (n : Nat) {d : List AV → List Go.Eng.Frame → Tr Res} (hd : ∀ ar up r, (d ar up).run = some r → runs KP lib n 8 ar up = some r) : ∀ ar up r, (E_laws_toPlace n d ar up).run = some r → runs KP lib n 8 ar up = some r :=
  cent_ok (fun hs r h => by
    unfold FH_laws_toPlace at h
    split at h
    · exact ⟨A_laws_toPlace _ _ _ _, U_laws_toPlace _ _ _ _, rfl, rfl, th_laws_toPlace n _ _ _ _ r h⟩
    · cases h) hd
/-! ### laws.toInt64S -/
def A_laws_toInt64S (x0 : List (List PV)) : List AV := [(.c (.p (.ls x0)))]
def U_laws_toInt64S (x0 : List (List PV)) : List Go.Eng.Frame := []
def O_laws_toInt64S (r : Nat × (List (List PV))) : Res := ⟨(.c (.own 0 0 0 r.1)), [], [⟨0, 1, 2, (.row r.2)⟩]⟩
abbrev CT_laws_toInt64S (n : Nat) : CTab := mkCT []
def S_laws_toInt64S_29 (v : (List (List PV)) × Nat × Int × (List (List PV))) : St := ⟨[(0, (.c (.p (.ls v.1)))), (3, (.c (.own 0 448 0 v.2.1))), (4, (.c (.p (.i .i64 v.2.2.1))))], [(448, ⟨0, 1, 2, (.row v.2.2.2)⟩)], []⟩
def B_laws_toInt64S_29 (n : Nat) (v : (List (List PV)) × Nat × Int × (List (List PV))) : Tr (((List (List PV)) × Nat × Int × (List (List PV))) ⊕ ((Nat × (List (List PV))))) := (.ask ((decide (v.2.2.1 < (v.1.length : Int)))) (.ask (decide (0 ≤ v.2.2.1 ∧ v.2.2.1 < v.1.length)) (.opt (v.1[(v.2.2.1).toNat]?) fun e40 => (.ask (decide (e40.length = 1)) (.opt (cellI .i64 e40 0) fun y41 => (.ask (decide (v.2.1 = v.2.2.2.length ∧ 0 ≤ v.2.2.1 ∧ v.2.2.1 < ((v.2.1 : Nat) : Int))) (.opt (v.2.2.2[(v.2.2.1).toNat]?) fun e42 => (.ask (decide (0 + 1 ≤ e42.length)) (.done (.inl (v.1, v.2.1, (IntKind.i64.wrap (v.2.2.1 + (1 : Int))), (v.2.2.2.set (v.2.2.1).toNat (setAt e42 0 [(.i .i64 y41)]))))) .fail)) .fail)) .fail)) .fail) (.done (.inr ((v.2.1, v.2.2.2)))))
def D_laws_toInt64S_29 : (Nat × (List (List PV))) → Ex × St := fun r => ((.exit 0), ⟨[(3, (.c (.own 0 448 0 r.1)))], [(448, ⟨0, 1, 2, (.row r.2)⟩)], []⟩)
def DT_laws_toInt64S_29 : (Nat × (List (List PV))) → Tr (Ex × St) := fun r => .done ((.exit 0), ⟨[(3, (.c (.own 0 448 0 r.1)))], [(448, ⟨0, 1, 2, (.row r.2)⟩)], []⟩)
def VH_laws_toInt64S_29 : Cont3 → Option ((List (List PV)) × Nat × Int × (List (List PV)))
  | ([[[.r w0]], [[.n w1]], [[.i w2]]], [[[.r w3]]], []) => some (w0, w1, w2, w3)
  | _ => none
abbrev LE_laws_toInt64S_29 (n : Nat) : St → Tr (Ex × St) := lent (S_laws_toInt64S_29 ([], 0, 0, [])) VH_laws_toInt64S_29 (B_laws_toInt64S_29 n) DT_laws_toInt64S_29 n
abbrev LT_laws_toInt64S (n : Nat) : LTab := mkLT [(29, LE_laws_toInt64S_29 n)]
def T_laws_toInt64S (n : Nat) (x0 : List (List PV)) : Tr (Nat × (List (List PV))) := (.ask (decide (0 ≤ (x0.length : Int) ∧ (x0.length : Int) = (x0.length : Int) ∧ 8 * (x0.length : Int) ≤ 140737488355328 ∧ (x0.length : Int) ≤ 9223372036854775807)) (.opt (loopF (B_laws_toInt64S_29 n) n (x0, ((x0.length : Int)).toNat, (0 : Int), (zrows [(.i .i64 (0 : Int))] ((x0.length : Int)).toNat))) fun r43 => (.done (r43.1, r43.2))) .fail)
def F_laws_toInt64S : Nat → List (List PV) → Option (Nat × (List (List PV)))
  | 0, _ => none
  | n + 1, x0 => (T_laws_toInt64S n x0).run
theorem ft_laws_toInt64S (n : Nat) (x0 : List (List PV)) : funT (CT_laws_toInt64S n) (LT_laws_toInt64S n) K_laws_toInt64S (A_laws_toInt64S x0) (U_laws_toInt64S x0) = (T_laws_toInt64S n x0).bind fun r => .done (O_laws_toInt64S r) := by kernel_rfl
theorem ct_laws_toInt64S (n : Nat) : CTok (CT_laws_toInt64S n) (runs KP lib n) := mkCT_nil
theorem lt_laws_toInt64S_29 (n : Nat) (v : (List (List PV)) × Nat × Int × (List (List PV))) : (evalCT (CT_laws_toInt64S n) (mkLT []) K_laws_toInt64S_L29 (S_laws_toInt64S_29 v) []).bind (ltail [0, 3, 4] [(.ret, [2]), ((.exit 0), [3])]) = (B_laws_toInt64S_29 n v).bind (lenc S_laws_toInt64S_29 D_laws_toInt64S_29) := by
  obtain ⟨w0, w1, w2, w3⟩ := v
  kernel_rfl
theorem le_laws_toInt64S_29 (n : Nat) : LEok (runs KP lib n) n (29, [0, 3, 4], [(.ret, [2]), ((.exit 0), [3])], K_laws_toInt64S_L29) (LE_laws_toInt64S_29 n) := fun st e s h =>
  lent_ok (ct_laws_toInt64S n) (noLoops rfl) (lt_laws_toInt64S_29 n) (fun r h => by cases h) (fun r y h => by cases h; rfl) (fun hs v h => by
    unfold VH_laws_toInt64S_29 at h
    split at h <;> cases h
    rfl) h
theorem lo_laws_toInt64S (n : Nat) : LTok (LT_laws_toInt64S n) (runs KP lib n) n K_laws_toInt64S.body := mkLT_ok (by
  intro x hx
  have hx : x ∈ ([(29, [0, 3, 4], [(.ret, [2]), ((.exit 0), [3])], K_laws_toInt64S_L29)] : List (Nat × List Nat × List (Ex × List Nat) × KCode)) := hx
  simp only [List.mem_cons, List.not_mem_nil, or_false] at hx
  rcases hx with rfl
  · exact ⟨LE_laws_toInt64S_29 n, fun st => rfl, le_laws_toInt64S_29 n⟩)
theorem th_laws_toInt64S : ∀ (n : Nat) (x0 : List (List PV)) (r : Nat × (List (List PV))), F_laws_toInt64S n x0 = some r → runs KP lib n 75 (A_laws_toInt64S x0) (U_laws_toInt64S x0) = some (O_laws_toInt64S r)
  | 0, x0, r, h => by cases h
  | n + 1, x0, r, h => fun_step (kf := K_laws_toInt64S) rfl (ct_laws_toInt64S n) (lo_laws_toInt64S n) (ft_laws_toInt64S n x0) h
def FH_laws_toInt64S (n : Nat) : Cont → Option (Nat × (List (List PV)))
  | ([[[.r x0]]], []) => F_laws_toInt64S n x0
  | _ => none
def E_laws_toInt64S (n : Nat) (d : List AV → List Go.Eng.Frame → Tr Res) : List AV → List Go.Eng.Frame → Tr Res := cent (A_laws_toInt64S ([])) (U_laws_toInt64S ([])) (FH_laws_toInt64S n) O_laws_toInt64S d
theorem eo_laws_toInt64S (n : Nat) {d : List AV → List Go.Eng.Frame → Tr Res} (hd : ∀ ar up r, (d ar up).run = some r → runs KP lib n 75 ar up = some r) : ∀ ar up r, (E_laws_toInt64S n d ar up).run = some r → runs KP lib n 75 ar up = some r :=
  cent_ok (fun hs r h => by
    unfold FH_laws_toInt64S at h
    split at h
    · exact ⟨A_laws_toInt64S _, U_laws_toInt64S _, rfl, rfl, th_laws_toInt64S n _ r h⟩
    · cases h) hd
/-! ### laws.toFNode -/
def A_laws_toFNode (x0 : Int) (x1 : Int) (x2 : Int) (x3 : Int) (x4 : ByteArray) (x5 : Int) (x6 : Int) (x7 : Bool) (x8 : Bool) (x9 : Int) (x10 : Int) (x11 : Bool) (x12 : Bool) (x13 : List (List PV)) : List AV := [(.agg [(.p (.i .i64 x0)), (.p (.i .i64 x1)), (.p (.i .i64 x2)), (.p (.i .i64 x3)), (.p (.s x4)), (.p (.i .i64 x5)), (.p (.i .i64 x6)), (.p (.b x7)), (.p (.b x8)), (.p (.i .i64 x9)), (.p (.i .i64 x10)), (.p (.b x11)), (.p (.b x12)), (.p (.ls x13))])]
def U_laws_toFNode (x0 : Int) (x1 : Int) (x2 : Int) (x3 : Int) (x4 : ByteArray) (x5 : Int) (x6 : Int) (x7 : Bool) (x8 : Bool) (x9 : Int) (x10 : Int) (x11 : Bool) (x12 : Bool) (x13 : List (List PV)) : List Go.Eng.Frame := []
def O_laws_toFNode (r : Int × Int × Int × Int × ByteArray × Int × Int × Bool × Bool × Int × Int × Bool × Bool × (List (List PV))) : Res := ⟨(.agg [(.p (.i .i64 r.1)), (.p (.i .i64 r.2.1)), (.p (.i .i64 r.2.2.1)), (.p (.i .i64 r.2.2.2.1)), (.p (.s r.2.2.2.2.1)), (.p (.i .i64 r.2.2.2.2.2.1)), (.p (.i .i64 r.2.2.2.2.2.2.1)), (.p (.b r.2.2.2.2.2.2.2.1)), (.p (.b r.2.2.2.2.2.2.2.2.1)), (.p (.i .i64 r.2.2.2.2.2.2.2.2.2.1)), (.p (.i .i64 r.2.2.2.2.2.2.2.2.2.2.1)), (.p (.b r.2.2.2.2.2.2.2.2.2.2.2.1)), (.p (.b r.2.2.2.2.2.2.2.2.2.2.2.2.1)), (.p (.ls r.2.2.2.2.2.2.2.2.2.2.2.2.2))]), [], []⟩
abbrev CT_laws_toFNode (n : Nat) : CTab := mkCT [(74, E_laws_toValue n (noEnt)), (8, E_laws_toPlace n (noEnt)), (75, E_laws_toInt64S n (noEnt))]
abbrev LT_laws_toFNode (n : Nat) : LTab := mkLT []
def T_laws_toFNode (n : Nat) (x0 : Int) (x1 : Int) (x2 : Int) (x3 : Int) (x4 : ByteArray) (x5 : Int) (x6 : Int) (x7 : Bool) (x8 : Bool) (x9 : Int) (x10 : Int) (x11 : Bool) (x12 : Bool) (x13 : List (List PV)) : Tr (Int × Int × Int × Int × ByteArray × Int × Int × Bool × Bool × Int × Int × Bool × Bool × (List (List PV))) := (.opt (F_laws_toValue n x2 x3 x4) fun r36 => (.opt (F_laws_toPlace n x5 x6 x7 x8) fun r38 => (.opt (F_laws_toPlace n x9 x10 x11 x12) fun r39 => (.opt (F_laws_toInt64S n x13) fun r44 => (.ask (decide (r44.1 = r44.2.length)) (.done (x0, x1, r36.1, r36.2.1, r36.2.2, r38.1, r38.2.1, r38.2.2.1, r38.2.2.2, r39.1, r39.2.1, r39.2.2.1, r39.2.2.2, r44.2)) .fail)))))
def F_laws_toFNode : Nat → Int → Int → Int → Int → ByteArray → Int → Int → Bool → Bool → Int → Int → Bool → Bool → List (List PV) → Option (Int × Int × Int × Int × ByteArray × Int × Int × Bool × Bool × Int × Int × Bool × Bool × (List (List PV)))
  | 0, _, _, _, _, _, _, _, _, _, _, _, _, _, _ => none
  | n + 1, x0, x1, x2, x3, x4, x5, x6, x7, x8, x9, x10, x11, x12, x13 => (T_laws_toFNode n x0 x1 x2 x3 x4 x5 x6 x7 x8 x9 x10 x11 x12 x13).run
theorem ft_laws_toFNode (n : Nat) (x0 : Int) (x1 : Int) (x2 : Int) (x3 : Int) (x4 : ByteArray) (x5 : Int) (x6 : Int) (x7 : Bool) (x8 : Bool) (x9 : Int) (x10 : Int) (x11 : Bool) (x12 : Bool) (x13 : List (List PV)) : funT (CT_laws_toFNode n) (LT_laws_toFNode n) K_laws_toFNode (A_laws_toFNode x0 x1 x2 x3 x4 x5 x6 x7 x8 x9 x10 x11 x12 x13) (U_laws_toFNode x0 x1 x2 x3 x4 x5 x6 x7 x8 x9 x10 x11 x12 x13) = (T_laws_toFNode n x0 x1 x2 x3 x4 x5 x6 x7 x8 x9 x10 x11 x12 x13).bind fun r => .done (O_laws_toFNode r) := by kernel_rfl
theorem ct_laws_toFNode (n : Nat) : CTok (CT_laws_toFNode n) (runs KP lib n) := mkCT_cons (eo_laws_toValue n (noEnt_ok)) (mkCT_cons (eo_laws_toPlace n (noEnt_ok)) (mkCT_cons (eo_laws_toInt64S n (noEnt_ok)) (mkCT_nil)))
theorem th_laws_toFNode : ∀ (n : Nat) (x0 : Int) (x1 : Int) (x2 : Int) (x3 : Int) (x4 : ByteArray) (x5 : Int) (x6 : Int) (x7 : Bool) (x8 : Bool) (x9 : Int) (x10 : Int) (x11 : Bool) (x12 : Bool) (x13 : List (List PV)) (r : Int × Int × Int × Int × ByteArray × Int × Int × Bool × Bool × Int × Int × Bool × Bool × (List (List PV))), F_laws_toFNode n x0 x1 x2 x3 x4 x5 x6 x7 x8 x9 x10 x11 x12 x13 = some r → runs KP lib n 48 (A_laws_toFNode x0 x1 x2 x3 x4 x5 x6 x7 x8 x9 x10 x11 x12 x13) (U_laws_toFNode x0 x1 x2 x3 x4 x5 x6 x7 x8 x9 x10 x11 x12 x13) = some (O_laws_toFNode r)
  | 0, x0, x1, x2, x3, x4, x5, x6, x7, x8, x9, x10, x11, x12, x13, r, h => by cases h
  | n + 1, x0, x1, x2, x3, x4, x5, x6, x7, x8, x9, x10, x11, x12, x13, r, h => fun_step (kf := K_laws_toFNode) rfl (ct_laws_toFNode n) (noLoops rfl) (ft_laws_toFNode n x0 x1 x2 x3 x4 x5 x6 x7 x8 x9 x10 x11 x12 x13) h
def FH_laws_toFNode (n : Nat) : Cont → Option (Int × Int × Int × Int × ByteArray × Int × Int × Bool × Bool × Int × Int × Bool × Bool × (List (List PV)))
  | ([[[.i x0], [.i x1], [.i x2], [.i x3], [.s x4], [.i x5], [.i x6], [.b x7], [.b x8], [.i x9], [.i x10], [.b x11], [.b x12], [.r x13]]], []) => F_laws_toFNode n x0 x1 x2 x3 x4 x5 x6 x7 x8 x9 x10 x11 x12 x13
  | _ => none
def E_laws_toFNode (n : Nat) (d : List AV → List Go.Eng.Frame → Tr Res) : List AV → List Go.Eng.Frame → Tr Res := cent (A_laws_toFNode (0) (0) (0) (0) (⟨#[]⟩) (0) (0) (false) (false) (0) (0) (false) (false) ([])) (U_laws_toFNode (0) (0) (0) (0) (⟨#[]⟩) (0) (0) (false) (false) (0) (0) (false) (false) ([])) (FH_laws_toFNode n) O_laws_toFNode d
theorem eo_laws_toFNode (n : Nat) {d : List AV → List Go.Eng.Frame → Tr Res} (hd : ∀ ar up r, (d ar up).run = some r → runs KP lib n 48 ar up = some r) : ∀ ar up r, (E_laws_toFNode n d ar up).run = some r → runs KP lib n 48 ar up = some r :=
  cent_ok (fun hs r h => by
    unfold FH_laws_toFNode at h
    split at h
    · exact ⟨A_laws_toFNode _ _ _ _ _ _ _ _ _ _ _ _ _ _, U_laws_toFNode _ _ _ _ _ _ _ _ _ _ _ _ _ _, rfl, rfl, th_laws_toFNode n _ _ _ _ _ _ _ _ _ _ _ _ _ _ r h⟩
    · cases h) hd
/-! ### laws.toFNodeS -/
def A_laws_toFNodeS (x0 : List (List PV)) : List AV := [(.c (.p (.ls x0)))]
def U_laws_toFNodeS (x0 : List (List PV)) : List Go.Eng.Frame := []
def O_laws_toFNodeS (r : Nat × (List (List PV))) : Res := ⟨(.c (.own 0 0 0 r.1)), [], [⟨0, 14, 81, (.row r.2)⟩]⟩
abbrev CT_laws_toFNodeS (n : Nat) : CTab := mkCT [(48, E_laws_toFNode n (noEnt))]
def S_laws_toFNodeS_29 (v : (List (List PV)) × Nat × Int × (List (List PV))) : St := ⟨[(0, (.c (.p (.ls v.1)))), (3, (.c (.own 0 448 0 v.2.1))), (4, (.c (.p (.i .i64 v.2.2.1))))], [(448, ⟨0, 14, 81, (.row v.2.2.2)⟩)], []⟩
def B_laws_toFNodeS_29 (n : Nat) (v : (List (List PV)) × Nat × Int × (List (List PV))) : Tr (((List (List PV)) × Nat × Int × (List (List PV))) ⊕ ((Nat × (List (List PV))))) := (.ask ((decide (v.2.2.1 < (v.1.length : Int)))) (.ask (decide (0 ≤ v.2.2.1 ∧ v.2.2.1 < v.1.length)) (.opt (v.1[(v.2.2.1).toNat]?) fun e21 => (.ask (decide (e21.length = 14)) (.opt (cellI .i64 e21 0) fun y22 => (.opt (cellI .i64 e21 1) fun y23 => (.opt (cellI .i64 e21 2) fun y24 => (.opt (cellI .i64 e21 3) fun y25 => (.opt (cellS e21 4) fun y26 => (.opt (cellI .i64 e21 5) fun y27 => (.opt (cellI .i64 e21 6) fun y28 => (.opt (cellB e21 7) fun y29 => (.opt (cellB e21 8) fun y30 => (.opt (cellI .i64 e21 9) fun y31 => (.opt (cellI .i64 e21 10) fun y32 => (.opt (cellB e21 11) fun y33 => (.opt (cellB e21 12) fun y34 => (.opt (cellL e21 13) fun y35 => (.opt (F_laws_toFNode n y22 y23 y24 y25 y26 y27 y28 y29 y30 y31 y32 y33 y34 y35) fun r36 => (.ask (decide (v.2.1 = v.2.2.2.length ∧ 0 ≤ v.2.2.1 ∧ v.2.2.1 < ((v.2.1 : Nat) : Int))) (.opt (v.2.2.2[(v.2.2.1).toNat]?) fun e37 => (.ask (decide (0 + 14 ≤ e37.length)) (.done (.inl (v.1, v.2.1, (IntKind.i64.wrap (v.2.2.1 + (1 : Int))), (v.2.2.2.set (v.2.2.1).toNat (setAt e37 0 [(.i .i64 r36.1), (.i .i64 r36.2.1), (.i .i64 r36.2.2.1), (.i .i64 r36.2.2.2.1), (.s r36.2.2.2.2.1), (.i .i64 r36.2.2.2.2.2.1), (.i .i64 r36.2.2.2.2.2.2.1), (.b r36.2.2.2.2.2.2.2.1), (.b r36.2.2.2.2.2.2.2.2.1), (.i .i64 r36.2.2.2.2.2.2.2.2.2.1), (.i .i64 r36.2.2.2.2.2.2.2.2.2.2.1), (.b r36.2.2.2.2.2.2.2.2.2.2.2.1), (.b r36.2.2.2.2.2.2.2.2.2.2.2.2.1), (.ls r36.2.2.2.2.2.2.2.2.2.2.2.2.2)]))))) .fail)) .fail)))))))))))))))) .fail)) .fail) (.done (.inr ((v.2.1, v.2.2.2)))))
def D_laws_toFNodeS_29 : (Nat × (List (List PV))) → Ex × St := fun r => ((.exit 0), ⟨[(3, (.c (.own 0 448 0 r.1)))], [(448, ⟨0, 14, 81, (.row r.2)⟩)], []⟩)
def DT_laws_toFNodeS_29 : (Nat × (List (List PV))) → Tr (Ex × St) := fun r => .done ((.exit 0), ⟨[(3, (.c (.own 0 448 0 r.1)))], [(448, ⟨0, 14, 81, (.row r.2)⟩)], []⟩)
def VH_laws_toFNodeS_29 : Cont3 → Option ((List (List PV)) × Nat × Int × (List (List PV)))
  | ([[[.r w0]], [[.n w1]], [[.i w2]]], [[[.r w3]]], []) => some (w0, w1, w2, w3)
  | _ => none
abbrev LE_laws_toFNodeS_29 (n : Nat) : St → Tr (Ex × St) := lent (S_laws_toFNodeS_29 ([], 0, 0, [])) VH_laws_toFNodeS_29 (B_laws_toFNodeS_29 n) DT_laws_toFNodeS_29 n
abbrev LT_laws_toFNodeS (n : Nat) : LTab := mkLT [(29, LE_laws_toFNodeS_29 n)]
def T_laws_toFNodeS (n : Nat) (x0 : List (List PV)) : Tr (Nat × (List (List PV))) := (.ask (decide (0 ≤ (x0.length : Int) ∧ (x0.length : Int) = (x0.length : Int) ∧ 120 * (x0.length : Int) ≤ 140737488355328 ∧ (x0.length : Int) ≤ 9223372036854775807)) (.opt (loopF (B_laws_toFNodeS_29 n) n (x0, ((x0.length : Int)).toNat, (0 : Int), (zrows [(.i .i64 (0 : Int)), (.i .i64 (0 : Int)), (.i .i64 (0 : Int)), (.i .i64 (0 : Int)), (.s (⟨#[]⟩ : ByteArray)), (.i .i64 (0 : Int)), (.i .i64 (0 : Int)), (.b false), (.b false), (.i .i64 (0 : Int)), (.i .i64 (0 : Int)), (.b false), (.b false), .nl] ((x0.length : Int)).toNat))) fun r38 => (.done (r38.1, r38.2))) .fail)
def F_laws_toFNodeS : Nat → List (List PV) → Option (Nat × (List (List PV)))
  | 0, _ => none
  | n + 1, x0 => (T_laws_toFNodeS n x0).run
theorem ft_laws_toFNodeS (n : Nat) (x0 : List (List PV)) : funT (CT_laws_toFNodeS n) (LT_laws_toFNodeS n) K_laws_toFNodeS (A_laws_toFNodeS x0) (U_laws_toFNodeS x0) = (T_laws_toFNodeS n x0).bind fun r => .done (O_laws_toFNodeS r) := by kernel_rfl
theorem ct_laws_toFNodeS (n : Nat) : CTok (CT_laws_toFNodeS n) (runs KP lib n) := mkCT_cons (eo_laws_toFNode n (noEnt_ok)) (mkCT_nil)
theorem lt_laws_toFNodeS_29 (n : Nat) (v : (List (List PV)) × Nat × Int × (List (List PV))) : (evalCT (CT_laws_toFNodeS n) (mkLT []) K_laws_toFNodeS_L29 (S_laws_toFNodeS_29 v) []).bind (ltail [0, 3, 4] [(.ret, [2]), ((.exit 0), [3])]) = (B_laws_toFNodeS_29 n v).bind (lenc S_laws_toFNodeS_29 D_laws_toFNodeS_29) := by
  obtain ⟨w0, w1, w2, w3⟩ := v
  kernel_rfl
theorem le_laws_toFNodeS_29 (n : Nat) : LEok (runs KP lib n) n (29, [0, 3, 4], [(.ret, [2]), ((.exit 0), [3])], K_laws_toFNodeS_L29) (LE_laws_toFNodeS_29 n) := fun st e s h =>
  lent_ok (ct_laws_toFNodeS n) (noLoops rfl) (lt_laws_toFNodeS_29 n) (fun r h => by cases h) (fun r y h => by cases h; rfl) (fun hs v h => by
    unfold VH_laws_toFNodeS_29 at h
    split at h <;> cases h
    rfl) h
theorem lo_laws_toFNodeS (n : Nat) : LTok (LT_laws_toFNodeS n) (runs KP lib n) n K_laws_toFNodeS.body := mkLT_ok (by
  intro x hx
  have hx : x ∈ ([(29, [0, 3, 4], [(.ret, [2]), ((.exit 0), [3])], K_laws_toFNodeS_L29)] : List (Nat × List Nat × List (Ex × List Nat) × KCode)) := hx
  simp only [List.mem_cons, List.not_mem_nil, or_false] at hx
  rcases hx with rfl
  · exact ⟨LE_laws_toFNodeS_29 n, fun st => rfl, le_laws_toFNodeS_29 n⟩)
theorem th_laws_toFNodeS : ∀ (n : Nat) (x0 : List (List PV)) (r : Nat × (List (List PV))), F_laws_toFNodeS n x0 = some r → runs KP lib n 25 (A_laws_toFNodeS x0) (U_laws_toFNodeS x0) = some (O_laws_toFNodeS r)
  | 0, x0, r, h => by cases h
  | n + 1, x0, r, h => fun_step (kf := K_laws_toFNodeS) rfl (ct_laws_toFNodeS n) (lo_laws_toFNodeS n) (ft_laws_toFNodeS n x0) h
def FH_laws_toFNodeS (n : Nat) : Cont → Option (Nat × (List (List PV)))
  | ([[[.r x0]]], []) => F_laws_toFNodeS n x0
  | _ => none
def E_laws_toFNodeS (n : Nat) (d : List AV → List Go.Eng.Frame → Tr Res) : List AV → List Go.Eng.Frame → Tr Res := cent (A_laws_toFNodeS ([])) (U_laws_toFNodeS ([])) (FH_laws_toFNodeS n) O_laws_toFNodeS d
theorem eo_laws_toFNodeS (n : Nat) {d : List AV → List Go.Eng.Frame → Tr Res} (hd : ∀ ar up r, (d ar up).run = some r → runs KP lib n 25 ar up = some r) : ∀ ar up r, (E_laws_toFNodeS n d ar up).run = some r → runs KP lib n 25 ar up = some r :=
  cent_ok (fun hs r h => by
    unfold FH_laws_toFNodeS at h
    split at h
    · exact ⟨A_laws_toFNodeS _, U_laws_toFNodeS _, rfl, rfl, th_laws_toFNodeS n _ r h⟩
    · cases h) hd
/-! ### spec.l1In -/
def A_spec_l1In (x0 : Int) (x1 : Int) (x2 : Int) : List AV := [(.c (.p (.i .i64 x0))), (.c (.p (.i .i64 x1))), (.c (.p (.i .i64 x2)))]
def U_spec_l1In (x0 : Int) (x1 : Int) (x2 : Int) : List Go.Eng.Frame := []
def O_spec_l1In (r : Bool) : Res := ⟨(.c (.p (.b r))), [], []⟩
abbrev CT_spec_l1In (n : Nat) : CTab := mkCT []
abbrev LT_spec_l1In (n : Nat) : LTab := mkLT []
def T_spec_l1In (n : Nat) (x0 : Int) (x1 : Int) (x2 : Int) : Tr (Bool) := (.ask ((decide (x0 ≥ x1))) (.done (decide (x0 ≤ x2))) (.done false))
def F_spec_l1In : Nat → Int → Int → Int → Option (Bool)
  | 0, _, _, _ => none
  | n + 1, x0, x1, x2 => (T_spec_l1In n x0 x1 x2).run
theorem ft_spec_l1In (n : Nat) (x0 : Int) (x1 : Int) (x2 : Int) : funT (CT_spec_l1In n) (LT_spec_l1In n) K_spec_l1In (A_spec_l1In x0 x1 x2) (U_spec_l1In x0 x1 x2) = (T_spec_l1In n x0 x1 x2).bind fun r => .done (O_spec_l1In r) := by kernel_rfl
theorem ct_spec_l1In (n : Nat) : CTok (CT_spec_l1In n) (runs KP lib n) := mkCT_nil
theorem th_spec_l1In : ∀ (n : Nat) (x0 : Int) (x1 : Int) (x2 : Int) (r : Bool), F_spec_l1In n x0 x1 x2 = some r → runs KP lib n 41 (A_spec_l1In x0 x1 x2) (U_spec_l1In x0 x1 x2) = some (O_spec_l1In r)
  | 0, x0, x1, x2, r, h => by cases h
  | n + 1, x0, x1, x2, r, h => fun_step (kf := K_spec_l1In) rfl (ct_spec_l1In n) (noLoops rfl) (ft_spec_l1In n x0 x1 x2) h
def FH_spec_l1In (n : Nat) : Cont → Option (Bool)
  | ([[[.i x0]], [[.i x1]], [[.i x2]]], []) => F_spec_l1In n x0 x1 x2
  | _ => none
def E_spec_l1In (n : Nat) (d : List AV → List Go.Eng.Frame → Tr Res) : List AV → List Go.Eng.Frame → Tr Res := cent (A_spec_l1In (0) (0) (0)) (U_spec_l1In (0) (0) (0)) (FH_spec_l1In n) O_spec_l1In d
theorem eo_spec_l1In (n : Nat) {d : List AV → List Go.Eng.Frame → Tr Res} (hd : ∀ ar up r, (d ar up).run = some r → runs KP lib n 41 ar up = some r) : ∀ ar up r, (E_spec_l1In n d ar up).run = some r → runs KP lib n 41 ar up = some r :=
  cent_ok (fun hs r h => by
    unfold FH_spec_l1In at h
    split at h
    · exact ⟨A_spec_l1In _ _ _, U_spec_l1In _ _ _, rfl, rfl, th_spec_l1In n _ _ _ r h⟩
    · cases h) hd
/-! ### spec.l2Plain -/
def A_spec_l2Plain (x0 : ByteArray) : List AV := [(.c (.p (.s x0)))]
def U_spec_l2Plain (x0 : ByteArray) : List Go.Eng.Frame := []
def O_spec_l2Plain (r : Bool) : Res := ⟨(.c (.p (.b r))), [], []⟩
abbrev CT_spec_l2Plain (n : Nat) : CTab := mkCT []
def S_spec_l2Plain_13 (v : ByteArray × Int) : St := ⟨[(0, (.c (.p (.s v.1)))), (3, (.c (.p (.i .i64 v.2))))], [], []⟩
def B_spec_l2Plain_13 (n : Nat) (v : ByteArray × Int) : Tr ((ByteArray × Int) ⊕ ((Bool) ⊕ (ByteArray))) := (.ask ((decide (v.2 < (v.1.size : Int)))) (.ask (decide (0 ≤ v.2)) (.opt (v.1.toList[(v.2).toNat]?) fun c56 => (.ask ((decide ((c56.toNat : Int) < (32 : Int)))) (.done (.inr (.inl (false)))) (.ask (decide (0 ≤ v.2)) (.opt (v.1.toList[(v.2).toNat]?) fun c57 => (.ask ((decide ((c57.toNat : Int) > (126 : Int)))) (.done (.inr (.inl (false)))) (.done (.inl (v.1, (IntKind.i64.wrap (v.2 + (1 : Int)))))))) .fail))) .fail) (.done (.inr (.inr (v.1)))))
def D_spec_l2Plain_13 : ((Bool) ⊕ (ByteArray)) → Ex × St := fun | .inl r => (.ret, ⟨[(2, (.c (.p (.b r))))], [], []⟩) | .inr r => (fun r => ((.exit 0), ⟨[(0, (.c (.p (.s r))))], [], []⟩)) r
def DT_spec_l2Plain_13 : ((Bool) ⊕ (ByteArray)) → Tr (Ex × St) := fun r => .alt r (fun r => .done (.ret, ⟨[(2, (.c (.p (.b r))))], [], []⟩)) (fun r => .done ((.exit 0), ⟨[(0, (.c (.p (.s r))))], [], []⟩))
def VH_spec_l2Plain_13 : Cont3 → Option (ByteArray × Int)
  | ([[[.s w0]], [[.i w1]]], [], []) => some (w0, w1)
  | _ => none
abbrev LE_spec_l2Plain_13 (n : Nat) : St → Tr (Ex × St) := lent (S_spec_l2Plain_13 (⟨#[]⟩, 0)) VH_spec_l2Plain_13 (B_spec_l2Plain_13 n) DT_spec_l2Plain_13 n
abbrev LT_spec_l2Plain (n : Nat) : LTab := mkLT [(13, LE_spec_l2Plain_13 n)]
def T_spec_l2Plain (n : Nat) (x0 : ByteArray) : Tr (Bool) := (.opt (loopF (B_spec_l2Plain_13 n) n (x0, (0 : Int))) fun r58 => (.alt r58 (fun r59 => (.done r59)) (fun r60 => (.done (decide ((r60.size : Int) ≤ (200 : Int)))))))
def F_spec_l2Plain : Nat → ByteArray → Option (Bool)
  | 0, _ => none
  | n + 1, x0 => (T_spec_l2Plain n x0).run
theorem ft_spec_l2Plain (n : Nat) (x0 : ByteArray) : funT (CT_spec_l2Plain n) (LT_spec_l2Plain n) K_spec_l2Plain (A_spec_l2Plain x0) (U_spec_l2Plain x0) = (T_spec_l2Plain n x0).bind fun r => .done (O_spec_l2Plain r) := by kernel_rfl
theorem ct_spec_l2Plain (n : Nat) : CTok (CT_spec_l2Plain n) (runs KP lib n) := mkCT_nil
theorem lt_spec_l2Plain_13 (n : Nat) (v : ByteArray × Int) : (evalCT (CT_spec_l2Plain n) (mkLT []) K_spec_l2Plain_L13 (S_spec_l2Plain_13 v) []).bind (ltail [0, 3] [(.ret, [2]), ((.exit 0), [0])]) = (B_spec_l2Plain_13 n v).bind (lenc S_spec_l2Plain_13 D_spec_l2Plain_13) := by
  obtain ⟨w0, w1⟩ := v
  kernel_rfl
theorem le_spec_l2Plain_13 (n : Nat) : LEok (runs KP lib n) n (13, [0, 3], [(.ret, [2]), ((.exit 0), [0])], K_spec_l2Plain_L13) (LE_spec_l2Plain_13 n) := fun st e s h =>
  lent_ok (ct_spec_l2Plain n) (noLoops rfl) (lt_spec_l2Plain_13 n) (fun r => by
    rcases r with r | r <;> (intro h; cases h)) (fun r y h => by
    rcases r with r | r <;> (cases h; rfl)) (fun hs v h => by
    unfold VH_spec_l2Plain_13 at h
    split at h <;> cases h
    rfl) h
theorem lo_spec_l2Plain (n : Nat) : LTok (LT_spec_l2Plain n) (runs KP lib n) n K_spec_l2Plain.body := mkLT_ok (by
  intro x hx
  have hx : x ∈ ([(13, [0, 3], [(.ret, [2]), ((.exit 0), [0])], K_spec_l2Plain_L13)] : List (Nat × List Nat × List (Ex × List Nat) × KCode)) := hx
  simp only [List.mem_cons, List.not_mem_nil, or_false] at hx
  rcases hx with rfl
  · exact ⟨LE_spec_l2Plain_13 n, fun st => rfl, le_spec_l2Plain_13 n⟩)
theorem th_spec_l2Plain : ∀ (n : Nat) (x0 : ByteArray) (r : Bool), F_spec_l2Plain n x0 = some r → runs KP lib n 118 (A_spec_l2Plain x0) (U_spec_l2Plain x0) = some (O_spec_l2Plain r)
  | 0, x0, r, h => by cases h
  | n + 1, x0, r, h => fun_step (kf := K_spec_l2Plain) rfl (ct_spec_l2Plain n) (lo_spec_l2Plain n) (ft_spec_l2Plain n x0) h
def FH_spec_l2Plain (n : Nat) : Cont → Option (Bool)
  | ([[[.s x0]]], []) => F_spec_l2Plain n x0
  | _ => none
def E_spec_l2Plain (n : Nat) (d : List AV → List Go.Eng.Frame → Tr Res) : List AV → List Go.Eng.Frame → Tr Res := cent (A_spec_l2Plain (⟨#[]⟩)) (U_spec_l2Plain (⟨#[]⟩)) (FH_spec_l2Plain n) O_spec_l2Plain d
theorem eo_spec_l2Plain (n : Nat) {d : List AV → List Go.Eng.Frame → Tr Res} (hd : ∀ ar up r, (d ar up).run = some r → runs KP lib n 118 ar up = some r) : ∀ ar up r, (E_spec_l2Plain n d ar up).run = some r → runs KP lib n 118 ar up = some r :=
  cent_ok (fun hs r h => by
    unfold FH_spec_l2Plain at h
    split at h
    · exact ⟨A_spec_l2Plain _, U_spec_l2Plain _, rfl, rfl, th_spec_l2Plain n _ r h⟩
    · cases h) hd
/-! ### spec.ValueOk -/
def A_spec_ValueOk (x0 : Int) (x1 : Int) (x2 : ByteArray) : List AV := [(.agg [(.p (.i .i64 x0)), (.p (.i .i64 x1)), (.p (.s x2))])]
def U_spec_ValueOk (x0 : Int) (x1 : Int) (x2 : ByteArray) : List Go.Eng.Frame := []
def O_spec_ValueOk (r : Bool) : Res := ⟨(.c (.p (.b r))), [], []⟩
abbrev CT_spec_ValueOk (n : Nat) : CTab := mkCT [(41, E_spec_l1In n (noEnt)), (118, E_spec_l2Plain n (noEnt))]
abbrev LT_spec_ValueOk (n : Nat) : LTab := mkLT []
def T_spec_ValueOk (n : Nat) (x0 : Int) (x1 : Int) (x2 : ByteArray) : Tr (Bool) := (.ask ((x0 == (0 : Int))) (.ask ((x1 == (0 : Int))) (.done (x2.toList == (⟨#[]⟩ : ByteArray).toList)) (.done false)) (.ask ((x0 == (1 : Int))) (.opt (F_spec_l1In n x1 (-1000000000000000 : Int) (1000000000000000 : Int)) fun r55 => (.ask (r55) (.done (x2.toList == (⟨#[]⟩ : ByteArray).toList)) (.done false))) (.ask ((x0 == (2 : Int))) (.ask ((x1 == (0 : Int))) (.opt (F_spec_l2Plain n x2) fun r61 => (.done r61)) (.done false)) (.ask ((x0 == (3 : Int))) (.opt (F_spec_l1In n x1 (0 : Int) (1 : Int)) fun r62 => (.ask (r62) (.done (x2.toList == (⟨#[]⟩ : ByteArray).toList)) (.done false))) (.ask ((x0 == (4 : Int))) (.opt (F_spec_l1In n x1 (1 : Int) (5 : Int)) fun r63 => (.ask (r63) (.done (x2.toList == (⟨#[]⟩ : ByteArray).toList)) (.done false))) (.done false))))))
def F_spec_ValueOk : Nat → Int → Int → ByteArray → Option (Bool)
  | 0, _, _, _ => none
  | n + 1, x0, x1, x2 => (T_spec_ValueOk n x0 x1 x2).run
theorem ft_spec_ValueOk (n : Nat) (x0 : Int) (x1 : Int) (x2 : ByteArray) : funT (CT_spec_ValueOk n) (LT_spec_ValueOk n) K_spec_ValueOk (A_spec_ValueOk x0 x1 x2) (U_spec_ValueOk x0 x1 x2) = (T_spec_ValueOk n x0 x1 x2).bind fun r => .done (O_spec_ValueOk r) := by kernel_rfl
theorem ct_spec_ValueOk (n : Nat) : CTok (CT_spec_ValueOk n) (runs KP lib n) := mkCT_cons (eo_spec_l1In n (noEnt_ok)) (mkCT_cons (eo_spec_l2Plain n (noEnt_ok)) (mkCT_nil))
theorem th_spec_ValueOk : ∀ (n : Nat) (x0 : Int) (x1 : Int) (x2 : ByteArray) (r : Bool), F_spec_ValueOk n x0 x1 x2 = some r → runs KP lib n 96 (A_spec_ValueOk x0 x1 x2) (U_spec_ValueOk x0 x1 x2) = some (O_spec_ValueOk r)
  | 0, x0, x1, x2, r, h => by cases h
  | n + 1, x0, x1, x2, r, h => fun_step (kf := K_spec_ValueOk) rfl (ct_spec_ValueOk n) (noLoops rfl) (ft_spec_ValueOk n x0 x1 x2) h
def FH_spec_ValueOk (n : Nat) : Cont → Option (Bool)
  | ([[[.i x0], [.i x1], [.s x2]]], []) => F_spec_ValueOk n x0 x1 x2
  | _ => none
def E_spec_ValueOk (n : Nat) (d : List AV → List Go.Eng.Frame → Tr Res) : List AV → List Go.Eng.Frame → Tr Res := cent (A_spec_ValueOk (0) (0) (⟨#[]⟩)) (U_spec_ValueOk (0) (0) (⟨#[]⟩)) (FH_spec_ValueOk n) O_spec_ValueOk d
theorem eo_spec_ValueOk (n : Nat) {d : List AV → List Go.Eng.Frame → Tr Res} (hd : ∀ ar up r, (d ar up).run = some r → runs KP lib n 96 ar up = some r) : ∀ ar up r, (E_spec_ValueOk n d ar up).run = some r → runs KP lib n 96 ar up = some r :=
  cent_ok (fun hs r h => by
    unfold FH_spec_ValueOk at h
    split at h
    · exact ⟨A_spec_ValueOk _ _ _, U_spec_ValueOk _ _ _, rfl, rfl, th_spec_ValueOk n _ _ _ r h⟩
    · cases h) hd
/-! ### spec.RefOk -/
def A_spec_RefOk (x0 : Int) (x1 : Int) : List AV := [(.agg [(.p (.i .i64 x0)), (.p (.i .i64 x1))])]
def U_spec_RefOk (x0 : Int) (x1 : Int) : List Go.Eng.Frame := []
def O_spec_RefOk (r : Bool) : Res := ⟨(.c (.p (.b r))), [], []⟩
abbrev CT_spec_RefOk (n : Nat) : CTab := mkCT [(41, E_spec_l1In n (noEnt))]
abbrev LT_spec_RefOk (n : Nat) : LTab := mkLT []
def T_spec_RefOk (n : Nat) (x0 : Int) (x1 : Int) : Tr (Bool) := (.opt (F_spec_l1In n x0 (1 : Int) (52 : Int)) fun r65 => (.ask (r65) (.opt (F_spec_l1In n x1 (1 : Int) (99 : Int)) fun r66 => (.done r66)) (.done false)))
def F_spec_RefOk : Nat → Int → Int → Option (Bool)
  | 0, _, _ => none
  | n + 1, x0, x1 => (T_spec_RefOk n x0 x1).run
theorem ft_spec_RefOk (n : Nat) (x0 : Int) (x1 : Int) : funT (CT_spec_RefOk n) (LT_spec_RefOk n) K_spec_RefOk (A_spec_RefOk x0 x1) (U_spec_RefOk x0 x1) = (T_spec_RefOk n x0 x1).bind fun r => .done (O_spec_RefOk r) := by kernel_rfl
theorem ct_spec_RefOk (n : Nat) : CTok (CT_spec_RefOk n) (runs KP lib n) := mkCT_cons (eo_spec_l1In n (noEnt_ok)) (mkCT_nil)
theorem th_spec_RefOk : ∀ (n : Nat) (x0 : Int) (x1 : Int) (r : Bool), F_spec_RefOk n x0 x1 = some r → runs KP lib n 28 (A_spec_RefOk x0 x1) (U_spec_RefOk x0 x1) = some (O_spec_RefOk r)
  | 0, x0, x1, r, h => by cases h
  | n + 1, x0, x1, r, h => fun_step (kf := K_spec_RefOk) rfl (ct_spec_RefOk n) (noLoops rfl) (ft_spec_RefOk n x0 x1) h
def FH_spec_RefOk (n : Nat) : Cont → Option (Bool)
  | ([[[.i x0], [.i x1]]], []) => F_spec_RefOk n x0 x1
  | _ => none
def E_spec_RefOk (n : Nat) (d : List AV → List Go.Eng.Frame → Tr Res) : List AV → List Go.Eng.Frame → Tr Res := cent (A_spec_RefOk (0) (0)) (U_spec_RefOk (0) (0)) (FH_spec_RefOk n) O_spec_RefOk d
theorem eo_spec_RefOk (n : Nat) {d : List AV → List Go.Eng.Frame → Tr Res} (hd : ∀ ar up r, (d ar up).run = some r → runs KP lib n 28 ar up = some r) : ∀ ar up r, (E_spec_RefOk n d ar up).run = some r → runs KP lib n 28 ar up = some r :=
  cent_ok (fun hs r h => by
    unfold FH_spec_RefOk at h
    split at h
    · exact ⟨A_spec_RefOk _ _, U_spec_RefOk _ _, rfl, rfl, th_spec_RefOk n _ _ r h⟩
    · cases h) hd
/-! ### spec.AreaOk -/
def A_spec_AreaOk (x0 : Int) (x1 : Int) (x2 : Int) (x3 : Int) : List AV := [(.agg [(.p (.i .i64 x0)), (.p (.i .i64 x1)), (.p (.i .i64 x2)), (.p (.i .i64 x3))])]
def U_spec_AreaOk (x0 : Int) (x1 : Int) (x2 : Int) (x3 : Int) : List Go.Eng.Frame := []
def O_spec_AreaOk (r : Bool) : Res := ⟨(.c (.p (.b r))), [], []⟩
abbrev CT_spec_AreaOk (n : Nat) : CTab := mkCT [(28, E_spec_RefOk n (noEnt))]
abbrev LT_spec_AreaOk (n : Nat) : LTab := mkLT []
def T_spec_AreaOk (n : Nat) (x0 : Int) (x1 : Int) (x2 : Int) (x3 : Int) : Tr (Bool) := (.opt (F_spec_RefOk n x0 x1) fun r68 => (.ask (r68) (.opt (F_spec_RefOk n x2 x3) fun r69 => (.ask (r69) (.ask ((decide (x0 ≤ x2))) (.done (decide (x1 ≤ x3))) (.done false)) (.done false))) (.done false)))
def F_spec_AreaOk : Nat → Int → Int → Int → Int → Option (Bool)
  | 0, _, _, _, _ => none
  | n + 1, x0, x1, x2, x3 => (T_spec_AreaOk n x0 x1 x2 x3).run
theorem ft_spec_AreaOk (n : Nat) (x0 : Int) (x1 : Int) (x2 : Int) (x3 : Int) : funT (CT_spec_AreaOk n) (LT_spec_AreaOk n) K_spec_AreaOk (A_spec_AreaOk x0 x1 x2 x3) (U_spec_AreaOk x0 x1 x2 x3) = (T_spec_AreaOk n x0 x1 x2 x3).bind fun r => .done (O_spec_AreaOk r) := by kernel_rfl
theorem ct_spec_AreaOk (n : Nat) : CTok (CT_spec_AreaOk n) (runs KP lib n) := mkCT_cons (eo_spec_RefOk n (noEnt_ok)) (mkCT_nil)
theorem th_spec_AreaOk : ∀ (n : Nat) (x0 : Int) (x1 : Int) (x2 : Int) (x3 : Int) (r : Bool), F_spec_AreaOk n x0 x1 x2 x3 = some r → runs KP lib n 97 (A_spec_AreaOk x0 x1 x2 x3) (U_spec_AreaOk x0 x1 x2 x3) = some (O_spec_AreaOk r)
  | 0, x0, x1, x2, x3, r, h => by cases h
  | n + 1, x0, x1, x2, x3, r, h => fun_step (kf := K_spec_AreaOk) rfl (ct_spec_AreaOk n) (noLoops rfl) (ft_spec_AreaOk n x0 x1 x2 x3) h
def FH_spec_AreaOk (n : Nat) : Cont → Option (Bool)
  | ([[[.i x0], [.i x1], [.i x2], [.i x3]]], []) => F_spec_AreaOk n x0 x1 x2 x3
  | _ => none
def E_spec_AreaOk (n : Nat) (d : List AV → List Go.Eng.Frame → Tr Res) : List AV → List Go.Eng.Frame → Tr Res := cent (A_spec_AreaOk (0) (0) (0) (0)) (U_spec_AreaOk (0) (0) (0) (0)) (FH_spec_AreaOk n) O_spec_AreaOk d
theorem eo_spec_AreaOk (n : Nat) {d : List AV → List Go.Eng.Frame → Tr Res} (hd : ∀ ar up r, (d ar up).run = some r → runs KP lib n 97 ar up = some r) : ∀ ar up r, (E_spec_AreaOk n d ar up).run = some r → runs KP lib n 97 ar up = some r :=
  cent_ok (fun hs r h => by
    unfold FH_spec_AreaOk at h
    split at h
    · exact ⟨A_spec_AreaOk _ _ _ _, U_spec_AreaOk _ _ _ _, rfl, rfl, th_spec_AreaOk n _ _ _ _ r h⟩
    · cases h) hd
/-! ### spec.l3Args -/
def A_spec_l3Args (x0 : Int) (x1 : Int) : List AV := [(.c (.p (.i .i64 x0))), (.c (.p (.i .i64 x1)))]
def U_spec_l3Args (x0 : Int) (x1 : Int) : List Go.Eng.Frame := []
def O_spec_l3Args (r : Bool) : Res := ⟨(.c (.p (.b r))), [], []⟩
abbrev CT_spec_l3Args (n : Nat) : CTab := mkCT []
abbrev LT_spec_l3Args (n : Nat) : LTab := mkLT []
def T_spec_l3Args (n : Nat) (x0 : Int) (x1 : Int) : Tr (Bool) := (.ask ((x0 == (1 : Int))) (.ask ((decide (x1 ≥ (1 : Int)))) (.done (decide (x1 ≤ (10 : Int)))) (.done false)) (.ask ((x0 == (2 : Int))) (.ask ((decide (x1 ≥ (1 : Int)))) (.done (decide (x1 ≤ (10 : Int)))) (.done false)) (.ask ((x0 == (3 : Int))) (.ask ((decide (x1 ≥ (1 : Int)))) (.done (decide (x1 ≤ (10 : Int)))) (.done false)) (.ask ((x0 == (4 : Int))) (.ask ((decide (x1 ≥ (1 : Int)))) (.done (decide (x1 ≤ (10 : Int)))) (.done false)) (.ask ((x0 == (6 : Int))) (.ask ((decide (x1 ≥ (1 : Int)))) (.done (decide (x1 ≤ (10 : Int)))) (.done false)) (.ask ((x0 == (7 : Int))) (.ask ((decide (x1 ≥ (1 : Int)))) (.done (decide (x1 ≤ (10 : Int)))) (.done false)) (.ask ((x0 == (5 : Int))) (.ask ((x1 == (2 : Int))) (.done true) (.done (x1 == (3 : Int)))) (.ask ((x0 == (8 : Int))) (.done (x1 == (1 : Int))) (.ask ((x0 == (9 : Int))) (.done (x1 == (1 : Int))) (.ask ((x0 == (10 : Int))) (.done (x1 == (1 : Int))) (.done false)))))))))))
def F_spec_l3Args : Nat → Int → Int → Option (Bool)
  | 0, _, _ => none
  | n + 1, x0, x1 => (T_spec_l3Args n x0 x1).run
theorem ft_spec_l3Args (n : Nat) (x0 : Int) (x1 : Int) : funT (CT_spec_l3Args n) (LT_spec_l3Args n) K_spec_l3Args (A_spec_l3Args x0 x1) (U_spec_l3Args x0 x1) = (T_spec_l3Args n x0 x1).bind fun r => .done (O_spec_l3Args r) := by kernel_rfl
theorem ct_spec_l3Args (n : Nat) : CTok (CT_spec_l3Args n) (runs KP lib n) := mkCT_nil
theorem th_spec_l3Args : ∀ (n : Nat) (x0 : Int) (x1 : Int) (r : Bool), F_spec_l3Args n x0 x1 = some r → runs KP lib n 98 (A_spec_l3Args x0 x1) (U_spec_l3Args x0 x1) = some (O_spec_l3Args r)
  | 0, x0, x1, r, h => by cases h
  | n + 1, x0, x1, r, h => fun_step (kf := K_spec_l3Args) rfl (ct_spec_l3Args n) (noLoops rfl) (ft_spec_l3Args n x0 x1) h
def FH_spec_l3Args (n : Nat) : Cont → Option (Bool)
  | ([[[.i x0]], [[.i x1]]], []) => F_spec_l3Args n x0 x1
  | _ => none
def E_spec_l3Args (n : Nat) (d : List AV → List Go.Eng.Frame → Tr Res) : List AV → List Go.Eng.Frame → Tr Res := cent (A_spec_l3Args (0) (0)) (U_spec_l3Args (0) (0)) (FH_spec_l3Args n) O_spec_l3Args d
theorem eo_spec_l3Args (n : Nat) {d : List AV → List Go.Eng.Frame → Tr Res} (hd : ∀ ar up r, (d ar up).run = some r → runs KP lib n 98 ar up = some r) : ∀ ar up r, (E_spec_l3Args n d ar up).run = some r → runs KP lib n 98 ar up = some r :=
  cent_ok (fun hs r h => by
    unfold FH_spec_l3Args at h
    split at h
    · exact ⟨A_spec_l3Args _ _, U_spec_l3Args _ _, rfl, rfl, th_spec_l3Args n _ _ r h⟩
    · cases h) hd
/-! ### spec.l3NodeOk -/
def A_spec_l3NodeOk (x0 : Int) (x1 : Int) (x2 : Int) (x3 : Int) (x4 : ByteArray) (x5 : Int) (x6 : Int) (x7 : Bool) (x8 : Bool) (x9 : Int) (x10 : Int) (x11 : Bool) (x12 : Bool) (x13 : List (List PV)) : List AV := [(.agg [(.p (.i .i64 x0)), (.p (.i .i64 x1)), (.p (.i .i64 x2)), (.p (.i .i64 x3)), (.p (.s x4)), (.p (.i .i64 x5)), (.p (.i .i64 x6)), (.p (.b x7)), (.p (.b x8)), (.p (.i .i64 x9)), (.p (.i .i64 x10)), (.p (.b x11)), (.p (.b x12)), (.p (.ls x13))])]
def U_spec_l3NodeOk (x0 : Int) (x1 : Int) (x2 : Int) (x3 : Int) (x4 : ByteArray) (x5 : Int) (x6 : Int) (x7 : Bool) (x8 : Bool) (x9 : Int) (x10 : Int) (x11 : Bool) (x12 : Bool) (x13 : List (List PV)) : List Go.Eng.Frame := []
def O_spec_l3NodeOk (r : Bool) : Res := ⟨(.c (.p (.b r))), [], []⟩
abbrev CT_spec_l3NodeOk (n : Nat) : CTab := mkCT [(96, E_spec_ValueOk n (noEnt)), (28, E_spec_RefOk n (noEnt)), (97, E_spec_AreaOk n (noEnt)), (41, E_spec_l1In n (noEnt)), (98, E_spec_l3Args n (noEnt))]
abbrev LT_spec_l3NodeOk (n : Nat) : LTab := mkLT []
def T_spec_l3NodeOk (n : Nat) (x0 : Int) (x1 : Int) (x2 : Int) (x3 : Int) (x4 : ByteArray) (x5 : Int) (x6 : Int) (x7 : Bool) (x8 : Bool) (x9 : Int) (x10 : Int) (x11 : Bool) (x12 : Bool) (x13 : List (List PV)) : Tr (Bool) := (.ask ((x0 == (1 : Int))) (.ask ((x1 == (0 : Int))) (.ask (((x5 == (0 : Int)) && ((x6 == (0 : Int)) && ((x7 == false) && ((x8 == false) && true))))) (.ask (((x9 == (0 : Int)) && ((x10 == (0 : Int)) && ((x11 == false) && ((x12 == false) && true))))) (.ask (((x13.length : Int) == (0 : Int))) (.opt (F_spec_ValueOk n x2 x3 x4) fun r64 => (.ask (r64) (.ask ((x2 != (0 : Int))) (.ask ((x2 != (1 : Int))) (.done true) (.done (decide (x3 ≥ (0 : Int))))) (.done false)) (.done false))) (.done false)) (.done false)) (.done false)) (.done false)) (.ask ((x0 == (2 : Int))) (.ask ((x1 == (0 : Int))) (.ask (((x2 == (0 : Int)) && ((x3 == (0 : Int)) && ((x4.toList == (⟨#[]⟩ : ByteArray).toList) && true)))) (.ask (((x9 == (0 : Int)) && ((x10 == (0 : Int)) && ((x11 == false) && ((x12 == false) && true))))) (.ask (((x13.length : Int) == (0 : Int))) (.opt (F_spec_RefOk n x5 x6) fun r67 => (.done r67)) (.done false)) (.done false)) (.done false)) (.done false)) (.ask ((x0 == (3 : Int))) (.ask ((x1 == (0 : Int))) (.ask (((x2 == (0 : Int)) && ((x3 == (0 : Int)) && ((x4.toList == (⟨#[]⟩ : ByteArray).toList) && true)))) (.ask (((x13.length : Int) == (0 : Int))) (.opt (F_spec_AreaOk n x5 x6 x9 x10) fun r70 => (.done r70)) (.done false)) (.done false)) (.done false)) (.ask ((x0 == (4 : Int))) (.ask ((x1 == (0 : Int))) (.ask (((x2 == (0 : Int)) && ((x3 == (0 : Int)) && ((x4.toList == (⟨#[]⟩ : ByteArray).toList) && true)))) (.ask (((x5 == (0 : Int)) && ((x6 == (0 : Int)) && ((x7 == false) && ((x8 == false) && true))))) (.ask (((x9 == (0 : Int)) && ((x10 == (0 : Int)) && ((x11 == false) && ((x12 == false) && true))))) (.done ((x13.length : Int) == (1 : Int))) (.done false)) (.done false)) (.done false)) (.done false)) (.ask ((x0 == (5 : Int))) (.opt (F_spec_l1In n x1 (1 : Int) (11 : Int)) fun r71 => (.ask (r71) (.ask (((x2 == (0 : Int)) && ((x3 == (0 : Int)) && ((x4.toList == (⟨#[]⟩ : ByteArray).toList) && true)))) (.ask (((x5 == (0 : Int)) && ((x6 == (0 : Int)) && ((x7 == false) && ((x8 == false) && true))))) (.ask (((x9 == (0 : Int)) && ((x10 == (0 : Int)) && ((x11 == false) && ((x12 == false) && true))))) (.done ((x13.length : Int) == (2 : Int))) (.done false)) (.done false)) (.done false)) (.done false))) (.ask ((x0 == (6 : Int))) (.opt (F_spec_l3Args n x1 (x13.length : Int)) fun r72 => (.ask (r72) (.ask (((x2 == (0 : Int)) && ((x3 == (0 : Int)) && ((x4.toList == (⟨#[]⟩ : ByteArray).toList) && true)))) (.ask (((x5 == (0 : Int)) && ((x6 == (0 : Int)) && ((x7 == false) && ((x8 == false) && true))))) (.done ((x9 == (0 : Int)) && ((x10 == (0 : Int)) && ((x11 == false) && ((x12 == false) && true))))) (.done false)) (.done false)) (.done false))) (.done false)))))))
def F_spec_l3NodeOk : Nat → Int → Int → Int → Int → ByteArray → Int → Int → Bool → Bool → Int → Int → Bool → Bool → List (List PV) → Option (Bool)
  | 0, _, _, _, _, _, _, _, _, _, _, _, _, _, _ => none
  | n + 1, x0, x1, x2, x3, x4, x5, x6, x7, x8, x9, x10, x11, x12, x13 => (T_spec_l3NodeOk n x0 x1 x2 x3 x4 x5 x6 x7 x8 x9 x10 x11 x12 x13).run
theorem ft_spec_l3NodeOk (n : Nat) (x0 : Int) (x1 : Int) (x2 : Int) (x3 : Int) (x4 : ByteArray) (x5 : Int) (x6 : Int) (x7 : Bool) (x8 : Bool) (x9 : Int) (x10 : Int) (x11 : Bool) (x12 : Bool) (x13 : List (List PV)) : funT (CT_spec_l3NodeOk n) (LT_spec_l3NodeOk n) K_spec_l3NodeOk (A_spec_l3NodeOk x0 x1 x2 x3 x4 x5 x6 x7 x8 x9 x10 x11 x12 x13) (U_spec_l3NodeOk x0 x1 x2 x3 x4 x5 x6 x7 x8 x9 x10 x11 x12 x13) = (T_spec_l3NodeOk n x0 x1 x2 x3 x4 x5 x6 x7 x8 x9 x10 x11 x12 x13).bind fun r => .done (O_spec_l3NodeOk r) := by kernel_rfl
theorem ct_spec_l3NodeOk (n : Nat) : CTok (CT_spec_l3NodeOk n) (runs KP lib n) := mkCT_cons (eo_spec_ValueOk n (noEnt_ok)) (mkCT_cons (eo_spec_RefOk n (noEnt_ok)) (mkCT_cons (eo_spec_AreaOk n (noEnt_ok)) (mkCT_cons (eo_spec_l1In n (noEnt_ok)) (mkCT_cons (eo_spec_l3Args n (noEnt_ok)) (mkCT_nil)))))
theorem th_spec_l3NodeOk : ∀ (n : Nat) (x0 : Int) (x1 : Int) (x2 : Int) (x3 : Int) (x4 : ByteArray) (x5 : Int) (x6 : Int) (x7 : Bool) (x8 : Bool) (x9 : Int) (x10 : Int) (x11 : Bool) (x12 : Bool) (x13 : List (List PV)) (r : Bool), F_spec_l3NodeOk n x0 x1 x2 x3 x4 x5 x6 x7 x8 x9 x10 x11 x12 x13 = some r → runs KP lib n 66 (A_spec_l3NodeOk x0 x1 x2 x3 x4 x5 x6 x7 x8 x9 x10 x11 x12 x13) (U_spec_l3NodeOk x0 x1 x2 x3 x4 x5 x6 x7 x8 x9 x10 x11 x12 x13) = some (O_spec_l3NodeOk r)
  | 0, x0, x1, x2, x3, x4, x5, x6, x7, x8, x9, x10, x11, x12, x13, r, h => by cases h
  | n + 1, x0, x1, x2, x3, x4, x5, x6, x7, x8, x9, x10, x11, x12, x13, r, h => fun_step (kf := K_spec_l3NodeOk) rfl (ct_spec_l3NodeOk n) (noLoops rfl) (ft_spec_l3NodeOk n x0 x1 x2 x3 x4 x5 x6 x7 x8 x9 x10 x11 x12 x13) h
def FH_spec_l3NodeOk (n : Nat) : Cont → Option (Bool)
  | ([[[.i x0], [.i x1], [.i x2], [.i x3], [.s x4], [.i x5], [.i x6], [.b x7], [.b x8], [.i x9], [.i x10], [.b x11], [.b x12], [.r x13]]], []) => F_spec_l3NodeOk n x0 x1 x2 x3 x4 x5 x6 x7 x8 x9 x10 x11 x12 x13
  | _ => none
def E_spec_l3NodeOk (n : Nat) (d : List AV → List Go.Eng.Frame → Tr Res) : List AV → List Go.Eng.Frame → Tr Res := cent (A_spec_l3NodeOk (0) (0) (0) (0) (⟨#[]⟩) (0) (0) (false) (false) (0) (0) (false) (false) ([])) (U_spec_l3NodeOk (0) (0) (0) (0) (⟨#[]⟩) (0) (0) (false) (false) (0) (0) (false) (false) ([])) (FH_spec_l3NodeOk n) O_spec_l3NodeOk d
theorem eo_spec_l3NodeOk (n : Nat) {d : List AV → List Go.Eng.Frame → Tr Res} (hd : ∀ ar up r, (d ar up).run = some r → runs KP lib n 66 ar up = some r) : ∀ ar up r, (E_spec_l3NodeOk n d ar up).run = some r → runs KP lib n 66 ar up = some r :=
  cent_ok (fun hs r h => by
    unfold FH_spec_l3NodeOk at h
    split at h
    · exact ⟨A_spec_l3NodeOk _ _ _ _ _ _ _ _ _ _ _ _ _ _, U_spec_l3NodeOk _ _ _ _ _ _ _ _ _ _ _ _ _ _, rfl, rfl, th_spec_l3NodeOk n _ _ _ _ _ _ _ _ _ _ _ _ _ _ r h⟩
    · cases h) hd
/-! ### spec.l3Tree -/
def A_spec_l3Tree (x0 : List (List PV)) (x1 : Int) : List AV := [(.c (.p (.ls x0))), (.c (.p (.i .i64 x1)))]
def U_spec_l3Tree (x0 : List (List PV)) (x1 : Int) : List Go.Eng.Frame := []
def O_spec_l3Tree (r : Int) : Res := ⟨(.c (.p (.i .i64 r))), [], []⟩
def FHr_spec_l3Tree (rec : List (List PV) → Int → Option (Int)) : Cont → Option (Int)
  | ([[[.r x0]], [[.i x1]]], []) => rec x0 x1
  | _ => none
abbrev CT_spec_l3Tree (rec : List (List PV) → Int → Option (Int)) (n : Nat) : CTab := mkCT [(67, cent (A_spec_l3Tree ([]) (0)) (U_spec_l3Tree ([]) (0)) (fun hs => FHr_spec_l3Tree rec hs) O_spec_l3Tree (noEnt))]
def S_spec_l3Tree_29 (v : (List (List PV)) × Int × Int × Int) : St := ⟨[(0, (.c (.p (.ls v.1)))), (1, (.c (.p (.i .i64 v.2.1)))), (5, (.c (.p (.i .i64 v.2.2.1)))), (6, (.c (.p (.i .i64 v.2.2.2))))], [], []⟩
def B_spec_l3Tree_29 (rec : List (List PV) → Int → Option (Int)) (n : Nat) (v : (List (List PV)) × Int × Int × Int) : Tr (((List (List PV)) × Int × Int × Int) ⊕ ((Int) ⊕ (Int))) := (.ask ((decide (v.2.2.2 ≥ (0 : Int)))) (.ask ((decide (v.2.2.1 < (0 : Int)))) (.done (.inr (.inl ((-1 : Int))))) (.ask (decide (0 ≤ v.2.1 ∧ v.2.1 < v.1.length)) (.opt (v.1[(v.2.1).toNat]?) fun e82 => (.ask (decide (e82.length = 14)) (.opt (cellL e82 13) fun y83 => (.ask (decide (0 ≤ v.2.2.2 ∧ v.2.2.2 < y83.length)) (.opt (y83[(v.2.2.2).toNat]?) fun e84 => (.ask (decide (e84.length = 1)) (.opt (cellI .i64 e84 0) fun y85 => (.ask ((y85 != v.2.2.1)) (.done (.inr (.inl ((-1 : Int))))) (.opt (rec v.1 v.2.2.1) fun r86 => (.ask ((decide (r86 < (0 : Int)))) (.done (.inr (.inl ((-1 : Int))))) (.done (.inl (v.1, v.2.1, (IntKind.i64.wrap (r86 - (1 : Int))), (IntKind.i64.wrap (v.2.2.2 - (1 : Int)))))))))) .fail)) .fail)) .fail)) .fail)) (.done (.inr (.inr (v.2.2.1)))))
def D_spec_l3Tree_29 : ((Int) ⊕ (Int)) → Ex × St := fun | .inl r => (.ret, ⟨[(4, (.c (.p (.i .i64 r))))], [], []⟩) | .inr r => (fun r => ((.exit 0), ⟨[(5, (.c (.p (.i .i64 r))))], [], []⟩)) r
def DT_spec_l3Tree_29 : ((Int) ⊕ (Int)) → Tr (Ex × St) := fun r => .alt r (fun r => .done (.ret, ⟨[(4, (.c (.p (.i .i64 r))))], [], []⟩)) (fun r => .done ((.exit 0), ⟨[(5, (.c (.p (.i .i64 r))))], [], []⟩))
def VH_spec_l3Tree_29 : Cont3 → Option ((List (List PV)) × Int × Int × Int)
  | ([[[.r w0]], [[.i w1]], [[.i w2]], [[.i w3]]], [], []) => some (w0, w1, w2, w3)
  | _ => none
abbrev LE_spec_l3Tree_29 (rec : List (List PV) → Int → Option (Int)) (n : Nat) : St → Tr (Ex × St) := lent (S_spec_l3Tree_29 ([], 0, 0, 0)) VH_spec_l3Tree_29 (B_spec_l3Tree_29 rec n) DT_spec_l3Tree_29 n
abbrev LT_spec_l3Tree (rec : List (List PV) → Int → Option (Int)) (n : Nat) : LTab := mkLT [(29, LE_spec_l3Tree_29 rec n)]
def T_spec_l3Tree (rec : List (List PV) → Int → Option (Int)) (n : Nat) (x0 : List (List PV)) (x1 : Int) : Tr (Int) := (.ask (decide (0 ≤ x1 ∧ x1 < x0.length)) (.opt (x0[(x1).toNat]?) fun e80 => (.ask (decide (e80.length = 14)) (.opt (cellL e80 13) fun y81 => (.opt (loopF (B_spec_l3Tree_29 rec n) n (x0, x1, (IntKind.i64.wrap (x1 - (1 : Int))), (IntKind.i64.wrap ((y81.length : Int) - (1 : Int))))) fun r87 => (.alt r87 (fun r88 => (.done r88)) (fun r89 => (.done (IntKind.i64.wrap (r89 + (1 : Int)))))))) .fail)) .fail)
def F_spec_l3Tree : Nat → List (List PV) → Int → Option (Int)
  | 0, _, _ => none
  | n + 1, x0, x1 => (T_spec_l3Tree (F_spec_l3Tree n) n x0 x1).run
theorem ft_spec_l3Tree (rec : List (List PV) → Int → Option (Int)) (n : Nat) (x0 : List (List PV)) (x1 : Int) : funT (CT_spec_l3Tree rec n) (LT_spec_l3Tree rec n) K_spec_l3Tree (A_spec_l3Tree x0 x1) (U_spec_l3Tree x0 x1) = (T_spec_l3Tree rec n x0 x1).bind fun r => .done (O_spec_l3Tree r) := by kernel_rfl
theorem ct_spec_l3Tree (n : Nat) (ih : ∀ (x0 : List (List PV)) (x1 : Int) r, F_spec_l3Tree n x0 x1 = some r → runs KP lib n 67 (A_spec_l3Tree x0 x1) (U_spec_l3Tree x0 x1) = some (O_spec_l3Tree r)) : CTok (CT_spec_l3Tree (F_spec_l3Tree n) n) (runs KP lib n) := mkCT_cons (cent_ok (fun hs r h => by
    unfold FHr_spec_l3Tree at h
    split at h
    · exact ⟨A_spec_l3Tree _ _, U_spec_l3Tree _ _, rfl, rfl, ih _ _ r h⟩
    · cases h) (noEnt_ok)) (mkCT_nil)
theorem lt_spec_l3Tree_29 (n : Nat) (v : (List (List PV)) × Int × Int × Int) : (evalCT (CT_spec_l3Tree (F_spec_l3Tree n) n) (mkLT []) K_spec_l3Tree_L29 (S_spec_l3Tree_29 v) []).bind (ltail [0, 1, 5, 6] [(.ret, [4]), ((.exit 0), [5])]) = (B_spec_l3Tree_29 (F_spec_l3Tree n) n v).bind (lenc S_spec_l3Tree_29 D_spec_l3Tree_29) := by
  obtain ⟨w0, w1, w2, w3⟩ := v
  kernel_rfl
theorem le_spec_l3Tree_29 (n : Nat) (ih : ∀ (x0 : List (List PV)) (x1 : Int) r, F_spec_l3Tree n x0 x1 = some r → runs KP lib n 67 (A_spec_l3Tree x0 x1) (U_spec_l3Tree x0 x1) = some (O_spec_l3Tree r)) : LEok (runs KP lib n) n (29, [0, 1, 5, 6], [(.ret, [4]), ((.exit 0), [5])], K_spec_l3Tree_L29) (LE_spec_l3Tree_29 (F_spec_l3Tree n) n) := fun st e s h =>
  lent_ok (ct_spec_l3Tree n ih) (noLoops rfl) (lt_spec_l3Tree_29 n) (fun r => by
    rcases r with r | r <;> (intro h; cases h)) (fun r y h => by
    rcases r with r | r <;> (cases h; rfl)) (fun hs v h => by
    unfold VH_spec_l3Tree_29 at h
    split at h <;> cases h
    rfl) h
theorem lo_spec_l3Tree (n : Nat) (ih : ∀ (x0 : List (List PV)) (x1 : Int) r, F_spec_l3Tree n x0 x1 = some r → runs KP lib n 67 (A_spec_l3Tree x0 x1) (U_spec_l3Tree x0 x1) = some (O_spec_l3Tree r)) : LTok (LT_spec_l3Tree (F_spec_l3Tree n) n) (runs KP lib n) n K_spec_l3Tree.body := mkLT_ok (by
  intro x hx
  have hx : x ∈ ([(29, [0, 1, 5, 6], [(.ret, [4]), ((.exit 0), [5])], K_spec_l3Tree_L29)] : List (Nat × List Nat × List (Ex × List Nat) × KCode)) := hx
  simp only [List.mem_cons, List.not_mem_nil, or_false] at hx
  rcases hx with rfl
  · exact ⟨LE_spec_l3Tree_29 (F_spec_l3Tree n) n, fun st => rfl, le_spec_l3Tree_29 n ih⟩)
theorem th_spec_l3Tree : ∀ (n : Nat) (x0 : List (List PV)) (x1 : Int) (r : Int), F_spec_l3Tree n x0 x1 = some r → runs KP lib n 67 (A_spec_l3Tree x0 x1) (U_spec_l3Tree x0 x1) = some (O_spec_l3Tree r)
  | 0, x0, x1, r, h => by cases h
  | n + 1, x0, x1, r, h => fun_step (kf := K_spec_l3Tree) rfl (ct_spec_l3Tree n (th_spec_l3Tree n)) (lo_spec_l3Tree n (th_spec_l3Tree n)) (ft_spec_l3Tree (F_spec_l3Tree n) n x0 x1) h
def FH_spec_l3Tree (n : Nat) : Cont → Option (Int)
  | ([[[.r x0]], [[.i x1]]], []) => F_spec_l3Tree n x0 x1
  | _ => none
def E_spec_l3Tree (n : Nat) (d : List AV → List Go.Eng.Frame → Tr Res) : List AV → List Go.Eng.Frame → Tr Res := cent (A_spec_l3Tree ([]) (0)) (U_spec_l3Tree ([]) (0)) (FH_spec_l3Tree n) O_spec_l3Tree d
theorem eo_spec_l3Tree (n : Nat) {d : List AV → List Go.Eng.Frame → Tr Res} (hd : ∀ ar up r, (d ar up).run = some r → runs KP lib n 67 ar up = some r) : ∀ ar up r, (E_spec_l3Tree n d ar up).run = some r → runs KP lib n 67 ar up = some r :=
  cent_ok (fun hs r h => by
    unfold FH_spec_l3Tree at h
    split at h
    · exact ⟨A_spec_l3Tree _ _, U_spec_l3Tree _ _, rfl, rfl, th_spec_l3Tree n _ _ r h⟩
    · cases h) hd
/-! ### spec.l3Deep -/
def A_spec_l3Deep (x0 : List (List PV)) (x1 : Int) : List AV := [(.c (.p (.ls x0))), (.c (.p (.i .i64 x1)))]
def U_spec_l3Deep (x0 : List (List PV)) (x1 : Int) : List Go.Eng.Frame := []
def O_spec_l3Deep (r : Int) : Res := ⟨(.c (.p (.i .i64 r))), [], []⟩
def FHr_spec_l3Deep (rec : List (List PV) → Int → Option (Int)) : Cont → Option (Int)
  | ([[[.r x0]], [[.i x1]]], []) => rec x0 x1
  | _ => none
abbrev CT_spec_l3Deep (rec : List (List PV) → Int → Option (Int)) (n : Nat) : CTab := mkCT [(68, cent (A_spec_l3Deep ([]) (0)) (U_spec_l3Deep ([]) (0)) (fun hs => FHr_spec_l3Deep rec hs) O_spec_l3Deep (noEnt))]
def S_spec_l3Deep_29 (v : (List (List PV)) × Int × Int × Int) : St := ⟨[(0, (.c (.p (.ls v.1)))), (1, (.c (.p (.i .i64 v.2.1)))), (5, (.c (.p (.i .i64 v.2.2.1)))), (6, (.c (.p (.i .i64 v.2.2.2))))], [], []⟩
def B_spec_l3Deep_29 (rec : List (List PV) → Int → Option (Int)) (n : Nat) (v : (List (List PV)) × Int × Int × Int) : Tr (((List (List PV)) × Int × Int × Int) ⊕ ((Int))) := (.ask (decide (0 ≤ v.2.1 ∧ v.2.1 < v.1.length)) (.opt (v.1[(v.2.1).toNat]?) fun e100 => (.ask (decide (e100.length = 14)) (.opt (cellL e100 13) fun y101 => (.ask ((decide (v.2.2.2 < (y101.length : Int)))) (.ask (decide (0 ≤ v.2.1 ∧ v.2.1 < v.1.length)) (.opt (v.1[(v.2.1).toNat]?) fun e102 => (.ask (decide (e102.length = 14)) (.opt (cellL e102 13) fun y103 => (.ask (decide (0 ≤ v.2.2.2 ∧ v.2.2.2 < y103.length)) (.opt (y103[(v.2.2.2).toNat]?) fun e104 => (.ask (decide (e104.length = 1)) (.opt (cellI .i64 e104 0) fun y105 => (.opt (rec v.1 y105) fun r106 => (.done (.inl (v.1, v.2.1, (if r106 > v.2.2.1 then r106 else v.2.2.1), (IntKind.i64.wrap (v.2.2.2 + (1 : Int)))))))) .fail)) .fail)) .fail)) .fail) (.done (.inr (v.2.2.1))))) .fail)) .fail)
def D_spec_l3Deep_29 : (Int) → Ex × St := fun r => ((.exit 0), ⟨[(5, (.c (.p (.i .i64 r))))], [], []⟩)
def DT_spec_l3Deep_29 : (Int) → Tr (Ex × St) := fun r => .done ((.exit 0), ⟨[(5, (.c (.p (.i .i64 r))))], [], []⟩)
def VH_spec_l3Deep_29 : Cont3 → Option ((List (List PV)) × Int × Int × Int)
  | ([[[.r w0]], [[.i w1]], [[.i w2]], [[.i w3]]], [], []) => some (w0, w1, w2, w3)
  | _ => none
abbrev LE_spec_l3Deep_29 (rec : List (List PV) → Int → Option (Int)) (n : Nat) : St → Tr (Ex × St) := lent (S_spec_l3Deep_29 ([], 0, 0, 0)) VH_spec_l3Deep_29 (B_spec_l3Deep_29 rec n) DT_spec_l3Deep_29 n
abbrev LT_spec_l3Deep (rec : List (List PV) → Int → Option (Int)) (n : Nat) : LTab := mkLT [(29, LE_spec_l3Deep_29 rec n)]
def T_spec_l3Deep (rec : List (List PV) → Int → Option (Int)) (n : Nat) (x0 : List (List PV)) (x1 : Int) : Tr (Int) := (.opt (loopF (B_spec_l3Deep_29 rec n) n (x0, x1, (0 : Int), (0 : Int))) fun r107 => (.done (IntKind.i64.wrap (r107 + (1 : Int)))))
def F_spec_l3Deep : Nat → List (List PV) → Int → Option (Int)
  | 0, _, _ => none
  | n + 1, x0, x1 => (T_spec_l3Deep (F_spec_l3Deep n) n x0 x1).run
theorem ft_spec_l3Deep (rec : List (List PV) → Int → Option (Int)) (n : Nat) (x0 : List (List PV)) (x1 : Int) : funT (CT_spec_l3Deep rec n) (LT_spec_l3Deep rec n) K_spec_l3Deep (A_spec_l3Deep x0 x1) (U_spec_l3Deep x0 x1) = (T_spec_l3Deep rec n x0 x1).bind fun r => .done (O_spec_l3Deep r) := by kernel_rfl
theorem ct_spec_l3Deep (n : Nat) (ih : ∀ (x0 : List (List PV)) (x1 : Int) r, F_spec_l3Deep n x0 x1 = some r → runs KP lib n 68 (A_spec_l3Deep x0 x1) (U_spec_l3Deep x0 x1) = some (O_spec_l3Deep r)) : CTok (CT_spec_l3Deep (F_spec_l3Deep n) n) (runs KP lib n) := mkCT_cons (cent_ok (fun hs r h => by
    unfold FHr_spec_l3Deep at h
    split at h
    · exact ⟨A_spec_l3Deep _ _, U_spec_l3Deep _ _, rfl, rfl, ih _ _ r h⟩
    · cases h) (noEnt_ok)) (mkCT_nil)
theorem lt_spec_l3Deep_29 (n : Nat) (v : (List (List PV)) × Int × Int × Int) : (evalCT (CT_spec_l3Deep (F_spec_l3Deep n) n) (mkLT []) K_spec_l3Deep_L29 (S_spec_l3Deep_29 v) []).bind (ltail [0, 1, 5, 6] [(.ret, [4]), ((.exit 0), [5])]) = (B_spec_l3Deep_29 (F_spec_l3Deep n) n v).bind (lenc S_spec_l3Deep_29 D_spec_l3Deep_29) := by
  obtain ⟨w0, w1, w2, w3⟩ := v
  kernel_rfl
theorem le_spec_l3Deep_29 (n : Nat) (ih : ∀ (x0 : List (List PV)) (x1 : Int) r, F_spec_l3Deep n x0 x1 = some r → runs KP lib n 68 (A_spec_l3Deep x0 x1) (U_spec_l3Deep x0 x1) = some (O_spec_l3Deep r)) : LEok (runs KP lib n) n (29, [0, 1, 5, 6], [(.ret, [4]), ((.exit 0), [5])], K_spec_l3Deep_L29) (LE_spec_l3Deep_29 (F_spec_l3Deep n) n) := fun st e s h =>
  lent_ok (ct_spec_l3Deep n ih) (noLoops rfl) (lt_spec_l3Deep_29 n) (fun r h => by cases h) (fun r y h => by cases h; rfl) (fun hs v h => by
    unfold VH_spec_l3Deep_29 at h
    split at h <;> cases h
    rfl) h
theorem lo_spec_l3Deep (n : Nat) (ih : ∀ (x0 : List (List PV)) (x1 : Int) r, F_spec_l3Deep n x0 x1 = some r → runs KP lib n 68 (A_spec_l3Deep x0 x1) (U_spec_l3Deep x0 x1) = some (O_spec_l3Deep r)) : LTok (LT_spec_l3Deep (F_spec_l3Deep n) n) (runs KP lib n) n K_spec_l3Deep.body := mkLT_ok (by
  intro x hx
  have hx : x ∈ ([(29, [0, 1, 5, 6], [(.ret, [4]), ((.exit 0), [5])], K_spec_l3Deep_L29)] : List (Nat × List Nat × List (Ex × List Nat) × KCode)) := hx
  simp only [List.mem_cons, List.not_mem_nil, or_false] at hx
  rcases hx with rfl
  · exact ⟨LE_spec_l3Deep_29 (F_spec_l3Deep n) n, fun st => rfl, le_spec_l3Deep_29 n ih⟩)
theorem th_spec_l3Deep : ∀ (n : Nat) (x0 : List (List PV)) (x1 : Int) (r : Int), F_spec_l3Deep n x0 x1 = some r → runs KP lib n 68 (A_spec_l3Deep x0 x1) (U_spec_l3Deep x0 x1) = some (O_spec_l3Deep r)
  | 0, x0, x1, r, h => by cases h
  | n + 1, x0, x1, r, h => fun_step (kf := K_spec_l3Deep) rfl (ct_spec_l3Deep n (th_spec_l3Deep n)) (lo_spec_l3Deep n (th_spec_l3Deep n)) (ft_spec_l3Deep (F_spec_l3Deep n) n x0 x1) h
def FH_spec_l3Deep (n : Nat) : Cont → Option (Int)
  | ([[[.r x0]], [[.i x1]]], []) => F_spec_l3Deep n x0 x1
  | _ => none
def E_spec_l3Deep (n : Nat) (d : List AV → List Go.Eng.Frame → Tr Res) : List AV → List Go.Eng.Frame → Tr Res := cent (A_spec_l3Deep ([]) (0)) (U_spec_l3Deep ([]) (0)) (FH_spec_l3Deep n) O_spec_l3Deep d
theorem eo_spec_l3Deep (n : Nat) {d : List AV → List Go.Eng.Frame → Tr Res} (hd : ∀ ar up r, (d ar up).run = some r → runs KP lib n 68 ar up = some r) : ∀ ar up r, (E_spec_l3Deep n d ar up).run = some r → runs KP lib n 68 ar up = some r :=
  cent_ok (fun hs r h => by
    unfold FH_spec_l3Deep at h
    split at h
    · exact ⟨A_spec_l3Deep _ _, U_spec_l3Deep _ _, rfl, rfl, th_spec_l3Deep n _ _ r h⟩
    · cases h) hd
/-! ### spec.FormulaOk -/
def A_spec_FormulaOk (x0 : List (List PV)) : List AV := [(.c (.p (.ls x0)))]
def U_spec_FormulaOk (x0 : List (List PV)) : List Go.Eng.Frame := []
def O_spec_FormulaOk (r : Bool) : Res := ⟨(.c (.p (.b r))), [], []⟩
abbrev CT_spec_FormulaOk (n : Nat) : CTab := mkCT [(66, E_spec_l3NodeOk n (noEnt)), (41, E_spec_l1In n (noEnt)), (67, E_spec_l3Tree n (noEnt)), (68, E_spec_l3Deep n (noEnt))]
def S_spec_FormulaOk_475 (v : (List (List PV)) × Int × Int) : St := ⟨[(0, (.c (.p (.ls v.1)))), (3, (.c (.p (.i .i64 v.2.1)))), (4, (.c (.p (.i .i64 v.2.2))))], [], []⟩
def B_spec_FormulaOk_475 (n : Nat) (v : (List (List PV)) × Int × Int) : Tr (((List (List PV)) × Int × Int) ⊕ ((Bool) ⊕ ((List (List PV)) × Int))) := (.ask (decide (0 ≤ v.2.1 ∧ v.2.1 < v.1.length)) (.opt (v.1[(v.2.1).toNat]?) fun e56 => (.ask (decide (e56.length = 14)) (.opt (cellL e56 13) fun y57 => (.ask ((decide (v.2.2 < (y57.length : Int)))) (.ask (decide (0 ≤ v.2.1 ∧ v.2.1 < v.1.length)) (.opt (v.1[(v.2.1).toNat]?) fun e58 => (.ask (decide (e58.length = 14)) (.opt (cellL e58 13) fun y59 => (.ask (decide (0 ≤ v.2.2 ∧ v.2.2 < y59.length)) (.opt (y59[(v.2.2).toNat]?) fun e60 => (.ask (decide (e60.length = 1)) (.opt (cellI .i64 e60 0) fun y61 => (.opt (F_spec_l1In n y61 (0 : Int) (IntKind.i64.wrap (v.2.1 - (1 : Int)))) fun r62 => (.ask ((!r62)) (.done (.inr (.inl (false)))) (.ask (decide (0 ≤ y61 ∧ y61 < v.1.length)) (.opt (v.1[(y61).toNat]?) fun e63 => (.ask (decide (e63.length = 14)) (.opt (cellI .i64 e63 0) fun y64 => (.ask ((y64 == (3 : Int))) (.ask (decide (0 ≤ v.2.1 ∧ v.2.1 < v.1.length)) (.opt (v.1[(v.2.1).toNat]?) fun e65 => (.ask (decide (e65.length = 14)) (.opt (cellI .i64 e65 0) fun y66 => (.ask ((y66 != (6 : Int))) (.done (.inr (.inl (false)))) (.done (.inl (v.1, v.2.1, (IntKind.i64.wrap (v.2.2 + (1 : Int)))))))) .fail)) .fail) (.done (.inl (v.1, v.2.1, (IntKind.i64.wrap (v.2.2 + (1 : Int)))))))) .fail)) .fail)))) .fail)) .fail)) .fail)) .fail) (.done (.inr (.inr ((v.1, v.2.1))))))) .fail)) .fail)
def D_spec_FormulaOk_475 : ((Bool) ⊕ ((List (List PV)) × Int)) → Ex × St := fun | .inl r => (.ret, ⟨[(2, (.c (.p (.b r))))], [], []⟩) | .inr r => (fun r => ((.exit 2), ⟨[(0, (.c (.p (.ls r.1)))), (3, (.c (.p (.i .i64 r.2))))], [], []⟩)) r
def DT_spec_FormulaOk_475 : ((Bool) ⊕ ((List (List PV)) × Int)) → Tr (Ex × St) := fun r => .alt r (fun r => .done (.ret, ⟨[(2, (.c (.p (.b r))))], [], []⟩)) (fun r => .done ((.exit 2), ⟨[(0, (.c (.p (.ls r.1)))), (3, (.c (.p (.i .i64 r.2))))], [], []⟩))
def VH_spec_FormulaOk_475 : Cont3 → Option ((List (List PV)) × Int × Int)
  | ([[[.r w0]], [[.i w1]], [[.i w2]]], [], []) => some (w0, w1, w2)
  | _ => none
abbrev LE_spec_FormulaOk_475 (n : Nat) : St → Tr (Ex × St) := lent (S_spec_FormulaOk_475 ([], 0, 0)) VH_spec_FormulaOk_475 (B_spec_FormulaOk_475 n) DT_spec_FormulaOk_475 n
def S_spec_FormulaOk_29 (v : (List (List PV)) × Int) : St := ⟨[(0, (.c (.p (.ls v.1)))), (3, (.c (.p (.i .i64 v.2))))], [], []⟩
def B_spec_FormulaOk_29 (n : Nat) (v : (List (List PV)) × Int) : Tr (((List (List PV)) × Int) ⊕ ((Bool) ⊕ ((List (List PV))))) := (.ask ((decide (v.2 < (v.1.length : Int)))) (.ask (decide (0 ≤ v.2 ∧ v.2 < v.1.length)) (.opt (v.1[(v.2).toNat]?) fun e40 => (.ask (decide (e40.length = 14)) (.opt (cellI .i64 e40 0) fun y41 => (.opt (cellI .i64 e40 1) fun y42 => (.opt (cellI .i64 e40 2) fun y43 => (.opt (cellI .i64 e40 3) fun y44 => (.opt (cellS e40 4) fun y45 => (.opt (cellI .i64 e40 5) fun y46 => (.opt (cellI .i64 e40 6) fun y47 => (.opt (cellB e40 7) fun y48 => (.opt (cellB e40 8) fun y49 => (.opt (cellI .i64 e40 9) fun y50 => (.opt (cellI .i64 e40 10) fun y51 => (.opt (cellB e40 11) fun y52 => (.opt (cellB e40 12) fun y53 => (.opt (cellL e40 13) fun y54 => (.opt (F_spec_l3NodeOk n y41 y42 y43 y44 y45 y46 y47 y48 y49 y50 y51 y52 y53 y54) fun r55 => (.ask ((!r55)) (.done (.inr (.inl (false)))) (.opt (loopF (B_spec_FormulaOk_475 n) n (v.1, v.2, (0 : Int))) fun r67 => (.alt r67 (fun r68 => (.done (.inr (.inl (r68))))) (fun r69 => (.done (.inl (r69.1, (IntKind.i64.wrap (r69.2 + (1 : Int))))))))))))))))))))))))) .fail)) .fail) (.done (.inr (.inr (v.1)))))
def D_spec_FormulaOk_29 : ((Bool) ⊕ ((List (List PV)))) → Ex × St := fun | .inl r => (.ret, ⟨[(2, (.c (.p (.b r))))], [], []⟩) | .inr r => (fun r => ((.exit 0), ⟨[(0, (.c (.p (.ls r))))], [], []⟩)) r
def DT_spec_FormulaOk_29 : ((Bool) ⊕ ((List (List PV)))) → Tr (Ex × St) := fun r => .alt r (fun r => .done (.ret, ⟨[(2, (.c (.p (.b r))))], [], []⟩)) (fun r => .done ((.exit 0), ⟨[(0, (.c (.p (.ls r))))], [], []⟩))
def VH_spec_FormulaOk_29 : Cont3 → Option ((List (List PV)) × Int)
  | ([[[.r w0]], [[.i w1]]], [], []) => some (w0, w1)
  | _ => none
abbrev LE_spec_FormulaOk_29 (n : Nat) : St → Tr (Ex × St) := lent (S_spec_FormulaOk_29 ([], 0)) VH_spec_FormulaOk_29 (B_spec_FormulaOk_29 n) DT_spec_FormulaOk_29 n
abbrev LT_spec_FormulaOk (n : Nat) : LTab := mkLT [(29, LE_spec_FormulaOk_29 n)]
def T_spec_FormulaOk (n : Nat) (x0 : List (List PV)) : Tr (Bool) := (.ask ((decide ((x0.length : Int) < (1 : Int)))) (.done false) (.ask ((decide ((x0.length : Int) > (60 : Int)))) (.done false) (.opt (loopF (B_spec_FormulaOk_29 n) n (x0, (0 : Int))) fun r70 => (.alt r70 (fun r71 => (.done r71)) (fun r72 => (.opt (F_spec_l3Tree n r72 (IntKind.i64.wrap ((r72.length : Int) - (1 : Int)))) fun r90 => (.ask ((r90 == (0 : Int))) (.ask (decide (0 ≤ (IntKind.i64.wrap ((r72.length : Int) - (1 : Int))) ∧ (IntKind.i64.wrap ((r72.length : Int) - (1 : Int))) < r72.length)) (.opt (r72[((IntKind.i64.wrap ((r72.length : Int) - (1 : Int)))).toNat]?) fun e91 => (.ask (decide (e91.length = 14)) (.opt (cellI .i64 e91 0) fun y92 => (.ask ((y92 != (3 : Int))) (.opt (F_spec_l3Deep n r72 (IntKind.i64.wrap ((r72.length : Int) - (1 : Int)))) fun r108 => (.done (decide (r108 ≤ (12 : Int))))) (.done false))) .fail)) .fail) (.done false))))))))
def F_spec_FormulaOk : Nat → List (List PV) → Option (Bool)
  | 0, _ => none
  | n + 1, x0 => (T_spec_FormulaOk n x0).run
theorem ft_spec_FormulaOk (n : Nat) (x0 : List (List PV)) : funT (CT_spec_FormulaOk n) (LT_spec_FormulaOk n) K_spec_FormulaOk (A_spec_FormulaOk x0) (U_spec_FormulaOk x0) = (T_spec_FormulaOk n x0).bind fun r => .done (O_spec_FormulaOk r) := by kernel_rfl
theorem ct_spec_FormulaOk (n : Nat) : CTok (CT_spec_FormulaOk n) (runs KP lib n) := mkCT_cons (eo_spec_l3NodeOk n (noEnt_ok)) (mkCT_cons (eo_spec_l1In n (noEnt_ok)) (mkCT_cons (eo_spec_l3Tree n (noEnt_ok)) (mkCT_cons (eo_spec_l3Deep n (noEnt_ok)) (mkCT_nil))))
theorem lt_spec_FormulaOk_475 (n : Nat) (v : (List (List PV)) × Int × Int) : (evalCT (CT_spec_FormulaOk n) (mkLT []) K_spec_FormulaOk_L475 (S_spec_FormulaOk_475 v) []).bind (ltail [0, 3, 4] [(.ret, [2]), ((.exit 2), [0, 3]), ((.exit 1), [0, 3]), ((.exit 0), [0])]) = (B_spec_FormulaOk_475 n v).bind (lenc S_spec_FormulaOk_475 D_spec_FormulaOk_475) := by
  obtain ⟨w0, w1, w2⟩ := v
  kernel_rfl
theorem le_spec_FormulaOk_475 (n : Nat) : LEok (runs KP lib n) n (475, [0, 3, 4], [(.ret, [2]), ((.exit 2), [0, 3]), ((.exit 1), [0, 3]), ((.exit 0), [0])], K_spec_FormulaOk_L475) (LE_spec_FormulaOk_475 n) := fun st e s h =>
  lent_ok (ct_spec_FormulaOk n) (noLoops rfl) (lt_spec_FormulaOk_475 n) (fun r => by
    rcases r with r | r <;> (intro h; cases h)) (fun r y h => by
    rcases r with r | r <;> (cases h; rfl)) (fun hs v h => by
    unfold VH_spec_FormulaOk_475 at h
    split at h <;> cases h
    rfl) h
theorem li_spec_FormulaOk_29 (n : Nat) : LTok (mkLT [(475, LE_spec_FormulaOk_475 n)]) (runs KP lib n) n K_spec_FormulaOk_L29 := mkLT_ok (by
  intro x hx
  have hx : x ∈ ([(475, [0, 3, 4], [(.ret, [2]), ((.exit 2), [0, 3]), ((.exit 1), [0, 3]), ((.exit 0), [0])], K_spec_FormulaOk_L475)] : List (Nat × List Nat × List (Ex × List Nat) × KCode)) := hx
  simp only [List.mem_cons, List.not_mem_nil, or_false] at hx
  rcases hx with rfl
  · exact ⟨LE_spec_FormulaOk_475 n, fun st => rfl, le_spec_FormulaOk_475 n⟩)
theorem lt_spec_FormulaOk_29 (n : Nat) (v : (List (List PV)) × Int) : (evalCT (CT_spec_FormulaOk n) (mkLT [(475, LE_spec_FormulaOk_475 n)]) K_spec_FormulaOk_L29 (S_spec_FormulaOk_29 v) []).bind (ltail [0, 3] [(.ret, [2]), ((.exit 0), [0])]) = (B_spec_FormulaOk_29 n v).bind (lenc S_spec_FormulaOk_29 D_spec_FormulaOk_29) := by
  obtain ⟨w0, w1⟩ := v
  kernel_rfl
theorem le_spec_FormulaOk_29 (n : Nat) : LEok (runs KP lib n) n (29, [0, 3], [(.ret, [2]), ((.exit 0), [0])], K_spec_FormulaOk_L29) (LE_spec_FormulaOk_29 n) := fun st e s h =>
  lent_ok (ct_spec_FormulaOk n) (li_spec_FormulaOk_29 n) (lt_spec_FormulaOk_29 n) (fun r => by
    rcases r with r | r <;> (intro h; cases h)) (fun r y h => by
    rcases r with r | r <;> (cases h; rfl)) (fun hs v h => by
    unfold VH_spec_FormulaOk_29 at h
    split at h <;> cases h
    rfl) h
theorem lo_spec_FormulaOk (n : Nat) : LTok (LT_spec_FormulaOk n) (runs KP lib n) n K_spec_FormulaOk.body := mkLT_ok (by
  intro x hx
  have hx : x ∈ ([(29, [0, 3], [(.ret, [2]), ((.exit 0), [0])], K_spec_FormulaOk_L29)] : List (Nat × List Nat × List (Ex × List Nat) × KCode)) := hx
  simp only [List.mem_cons, List.not_mem_nil, or_false] at hx
  rcases hx with rfl
  · exact ⟨LE_spec_FormulaOk_29 n, fun st => rfl, le_spec_FormulaOk_29 n⟩)
theorem th_spec_FormulaOk : ∀ (n : Nat) (x0 : List (List PV)) (r : Bool), F_spec_FormulaOk n x0 = some r → runs KP lib n 46 (A_spec_FormulaOk x0) (U_spec_FormulaOk x0) = some (O_spec_FormulaOk r)
  | 0, x0, r, h => by cases h
  | n + 1, x0, r, h => fun_step (kf := K_spec_FormulaOk) rfl (ct_spec_FormulaOk n) (lo_spec_FormulaOk n) (ft_spec_FormulaOk n x0) h
def FH_spec_FormulaOk (n : Nat) : Cont → Option (Bool)
  | ([[[.r x0]]], []) => F_spec_FormulaOk n x0
  | _ => none
def E_spec_FormulaOk (n : Nat) (d : List AV → List Go.Eng.Frame → Tr Res) : List AV → List Go.Eng.Frame → Tr Res := cent (A_spec_FormulaOk ([])) (U_spec_FormulaOk ([])) (FH_spec_FormulaOk n) O_spec_FormulaOk d
theorem eo_spec_FormulaOk (n : Nat) {d : List AV → List Go.Eng.Frame → Tr Res} (hd : ∀ ar up r, (d ar up).run = some r → runs KP lib n 46 ar up = some r) : ∀ ar up r, (E_spec_FormulaOk n d ar up).run = some r → runs KP lib n 46 ar up = some r :=
  cent_ok (fun hs r h => by
    unfold FH_spec_FormulaOk at h
    split at h
    · exact ⟨A_spec_FormulaOk _, U_spec_FormulaOk _, rfl, rfl, th_spec_FormulaOk n _ r h⟩
    · cases h) hd
/-! ### spec.l3Quote -/
def A_spec_l3Quote (x0 : ByteArray) : List AV := [(.c (.p (.s x0)))]
def U_spec_l3Quote (x0 : ByteArray) : List Go.Eng.Frame := []
def O_spec_l3Quote (r : ByteArray) : Res := ⟨(.c (.p (.s r))), [], []⟩
abbrev CT_spec_l3Quote (n : Nat) : CTab := mkCT []
def S_spec_l3Quote_29 (v : ByteArray × ByteArray × Int) : St := ⟨[(0, (.c (.p (.s v.1)))), (3, (.c (.p (.s v.2.1)))), (4, (.c (.p (.i .i64 v.2.2))))], [], []⟩
def B_spec_l3Quote_29 (n : Nat) (v : ByteArray × ByteArray × Int) : Tr ((ByteArray × ByteArray × Int) ⊕ ((ByteArray))) := (.ask ((decide (v.2.2 < (v.1.size : Int)))) (.ask (decide (0 ≤ v.2.2)) (.opt (v.1.toList[(v.2.2).toNat]?) fun c125 => (.ask (((c125.toNat : Int) == (34 : Int))) (.ask (decide (v.2.1.size + (⟨#[34]⟩ : ByteArray).size ≤ 9223372036854775807)) (.ask (decide (0 ≤ v.2.2 ∧ v.2.2 ≤ (IntKind.i64.wrap (v.2.2 + (1 : Int))) ∧ (IntKind.i64.wrap (v.2.2 + (1 : Int))) ≤ v.1.size)) (.ask (decide ((v.2.1 ++ (⟨#[34]⟩ : ByteArray)).size + (v.1.extract (v.2.2).toNat ((IntKind.i64.wrap (v.2.2 + (1 : Int)))).toNat).size ≤ 9223372036854775807)) (.done (.inl (v.1, ((v.2.1 ++ (⟨#[34]⟩ : ByteArray)) ++ (v.1.extract (v.2.2).toNat ((IntKind.i64.wrap (v.2.2 + (1 : Int)))).toNat)), (IntKind.i64.wrap (v.2.2 + (1 : Int)))))) .fail) .fail) .fail) (.ask (decide (0 ≤ v.2.2 ∧ v.2.2 ≤ (IntKind.i64.wrap (v.2.2 + (1 : Int))) ∧ (IntKind.i64.wrap (v.2.2 + (1 : Int))) ≤ v.1.size)) (.ask (decide (v.2.1.size + (v.1.extract (v.2.2).toNat ((IntKind.i64.wrap (v.2.2 + (1 : Int)))).toNat).size ≤ 9223372036854775807)) (.done (.inl (v.1, (v.2.1 ++ (v.1.extract (v.2.2).toNat ((IntKind.i64.wrap (v.2.2 + (1 : Int)))).toNat)), (IntKind.i64.wrap (v.2.2 + (1 : Int)))))) .fail) .fail))) .fail) (.done (.inr (v.2.1))))
def D_spec_l3Quote_29 : (ByteArray) → Ex × St := fun r => ((.exit 0), ⟨[(3, (.c (.p (.s r))))], [], []⟩)
def DT_spec_l3Quote_29 : (ByteArray) → Tr (Ex × St) := fun r => .done ((.exit 0), ⟨[(3, (.c (.p (.s r))))], [], []⟩)
def VH_spec_l3Quote_29 : Cont3 → Option (ByteArray × ByteArray × Int)
  | ([[[.s w0]], [[.s w1]], [[.i w2]]], [], []) => some (w0, w1, w2)
  | _ => none
abbrev LE_spec_l3Quote_29 (n : Nat) : St → Tr (Ex × St) := lent (S_spec_l3Quote_29 (⟨#[]⟩, ⟨#[]⟩, 0)) VH_spec_l3Quote_29 (B_spec_l3Quote_29 n) DT_spec_l3Quote_29 n
abbrev LT_spec_l3Quote (n : Nat) : LTab := mkLT [(29, LE_spec_l3Quote_29 n)]
def T_spec_l3Quote (n : Nat) (x0 : ByteArray) : Tr (ByteArray) := (.opt (loopF (B_spec_l3Quote_29 n) n (x0, (⟨#[34]⟩ : ByteArray), (0 : Int))) fun r126 => (.ask (decide (r126.size + (⟨#[34]⟩ : ByteArray).size ≤ 9223372036854775807)) (.done (r126 ++ (⟨#[34]⟩ : ByteArray))) .fail))
def F_spec_l3Quote : Nat → ByteArray → Option (ByteArray)
  | 0, _ => none
  | n + 1, x0 => (T_spec_l3Quote n x0).run
theorem ft_spec_l3Quote (n : Nat) (x0 : ByteArray) : funT (CT_spec_l3Quote n) (LT_spec_l3Quote n) K_spec_l3Quote (A_spec_l3Quote x0) (U_spec_l3Quote x0) = (T_spec_l3Quote n x0).bind fun r => .done (O_spec_l3Quote r) := by kernel_rfl
theorem ct_spec_l3Quote (n : Nat) : CTok (CT_spec_l3Quote n) (runs KP lib n) := mkCT_nil
theorem lt_spec_l3Quote_29 (n : Nat) (v : ByteArray × ByteArray × Int) : (evalCT (CT_spec_l3Quote n) (mkLT []) K_spec_l3Quote_L29 (S_spec_l3Quote_29 v) []).bind (ltail [0, 3, 4] [(.ret, [2]), ((.exit 0), [3])]) = (B_spec_l3Quote_29 n v).bind (lenc S_spec_l3Quote_29 D_spec_l3Quote_29) := by
  obtain ⟨w0, w1, w2⟩ := v
  kernel_rfl
theorem le_spec_l3Quote_29 (n : Nat) : LEok (runs KP lib n) n (29, [0, 3, 4], [(.ret, [2]), ((.exit 0), [3])], K_spec_l3Quote_L29) (LE_spec_l3Quote_29 n) := fun st e s h =>
  lent_ok (ct_spec_l3Quote n) (noLoops rfl) (lt_spec_l3Quote_29 n) (fun r h => by cases h) (fun r y h => by cases h; rfl) (fun hs v h => by
    unfold VH_spec_l3Quote_29 at h
    split at h <;> cases h
    rfl) h
theorem lo_spec_l3Quote (n : Nat) : LTok (LT_spec_l3Quote n) (runs KP lib n) n K_spec_l3Quote.body := mkLT_ok (by
  intro x hx
  have hx : x ∈ ([(29, [0, 3, 4], [(.ret, [2]), ((.exit 0), [3])], K_spec_l3Quote_L29)] : List (Nat × List Nat × List (Ex × List Nat) × KCode)) := hx
  simp only [List.mem_cons, List.not_mem_nil, or_false] at hx
  rcases hx with rfl
  · exact ⟨LE_spec_l3Quote_29 n, fun st => rfl, le_spec_l3Quote_29 n⟩)
theorem th_spec_l3Quote : ∀ (n : Nat) (x0 : ByteArray) (r : ByteArray), F_spec_l3Quote n x0 = some r → runs KP lib n 69 (A_spec_l3Quote x0) (U_spec_l3Quote x0) = some (O_spec_l3Quote r)
  | 0, x0, r, h => by cases h
  | n + 1, x0, r, h => fun_step (kf := K_spec_l3Quote) rfl (ct_spec_l3Quote n) (lo_spec_l3Quote n) (ft_spec_l3Quote n x0) h
def FH_spec_l3Quote (n : Nat) : Cont → Option (ByteArray)
  | ([[[.s x0]]], []) => F_spec_l3Quote n x0
  | _ => none
def E_spec_l3Quote (n : Nat) (d : List AV → List Go.Eng.Frame → Tr Res) : List AV → List Go.Eng.Frame → Tr Res := cent (A_spec_l3Quote (⟨#[]⟩)) (U_spec_l3Quote (⟨#[]⟩)) (FH_spec_l3Quote n) O_spec_l3Quote d
theorem eo_spec_l3Quote (n : Nat) {d : List AV → List Go.Eng.Frame → Tr Res} (hd : ∀ ar up r, (d ar up).run = some r → runs KP lib n 69 ar up = some r) : ∀ ar up r, (E_spec_l3Quote n d ar up).run = some r → runs KP lib n 69 ar up = some r :=
  cent_ok (fun hs r h => by
    unfold FH_spec_l3Quote at h
    split at h
    · exact ⟨A_spec_l3Quote _, U_spec_l3Quote _, rfl, rfl, th_spec_l3Quote n _ r h⟩
    · cases h) hd
/-! ### spec.l1Dec -/
def A_spec_l1Dec (x0 : Int) : List AV := [(.c (.p (.i .i64 x0)))]
def U_spec_l1Dec (x0 : Int) : List Go.Eng.Frame := []
def O_spec_l1Dec (r : ByteArray) : Res := ⟨(.c (.p (.s r))), [], []⟩
def FHr_spec_l1Dec (rec : Int → Option (ByteArray)) : Cont → Option (ByteArray)
  | ([[[.i x0]]], []) => rec x0
  | _ => none
abbrev CT_spec_l1Dec (rec : Int → Option (ByteArray)) (n : Nat) : CTab := mkCT [(29, cent (A_spec_l1Dec (0)) (U_spec_l1Dec (0)) (fun hs => FHr_spec_l1Dec rec hs) O_spec_l1Dec (noEnt))]
def S_spec_l1Dec_30 (v : Int × ByteArray) : St := ⟨[(0, (.c (.p (.i .i64 v.1)))), (3, (.c (.p (.s v.2))))], [], []⟩
def B_spec_l1Dec_30 (n : Nat) (v : Int × ByteArray) : Tr ((Int × ByteArray) ⊕ ((Int × ByteArray))) := (.ask ((decide (v.1 ≥ (10 : Int)))) (.ask (decide (1 = ([[(.i .u8 (IntKind.u8.wrap (IntKind.i64.wrap ((48 : Int) + (Int.tmod v.1 (10 : Int))))))]] : List (List PV)).length)) (.opt (bytesOf ([[(.i .u8 (IntKind.u8.wrap (IntKind.i64.wrap ((48 : Int) + (Int.tmod v.1 (10 : Int))))))]] : List (List PV))) fun l131 => (.ask (decide ((⟨l131.toArray⟩ : ByteArray).size + v.2.size ≤ 9223372036854775807)) (.done (.inl ((IntKind.i64.wrap (Int.tdiv v.1 (10 : Int))), ((⟨l131.toArray⟩ : ByteArray) ++ v.2)))) .fail)) .fail) (.done (.inr ((v.1, v.2)))))
def D_spec_l1Dec_30 : (Int × ByteArray) → Ex × St := fun r => ((.exit 0), ⟨[(0, (.c (.p (.i .i64 r.1)))), (3, (.c (.p (.s r.2))))], [], []⟩)
def DT_spec_l1Dec_30 : (Int × ByteArray) → Tr (Ex × St) := fun r => .done ((.exit 0), ⟨[(0, (.c (.p (.i .i64 r.1)))), (3, (.c (.p (.s r.2))))], [], []⟩)
def VH_spec_l1Dec_30 : Cont3 → Option (Int × ByteArray)
  | ([[[.i w0]], [[.s w1]]], [], []) => some (w0, w1)
  | _ => none
abbrev LE_spec_l1Dec_30 (n : Nat) : St → Tr (Ex × St) := lent (S_spec_l1Dec_30 (0, ⟨#[]⟩)) VH_spec_l1Dec_30 (B_spec_l1Dec_30 n) DT_spec_l1Dec_30 n
abbrev LT_spec_l1Dec (rec : Int → Option (ByteArray)) (n : Nat) : LTab := mkLT [(30, LE_spec_l1Dec_30 n)]
def T_spec_l1Dec (rec : Int → Option (ByteArray)) (n : Nat) (x0 : Int) : Tr (ByteArray) := (.ask ((decide (x0 < (0 : Int)))) (.opt (rec (IntKind.i64.wrap (0 - x0))) fun r130 => (.ask (decide ((⟨#[45]⟩ : ByteArray).size + r130.size ≤ 9223372036854775807)) (.done ((⟨#[45]⟩ : ByteArray) ++ r130)) .fail)) (.opt (loopF (B_spec_l1Dec_30 n) n (x0, (⟨#[]⟩ : ByteArray))) fun r132 => (.ask (decide (1 = ([[(.i .u8 (IntKind.u8.wrap (IntKind.i64.wrap ((48 : Int) + r132.1))))]] : List (List PV)).length)) (.opt (bytesOf ([[(.i .u8 (IntKind.u8.wrap (IntKind.i64.wrap ((48 : Int) + r132.1))))]] : List (List PV))) fun l133 => (.ask (decide ((⟨l133.toArray⟩ : ByteArray).size + r132.2.size ≤ 9223372036854775807)) (.done ((⟨l133.toArray⟩ : ByteArray) ++ r132.2)) .fail)) .fail)))
def F_spec_l1Dec : Nat → Int → Option (ByteArray)
  | 0, _ => none
  | n + 1, x0 => (T_spec_l1Dec (F_spec_l1Dec n) n x0).run
theorem ft_spec_l1Dec (rec : Int → Option (ByteArray)) (n : Nat) (x0 : Int) : funT (CT_spec_l1Dec rec n) (LT_spec_l1Dec rec n) K_spec_l1Dec (A_spec_l1Dec x0) (U_spec_l1Dec x0) = (T_spec_l1Dec rec n x0).bind fun r => .done (O_spec_l1Dec r) := by kernel_rfl
theorem ct_spec_l1Dec (n : Nat) (ih : ∀ (x0 : Int) r, F_spec_l1Dec n x0 = some r → runs KP lib n 29 (A_spec_l1Dec x0) (U_spec_l1Dec x0) = some (O_spec_l1Dec r)) : CTok (CT_spec_l1Dec (F_spec_l1Dec n) n) (runs KP lib n) := mkCT_cons (cent_ok (fun hs r h => by
    unfold FHr_spec_l1Dec at h
    split at h
    · exact ⟨A_spec_l1Dec _, U_spec_l1Dec _, rfl, rfl, ih _ r h⟩
    · cases h) (noEnt_ok)) (mkCT_nil)
theorem lt_spec_l1Dec_30 (n : Nat) (v : Int × ByteArray) : (evalCT (CT_spec_l1Dec (F_spec_l1Dec n) n) (mkLT []) K_spec_l1Dec_L30 (S_spec_l1Dec_30 v) []).bind (ltail [0, 3] [(.ret, [2]), ((.exit 0), [0, 3])]) = (B_spec_l1Dec_30 n v).bind (lenc S_spec_l1Dec_30 D_spec_l1Dec_30) := by
  obtain ⟨w0, w1⟩ := v
  kernel_rfl
theorem le_spec_l1Dec_30 (n : Nat) (ih : ∀ (x0 : Int) r, F_spec_l1Dec n x0 = some r → runs KP lib n 29 (A_spec_l1Dec x0) (U_spec_l1Dec x0) = some (O_spec_l1Dec r)) : LEok (runs KP lib n) n (30, [0, 3], [(.ret, [2]), ((.exit 0), [0, 3])], K_spec_l1Dec_L30) (LE_spec_l1Dec_30 n) := fun st e s h =>
  lent_ok (ct_spec_l1Dec n ih) (noLoops rfl) (lt_spec_l1Dec_30 n) (fun r h => by cases h) (fun r y h => by cases h; rfl) (fun hs v h => by
    unfold VH_spec_l1Dec_30 at h
    split at h <;> cases h
    rfl) h
theorem lo_spec_l1Dec (n : Nat) (ih : ∀ (x0 : Int) r, F_spec_l1Dec n x0 = some r → runs KP lib n 29 (A_spec_l1Dec x0) (U_spec_l1Dec x0) = some (O_spec_l1Dec r)) : LTok (LT_spec_l1Dec (F_spec_l1Dec n) n) (runs KP lib n) n K_spec_l1Dec.body := mkLT_ok (by
  intro x hx
  have hx : x ∈ ([(30, [0, 3], [(.ret, [2]), ((.exit 0), [0, 3])], K_spec_l1Dec_L30)] : List (Nat × List Nat × List (Ex × List Nat) × KCode)) := hx
  simp only [List.mem_cons, List.not_mem_nil, or_false] at hx
  rcases hx with rfl
  · exact ⟨LE_spec_l1Dec_30 n, fun st => rfl, le_spec_l1Dec_30 n ih⟩)
theorem th_spec_l1Dec : ∀ (n : Nat) (x0 : Int) (r : ByteArray), F_spec_l1Dec n x0 = some r → runs KP lib n 29 (A_spec_l1Dec x0) (U_spec_l1Dec x0) = some (O_spec_l1Dec r)
  | 0, x0, r, h => by cases h
  | n + 1, x0, r, h => fun_step (kf := K_spec_l1Dec) rfl (ct_spec_l1Dec n (th_spec_l1Dec n)) (lo_spec_l1Dec n (th_spec_l1Dec n)) (ft_spec_l1Dec (F_spec_l1Dec n) n x0) h
def FH_spec_l1Dec (n : Nat) : Cont → Option (ByteArray)
  | ([[[.i x0]]], []) => F_spec_l1Dec n x0
  | _ => none
def E_spec_l1Dec (n : Nat) (d : List AV → List Go.Eng.Frame → Tr Res) : List AV → List Go.Eng.Frame → Tr Res := cent (A_spec_l1Dec (0)) (U_spec_l1Dec (0)) (FH_spec_l1Dec n) O_spec_l1Dec d
theorem eo_spec_l1Dec (n : Nat) {d : List AV → List Go.Eng.Frame → Tr Res} (hd : ∀ ar up r, (d ar up).run = some r → runs KP lib n 29 ar up = some r) : ∀ ar up r, (E_spec_l1Dec n d ar up).run = some r → runs KP lib n 29 ar up = some r :=
  cent_ok (fun hs r h => by
    unfold FH_spec_l1Dec at h
    split at h
    · exact ⟨A_spec_l1Dec _, U_spec_l1Dec _, rfl, rfl, th_spec_l1Dec n _ r h⟩
    · cases h) hd
/-! ### spec.l2Bool -/
def A_spec_l2Bool (x0 : Int) : List AV := [(.c (.p (.i .i64 x0)))]
def U_spec_l2Bool (x0 : Int) : List Go.Eng.Frame := []
def O_spec_l2Bool (r : ByteArray) : Res := ⟨(.c (.p (.s r))), [], []⟩
abbrev CT_spec_l2Bool (n : Nat) : CTab := mkCT []
abbrev LT_spec_l2Bool (n : Nat) : LTab := mkLT []
def T_spec_l2Bool (n : Nat) (x0 : Int) : Tr (ByteArray) := (.ask ((x0 == (1 : Int))) (.done (⟨#[84, 82, 85, 69]⟩ : ByteArray)) (.done (⟨#[70, 65, 76, 83, 69]⟩ : ByteArray)))
def F_spec_l2Bool : Nat → Int → Option (ByteArray)
  | 0, _ => none
  | n + 1, x0 => (T_spec_l2Bool n x0).run
theorem ft_spec_l2Bool (n : Nat) (x0 : Int) : funT (CT_spec_l2Bool n) (LT_spec_l2Bool n) K_spec_l2Bool (A_spec_l2Bool x0) (U_spec_l2Bool x0) = (T_spec_l2Bool n x0).bind fun r => .done (O_spec_l2Bool r) := by kernel_rfl
theorem ct_spec_l2Bool (n : Nat) : CTok (CT_spec_l2Bool n) (runs KP lib n) := mkCT_nil
theorem th_spec_l2Bool : ∀ (n : Nat) (x0 : Int) (r : ByteArray), F_spec_l2Bool n x0 = some r → runs KP lib n 99 (A_spec_l2Bool x0) (U_spec_l2Bool x0) = some (O_spec_l2Bool r)
  | 0, x0, r, h => by cases h
  | n + 1, x0, r, h => fun_step (kf := K_spec_l2Bool) rfl (ct_spec_l2Bool n) (noLoops rfl) (ft_spec_l2Bool n x0) h
def FH_spec_l2Bool (n : Nat) : Cont → Option (ByteArray)
  | ([[[.i x0]]], []) => F_spec_l2Bool n x0
  | _ => none
def E_spec_l2Bool (n : Nat) (d : List AV → List Go.Eng.Frame → Tr Res) : List AV → List Go.Eng.Frame → Tr Res := cent (A_spec_l2Bool (0)) (U_spec_l2Bool (0)) (FH_spec_l2Bool n) O_spec_l2Bool d
theorem eo_spec_l2Bool (n : Nat) {d : List AV → List Go.Eng.Frame → Tr Res} (hd : ∀ ar up r, (d ar up).run = some r → runs KP lib n 99 ar up = some r) : ∀ ar up r, (E_spec_l2Bool n d ar up).run = some r → runs KP lib n 99 ar up = some r :=
  cent_ok (fun hs r h => by
    unfold FH_spec_l2Bool at h
    split at h
    · exact ⟨A_spec_l2Bool _, U_spec_l2Bool _, rfl, rfl, th_spec_l2Bool n _ r h⟩
    · cases h) hd
/-! ### spec.l2Name -/
def A_spec_l2Name (x0 : Int) : List AV := [(.c (.p (.i .i64 x0)))]
def U_spec_l2Name (x0 : Int) : List Go.Eng.Frame := []
def O_spec_l2Name (r : ByteArray) : Res := ⟨(.c (.p (.s r))), [], []⟩
abbrev CT_spec_l2Name (n : Nat) : CTab := mkCT []
abbrev LT_spec_l2Name (n : Nat) : LTab := mkLT []
def T_spec_l2Name (n : Nat) (x0 : Int) : Tr (ByteArray) := (.ask (decide (6 = ([[(.s (⟨#[]⟩ : ByteArray))], [(.s (⟨#[35, 68, 73, 86, 33]⟩ : ByteArray))], [(.s (⟨#[35, 84, 89, 80, 69, 33]⟩ : ByteArray))], [(.s (⟨#[35, 82, 69, 70, 33]⟩ : ByteArray))], [(.s (⟨#[35, 79, 86, 69, 82, 33]⟩ : ByteArray))], [(.s (⟨#[35, 67, 89, 67, 76, 69, 33]⟩ : ByteArray))]] : List (List PV)).length ∧ 0 ≤ x0 ∧ x0 < ((6 : Nat) : Int))) (.opt (([[(.s (⟨#[]⟩ : ByteArray))], [(.s (⟨#[35, 68, 73, 86, 33]⟩ : ByteArray))], [(.s (⟨#[35, 84, 89, 80, 69, 33]⟩ : ByteArray))], [(.s (⟨#[35, 82, 69, 70, 33]⟩ : ByteArray))], [(.s (⟨#[35, 79, 86, 69, 82, 33]⟩ : ByteArray))], [(.s (⟨#[35, 67, 89, 67, 76, 69, 33]⟩ : ByteArray))]] : List (List PV))[(x0).toNat]?) fun e136 => (.opt (cellS e136 0) fun y137 => (.done y137))) .fail)
def F_spec_l2Name : Nat → Int → Option (ByteArray)
  | 0, _ => none
  | n + 1, x0 => (T_spec_l2Name n x0).run
theorem ft_spec_l2Name (n : Nat) (x0 : Int) : funT (CT_spec_l2Name n) (LT_spec_l2Name n) K_spec_l2Name (A_spec_l2Name x0) (U_spec_l2Name x0) = (T_spec_l2Name n x0).bind fun r => .done (O_spec_l2Name r) := by kernel_rfl
theorem ct_spec_l2Name (n : Nat) : CTok (CT_spec_l2Name n) (runs KP lib n) := mkCT_nil
theorem th_spec_l2Name : ∀ (n : Nat) (x0 : Int) (r : ByteArray), F_spec_l2Name n x0 = some r → runs KP lib n 100 (A_spec_l2Name x0) (U_spec_l2Name x0) = some (O_spec_l2Name r)
  | 0, x0, r, h => by cases h
  | n + 1, x0, r, h => fun_step (kf := K_spec_l2Name) rfl (ct_spec_l2Name n) (noLoops rfl) (ft_spec_l2Name n x0) h
def FH_spec_l2Name (n : Nat) : Cont → Option (ByteArray)
  | ([[[.i x0]]], []) => F_spec_l2Name n x0
  | _ => none
def E_spec_l2Name (n : Nat) (d : List AV → List Go.Eng.Frame → Tr Res) : List AV → List Go.Eng.Frame → Tr Res := cent (A_spec_l2Name (0)) (U_spec_l2Name (0)) (FH_spec_l2Name n) O_spec_l2Name d
theorem eo_spec_l2Name (n : Nat) {d : List AV → List Go.Eng.Frame → Tr Res} (hd : ∀ ar up r, (d ar up).run = some r → runs KP lib n 100 ar up = some r) : ∀ ar up r, (E_spec_l2Name n d ar up).run = some r → runs KP lib n 100 ar up = some r :=
  cent_ok (fun hs r h => by
    unfold FH_spec_l2Name at h
    split at h
    · exact ⟨A_spec_l2Name _, U_spec_l2Name _, rfl, rfl, th_spec_l2Name n _ r h⟩
    · cases h) hd
/-! ### spec.ValueText -/
def A_spec_ValueText (x0 : Int) (x1 : Int) (x2 : ByteArray) : List AV := [(.agg [(.p (.i .i64 x0)), (.p (.i .i64 x1)), (.p (.s x2))])]
def U_spec_ValueText (x0 : Int) (x1 : Int) (x2 : ByteArray) : List Go.Eng.Frame := []
def O_spec_ValueText (r : ByteArray) : Res := ⟨(.c (.p (.s r))), [], []⟩
abbrev CT_spec_ValueText (n : Nat) : CTab := mkCT [(96, E_spec_ValueOk n (noEnt)), (29, E_spec_l1Dec n (noEnt)), (99, E_spec_l2Bool n (noEnt)), (100, E_spec_l2Name n (noEnt))]
abbrev LT_spec_ValueText (n : Nat) : LTab := mkLT []
def T_spec_ValueText (n : Nat) (x0 : Int) (x1 : Int) (x2 : ByteArray) : Tr (ByteArray) := (.opt (F_spec_ValueOk n x0 x1 x2) fun r128 => (.ask ((!r128)) (.done (⟨#[]⟩ : ByteArray)) (.ask ((x0 == (1 : Int))) (.opt (F_spec_l1Dec n x1) fun r134 => (.done r134)) (.ask ((x0 == (2 : Int))) (.ask (decide ((⟨#[39]⟩ : ByteArray).size + x2.size ≤ 9223372036854775807)) (.done ((⟨#[39]⟩ : ByteArray) ++ x2)) .fail) (.ask ((x0 == (3 : Int))) (.opt (F_spec_l2Bool n x1) fun r135 => (.done r135)) (.ask ((x0 == (4 : Int))) (.opt (F_spec_l2Name n x1) fun r138 => (.done r138)) (.done (⟨#[]⟩ : ByteArray))))))))
def F_spec_ValueText : Nat → Int → Int → ByteArray → Option (ByteArray)
  | 0, _, _, _ => none
  | n + 1, x0, x1, x2 => (T_spec_ValueText n x0 x1 x2).run
theorem ft_spec_ValueText (n : Nat) (x0 : Int) (x1 : Int) (x2 : ByteArray) : funT (CT_spec_ValueText n) (LT_spec_ValueText n) K_spec_ValueText (A_spec_ValueText x0 x1 x2) (U_spec_ValueText x0 x1 x2) = (T_spec_ValueText n x0 x1 x2).bind fun r => .done (O_spec_ValueText r) := by kernel_rfl
theorem ct_spec_ValueText (n : Nat) : CTok (CT_spec_ValueText n) (runs KP lib n) := mkCT_cons (eo_spec_ValueOk n (noEnt_ok)) (mkCT_cons (eo_spec_l1Dec n (noEnt_ok)) (mkCT_cons (eo_spec_l2Bool n (noEnt_ok)) (mkCT_cons (eo_spec_l2Name n (noEnt_ok)) (mkCT_nil))))
theorem th_spec_ValueText : ∀ (n : Nat) (x0 : Int) (x1 : Int) (x2 : ByteArray) (r : ByteArray), F_spec_ValueText n x0 x1 x2 = some r → runs KP lib n 70 (A_spec_ValueText x0 x1 x2) (U_spec_ValueText x0 x1 x2) = some (O_spec_ValueText r)
  | 0, x0, x1, x2, r, h => by cases h
  | n + 1, x0, x1, x2, r, h => fun_step (kf := K_spec_ValueText) rfl (ct_spec_ValueText n) (noLoops rfl) (ft_spec_ValueText n x0 x1 x2) h
def FH_spec_ValueText (n : Nat) : Cont → Option (ByteArray)
  | ([[[.i x0], [.i x1], [.s x2]]], []) => F_spec_ValueText n x0 x1 x2
  | _ => none
def E_spec_ValueText (n : Nat) (d : List AV → List Go.Eng.Frame → Tr Res) : List AV → List Go.Eng.Frame → Tr Res := cent (A_spec_ValueText (0) (0) (⟨#[]⟩)) (U_spec_ValueText (0) (0) (⟨#[]⟩)) (FH_spec_ValueText n) O_spec_ValueText d
theorem eo_spec_ValueText (n : Nat) {d : List AV → List Go.Eng.Frame → Tr Res} (hd : ∀ ar up r, (d ar up).run = some r → runs KP lib n 70 ar up = some r) : ∀ ar up r, (E_spec_ValueText n d ar up).run = some r → runs KP lib n 70 ar up = some r :=
  cent_ok (fun hs r h => by
    unfold FH_spec_ValueText at h
    split at h
    · exact ⟨A_spec_ValueText _ _ _, U_spec_ValueText _ _ _, rfl, rfl, th_spec_ValueText n _ _ _ r h⟩
    · cases h) hd
/-! ### spec.ColText -/
def A_spec_ColText (x0 : Int) : List AV := [(.c (.p (.i .i64 x0)))]
def U_spec_ColText (x0 : Int) : List Go.Eng.Frame := []
def O_spec_ColText (r : ByteArray) : Res := ⟨(.c (.p (.s r))), [], []⟩
abbrev CT_spec_ColText (n : Nat) : CTab := mkCT [(41, E_spec_l1In n (noEnt))]
def S_spec_ColText_30 (v : Int × ByteArray) : St := ⟨[(0, (.c (.p (.i .i64 v.1)))), (3, (.c (.p (.s v.2))))], [], []⟩
def B_spec_ColText_30 (n : Nat) (v : Int × ByteArray) : Tr ((Int × ByteArray) ⊕ ((ByteArray))) := (.ask ((decide (v.1 > (0 : Int)))) (.ask (decide (1 = ([[(.i .u8 (IntKind.u8.wrap (IntKind.i64.wrap ((65 : Int) + (Int.tmod (IntKind.i64.wrap (v.1 - (1 : Int))) (26 : Int))))))]] : List (List PV)).length)) (.opt (bytesOf ([[(.i .u8 (IntKind.u8.wrap (IntKind.i64.wrap ((65 : Int) + (Int.tmod (IntKind.i64.wrap (v.1 - (1 : Int))) (26 : Int))))))]] : List (List PV))) fun l142 => (.ask (decide ((⟨l142.toArray⟩ : ByteArray).size + v.2.size ≤ 9223372036854775807)) (.done (.inl ((IntKind.i64.wrap (Int.tdiv (IntKind.i64.wrap (v.1 - (1 : Int))) (26 : Int))), ((⟨l142.toArray⟩ : ByteArray) ++ v.2)))) .fail)) .fail) (.done (.inr (v.2))))
def D_spec_ColText_30 : (ByteArray) → Ex × St := fun r => ((.exit 0), ⟨[(3, (.c (.p (.s r))))], [], []⟩)
def DT_spec_ColText_30 : (ByteArray) → Tr (Ex × St) := fun r => .done ((.exit 0), ⟨[(3, (.c (.p (.s r))))], [], []⟩)
def VH_spec_ColText_30 : Cont3 → Option (Int × ByteArray)
  | ([[[.i w0]], [[.s w1]]], [], []) => some (w0, w1)
  | _ => none
abbrev LE_spec_ColText_30 (n : Nat) : St → Tr (Ex × St) := lent (S_spec_ColText_30 (0, ⟨#[]⟩)) VH_spec_ColText_30 (B_spec_ColText_30 n) DT_spec_ColText_30 n
abbrev LT_spec_ColText (n : Nat) : LTab := mkLT [(30, LE_spec_ColText_30 n)]
def T_spec_ColText (n : Nat) (x0 : Int) : Tr (ByteArray) := (.opt (F_spec_l1In n x0 (1 : Int) (52 : Int)) fun r141 => (.ask ((!r141)) (.done (⟨#[]⟩ : ByteArray)) (.opt (loopF (B_spec_ColText_30 n) n (x0, (⟨#[]⟩ : ByteArray))) fun r143 => (.done r143))))
def F_spec_ColText : Nat → Int → Option (ByteArray)
  | 0, _ => none
  | n + 1, x0 => (T_spec_ColText n x0).run
theorem ft_spec_ColText (n : Nat) (x0 : Int) : funT (CT_spec_ColText n) (LT_spec_ColText n) K_spec_ColText (A_spec_ColText x0) (U_spec_ColText x0) = (T_spec_ColText n x0).bind fun r => .done (O_spec_ColText r) := by kernel_rfl
theorem ct_spec_ColText (n : Nat) : CTok (CT_spec_ColText n) (runs KP lib n) := mkCT_cons (eo_spec_l1In n (noEnt_ok)) (mkCT_nil)
theorem lt_spec_ColText_30 (n : Nat) (v : Int × ByteArray) : (evalCT (CT_spec_ColText n) (mkLT []) K_spec_ColText_L30 (S_spec_ColText_30 v) []).bind (ltail [0, 3] [(.ret, [2]), ((.exit 0), [3])]) = (B_spec_ColText_30 n v).bind (lenc S_spec_ColText_30 D_spec_ColText_30) := by
  obtain ⟨w0, w1⟩ := v
  kernel_rfl
theorem le_spec_ColText_30 (n : Nat) : LEok (runs KP lib n) n (30, [0, 3], [(.ret, [2]), ((.exit 0), [3])], K_spec_ColText_L30) (LE_spec_ColText_30 n) := fun st e s h =>
  lent_ok (ct_spec_ColText n) (noLoops rfl) (lt_spec_ColText_30 n) (fun r h => by cases h) (fun r y h => by cases h; rfl) (fun hs v h => by
    unfold VH_spec_ColText_30 at h
    split at h <;> cases h
    rfl) h
theorem lo_spec_ColText (n : Nat) : LTok (LT_spec_ColText n) (runs KP lib n) n K_spec_ColText.body := mkLT_ok (by
  intro x hx
  have hx : x ∈ ([(30, [0, 3], [(.ret, [2]), ((.exit 0), [3])], K_spec_ColText_L30)] : List (Nat × List Nat × List (Ex × List Nat) × KCode)) := hx
  simp only [List.mem_cons, List.not_mem_nil, or_false] at hx
  rcases hx with rfl
  · exact ⟨LE_spec_ColText_30 n, fun st => rfl, le_spec_ColText_30 n⟩)
theorem th_spec_ColText : ∀ (n : Nat) (x0 : Int) (r : ByteArray), F_spec_ColText n x0 = some r → runs KP lib n 17 (A_spec_ColText x0) (U_spec_ColText x0) = some (O_spec_ColText r)
  | 0, x0, r, h => by cases h
  | n + 1, x0, r, h => fun_step (kf := K_spec_ColText) rfl (ct_spec_ColText n) (lo_spec_ColText n) (ft_spec_ColText n x0) h
def FH_spec_ColText (n : Nat) : Cont → Option (ByteArray)
  | ([[[.i x0]]], []) => F_spec_ColText n x0
  | _ => none
def E_spec_ColText (n : Nat) (d : List AV → List Go.Eng.Frame → Tr Res) : List AV → List Go.Eng.Frame → Tr Res := cent (A_spec_ColText (0)) (U_spec_ColText (0)) (FH_spec_ColText n) O_spec_ColText d
theorem eo_spec_ColText (n : Nat) {d : List AV → List Go.Eng.Frame → Tr Res} (hd : ∀ ar up r, (d ar up).run = some r → runs KP lib n 17 ar up = some r) : ∀ ar up r, (E_spec_ColText n d ar up).run = some r → runs KP lib n 17 ar up = some r :=
  cent_ok (fun hs r h => by
    unfold FH_spec_ColText at h
    split at h
    · exact ⟨A_spec_ColText _, U_spec_ColText _, rfl, rfl, th_spec_ColText n _ r h⟩
    · cases h) hd
/-! ### spec.PlaceText -/
def A_spec_PlaceText (x0 : Int) (x1 : Int) (x2 : Bool) (x3 : Bool) : List AV := [(.agg [(.p (.i .i64 x0)), (.p (.i .i64 x1)), (.p (.b x2)), (.p (.b x3))])]
def U_spec_PlaceText (x0 : Int) (x1 : Int) (x2 : Bool) (x3 : Bool) : List Go.Eng.Frame := []
def O_spec_PlaceText (r : ByteArray) : Res := ⟨(.c (.p (.s r))), [], []⟩
abbrev CT_spec_PlaceText (n : Nat) : CTab := mkCT [(28, E_spec_RefOk n (noEnt)), (17, E_spec_ColText n (noEnt)), (29, E_spec_l1Dec n (noEnt))]
abbrev LT_spec_PlaceText (n : Nat) : LTab := mkLT []
def T_spec_PlaceText (n : Nat) (x0 : Int) (x1 : Int) (x2 : Bool) (x3 : Bool) : Tr (ByteArray) := (.opt (F_spec_RefOk n x0 x1) fun r140 => (.ask ((!r140)) (.done (⟨#[]⟩ : ByteArray)) (.opt (F_spec_ColText n x0) fun r144 => (.ask (x2) (.ask (decide ((⟨#[36]⟩ : ByteArray).size + r144.size ≤ 9223372036854775807)) (.ask (x3) (.ask (decide (((⟨#[36]⟩ : ByteArray) ++ r144).size + (⟨#[36]⟩ : ByteArray).size ≤ 9223372036854775807)) (.opt (F_spec_l1Dec n x1) fun r145 => (.ask (decide ((((⟨#[36]⟩ : ByteArray) ++ r144) ++ (⟨#[36]⟩ : ByteArray)).size + r145.size ≤ 9223372036854775807)) (.done ((((⟨#[36]⟩ : ByteArray) ++ r144) ++ (⟨#[36]⟩ : ByteArray)) ++ r145)) .fail)) .fail) (.opt (F_spec_l1Dec n x1) fun r146 => (.ask (decide (((⟨#[36]⟩ : ByteArray) ++ r144).size + r146.size ≤ 9223372036854775807)) (.done (((⟨#[36]⟩ : ByteArray) ++ r144) ++ r146)) .fail))) .fail) (.ask (x3) (.ask (decide (r144.size + (⟨#[36]⟩ : ByteArray).size ≤ 9223372036854775807)) (.opt (F_spec_l1Dec n x1) fun r147 => (.ask (decide ((r144 ++ (⟨#[36]⟩ : ByteArray)).size + r147.size ≤ 9223372036854775807)) (.done ((r144 ++ (⟨#[36]⟩ : ByteArray)) ++ r147)) .fail)) .fail) (.opt (F_spec_l1Dec n x1) fun r148 => (.ask (decide (r144.size + r148.size ≤ 9223372036854775807)) (.done (r144 ++ r148)) .fail)))))))
def F_spec_PlaceText : Nat → Int → Int → Bool → Bool → Option (ByteArray)
  | 0, _, _, _, _ => none
  | n + 1, x0, x1, x2, x3 => (T_spec_PlaceText n x0 x1 x2 x3).run
theorem ft_spec_PlaceText (n : Nat) (x0 : Int) (x1 : Int) (x2 : Bool) (x3 : Bool) : funT (CT_spec_PlaceText n) (LT_spec_PlaceText n) K_spec_PlaceText (A_spec_PlaceText x0 x1 x2 x3) (U_spec_PlaceText x0 x1 x2 x3) = (T_spec_PlaceText n x0 x1 x2 x3).bind fun r => .done (O_spec_PlaceText r) := by kernel_rfl
theorem ct_spec_PlaceText (n : Nat) : CTok (CT_spec_PlaceText n) (runs KP lib n) := mkCT_cons (eo_spec_RefOk n (noEnt_ok)) (mkCT_cons (eo_spec_ColText n (noEnt_ok)) (mkCT_cons (eo_spec_l1Dec n (noEnt_ok)) (mkCT_nil)))
theorem th_spec_PlaceText : ∀ (n : Nat) (x0 : Int) (x1 : Int) (x2 : Bool) (x3 : Bool) (r : ByteArray), F_spec_PlaceText n x0 x1 x2 x3 = some r → runs KP lib n 7 (A_spec_PlaceText x0 x1 x2 x3) (U_spec_PlaceText x0 x1 x2 x3) = some (O_spec_PlaceText r)
  | 0, x0, x1, x2, x3, r, h => by cases h
  | n + 1, x0, x1, x2, x3, r, h => fun_step (kf := K_spec_PlaceText) rfl (ct_spec_PlaceText n) (noLoops rfl) (ft_spec_PlaceText n x0 x1 x2 x3) h
def FH_spec_PlaceText (n : Nat) : Cont → Option (ByteArray)
  | ([[[.i x0], [.i x1], [.b x2], [.b x3]]], []) => F_spec_PlaceText n x0 x1 x2 x3
  | _ => none
def E_spec_PlaceText (n : Nat) (d : List AV → List Go.Eng.Frame → Tr Res) : List AV → List Go.Eng.Frame → Tr Res := cent (A_spec_PlaceText (0) (0) (false) (false)) (U_spec_PlaceText (0) (0) (false) (false)) (FH_spec_PlaceText n) O_spec_PlaceText d
theorem eo_spec_PlaceText (n : Nat) {d : List AV → List Go.Eng.Frame → Tr Res} (hd : ∀ ar up r, (d ar up).run = some r → runs KP lib n 7 ar up = some r) : ∀ ar up r, (E_spec_PlaceText n d ar up).run = some r → runs KP lib n 7 ar up = some r :=
  cent_ok (fun hs r h => by
    unfold FH_spec_PlaceText at h
    split at h
    · exact ⟨A_spec_PlaceText _ _ _ _, U_spec_PlaceText _ _ _ _, rfl, rfl, th_spec_PlaceText n _ _ _ _ r h⟩
    · cases h) hd
/-! ### spec.l3Level -/
def A_spec_l3Level (x0 : Int) : List AV := [(.c (.p (.i .i64 x0)))]
def U_spec_l3Level (x0 : Int) : List Go.Eng.Frame := []
def O_spec_l3Level (r : Int) : Res := ⟨(.c (.p (.i .i64 r))), [], []⟩
abbrev CT_spec_l3Level (n : Nat) : CTab := mkCT []
abbrev LT_spec_l3Level (n : Nat) : LTab := mkLT []
def T_spec_l3Level (n : Nat) (x0 : Int) : Tr (Int) := (.ask ((decide (x0 ≥ (6 : Int)))) (.done (1 : Int)) (.ask ((x0 == (5 : Int))) (.done (2 : Int)) (.ask ((decide (x0 ≥ (3 : Int)))) (.done (4 : Int)) (.done (3 : Int)))))
def F_spec_l3Level : Nat → Int → Option (Int)
  | 0, _ => none
  | n + 1, x0 => (T_spec_l3Level n x0).run
theorem ft_spec_l3Level (n : Nat) (x0 : Int) : funT (CT_spec_l3Level n) (LT_spec_l3Level n) K_spec_l3Level (A_spec_l3Level x0) (U_spec_l3Level x0) = (T_spec_l3Level n x0).bind fun r => .done (O_spec_l3Level r) := by kernel_rfl
theorem ct_spec_l3Level (n : Nat) : CTok (CT_spec_l3Level n) (runs KP lib n) := mkCT_nil
theorem th_spec_l3Level : ∀ (n : Nat) (x0 : Int) (r : Int), F_spec_l3Level n x0 = some r → runs KP lib n 71 (A_spec_l3Level x0) (U_spec_l3Level x0) = some (O_spec_l3Level r)
  | 0, x0, r, h => by cases h
  | n + 1, x0, r, h => fun_step (kf := K_spec_l3Level) rfl (ct_spec_l3Level n) (noLoops rfl) (ft_spec_l3Level n x0) h
def FH_spec_l3Level (n : Nat) : Cont → Option (Int)
  | ([[[.i x0]]], []) => F_spec_l3Level n x0
  | _ => none
def E_spec_l3Level (n : Nat) (d : List AV → List Go.Eng.Frame → Tr Res) : List AV → List Go.Eng.Frame → Tr Res := cent (A_spec_l3Level (0)) (U_spec_l3Level (0)) (FH_spec_l3Level n) O_spec_l3Level d
theorem eo_spec_l3Level (n : Nat) {d : List AV → List Go.Eng.Frame → Tr Res} (hd : ∀ ar up r, (d ar up).run = some r → runs KP lib n 71 ar up = some r) : ∀ ar up r, (E_spec_l3Level n d ar up).run = some r → runs KP lib n 71 ar up = some r :=
  cent_ok (fun hs r h => by
    unfold FH_spec_l3Level at h
    split at h
    · exact ⟨A_spec_l3Level _, U_spec_l3Level _, rfl, rfl, th_spec_l3Level n _ r h⟩
    · cases h) hd
/-! ### spec.l3Sign -/
def A_spec_l3Sign (x0 : Int) : List AV := [(.c (.p (.i .i64 x0)))]
def U_spec_l3Sign (x0 : Int) : List Go.Eng.Frame := []
def O_spec_l3Sign (r : ByteArray) : Res := ⟨(.c (.p (.s r))), [], []⟩
abbrev CT_spec_l3Sign (n : Nat) : CTab := mkCT []
abbrev LT_spec_l3Sign (n : Nat) : LTab := mkLT []
def T_spec_l3Sign (n : Nat) (x0 : Int) : Tr (ByteArray) := (.ask (decide (12 = ([[(.s (⟨#[]⟩ : ByteArray))], [(.s (⟨#[43]⟩ : ByteArray))], [(.s (⟨#[45]⟩ : ByteArray))], [(.s (⟨#[42]⟩ : ByteArray))], [(.s (⟨#[47]⟩ : ByteArray))], [(.s (⟨#[38]⟩ : ByteArray))], [(.s (⟨#[61]⟩ : ByteArray))], [(.s (⟨#[60, 62]⟩ : ByteArray))], [(.s (⟨#[60]⟩ : ByteArray))], [(.s (⟨#[60, 61]⟩ : ByteArray))], [(.s (⟨#[62]⟩ : ByteArray))], [(.s (⟨#[62, 61]⟩ : ByteArray))]] : List (List PV)).length ∧ 0 ≤ x0 ∧ x0 < ((12 : Nat) : Int))) (.opt (([[(.s (⟨#[]⟩ : ByteArray))], [(.s (⟨#[43]⟩ : ByteArray))], [(.s (⟨#[45]⟩ : ByteArray))], [(.s (⟨#[42]⟩ : ByteArray))], [(.s (⟨#[47]⟩ : ByteArray))], [(.s (⟨#[38]⟩ : ByteArray))], [(.s (⟨#[61]⟩ : ByteArray))], [(.s (⟨#[60, 62]⟩ : ByteArray))], [(.s (⟨#[60]⟩ : ByteArray))], [(.s (⟨#[60, 61]⟩ : ByteArray))], [(.s (⟨#[62]⟩ : ByteArray))], [(.s (⟨#[62, 61]⟩ : ByteArray))]] : List (List PV))[(x0).toNat]?) fun e161 => (.opt (cellS e161 0) fun y162 => (.done y162))) .fail)
def F_spec_l3Sign : Nat → Int → Option (ByteArray)
  | 0, _ => none
  | n + 1, x0 => (T_spec_l3Sign n x0).run
theorem ft_spec_l3Sign (n : Nat) (x0 : Int) : funT (CT_spec_l3Sign n) (LT_spec_l3Sign n) K_spec_l3Sign (A_spec_l3Sign x0) (U_spec_l3Sign x0) = (T_spec_l3Sign n x0).bind fun r => .done (O_spec_l3Sign r) := by kernel_rfl
theorem ct_spec_l3Sign (n : Nat) : CTok (CT_spec_l3Sign n) (runs KP lib n) := mkCT_nil
theorem th_spec_l3Sign : ∀ (n : Nat) (x0 : Int) (r : ByteArray), F_spec_l3Sign n x0 = some r → runs KP lib n 72 (A_spec_l3Sign x0) (U_spec_l3Sign x0) = some (O_spec_l3Sign r)
  | 0, x0, r, h => by cases h
  | n + 1, x0, r, h => fun_step (kf := K_spec_l3Sign) rfl (ct_spec_l3Sign n) (noLoops rfl) (ft_spec_l3Sign n x0) h
def FH_spec_l3Sign (n : Nat) : Cont → Option (ByteArray)
  | ([[[.i x0]]], []) => F_spec_l3Sign n x0
  | _ => none
def E_spec_l3Sign (n : Nat) (d : List AV → List Go.Eng.Frame → Tr Res) : List AV → List Go.Eng.Frame → Tr Res := cent (A_spec_l3Sign (0)) (U_spec_l3Sign (0)) (FH_spec_l3Sign n) O_spec_l3Sign d
theorem eo_spec_l3Sign (n : Nat) {d : List AV → List Go.Eng.Frame → Tr Res} (hd : ∀ ar up r, (d ar up).run = some r → runs KP lib n 72 ar up = some r) : ∀ ar up r, (E_spec_l3Sign n d ar up).run = some r → runs KP lib n 72 ar up = some r :=
  cent_ok (fun hs r h => by
    unfold FH_spec_l3Sign at h
    split at h
    · exact ⟨A_spec_l3Sign _, U_spec_l3Sign _, rfl, rfl, th_spec_l3Sign n _ r h⟩
    · cases h) hd
/-! ### spec.l3Fn -/
def A_spec_l3Fn (x0 : Int) : List AV := [(.c (.p (.i .i64 x0)))]
def U_spec_l3Fn (x0 : Int) : List Go.Eng.Frame := []
def O_spec_l3Fn (r : ByteArray) : Res := ⟨(.c (.p (.s r))), [], []⟩
abbrev CT_spec_l3Fn (n : Nat) : CTab := mkCT []
abbrev LT_spec_l3Fn (n : Nat) : LTab := mkLT []
def T_spec_l3Fn (n : Nat) (x0 : Int) : Tr (ByteArray) := (.ask (decide (11 = ([[(.s (⟨#[]⟩ : ByteArray))], [(.s (⟨#[83, 85, 77]⟩ : ByteArray))], [(.s (⟨#[77, 73, 78]⟩ : ByteArray))], [(.s (⟨#[77, 65, 88]⟩ : ByteArray))], [(.s (⟨#[67, 79, 85, 78, 84]⟩ : ByteArray))], [(.s (⟨#[73, 70]⟩ : ByteArray))], [(.s (⟨#[65, 78, 68]⟩ : ByteArray))], [(.s (⟨#[79, 82]⟩ : ByteArray))], [(.s (⟨#[78, 79, 84]⟩ : ByteArray))], [(.s (⟨#[65, 66, 83]⟩ : ByteArray))], [(.s (⟨#[76, 69, 78]⟩ : ByteArray))]] : List (List PV)).length ∧ 0 ≤ x0 ∧ x0 < ((11 : Nat) : Int))) (.opt (([[(.s (⟨#[]⟩ : ByteArray))], [(.s (⟨#[83, 85, 77]⟩ : ByteArray))], [(.s (⟨#[77, 73, 78]⟩ : ByteArray))], [(.s (⟨#[77, 65, 88]⟩ : ByteArray))], [(.s (⟨#[67, 79, 85, 78, 84]⟩ : ByteArray))], [(.s (⟨#[73, 70]⟩ : ByteArray))], [(.s (⟨#[65, 78, 68]⟩ : ByteArray))], [(.s (⟨#[79, 82]⟩ : ByteArray))], [(.s (⟨#[78, 79, 84]⟩ : ByteArray))], [(.s (⟨#[65, 66, 83]⟩ : ByteArray))], [(.s (⟨#[76, 69, 78]⟩ : ByteArray))]] : List (List PV))[(x0).toNat]?) fun e165 => (.opt (cellS e165 0) fun y166 => (.done y166))) .fail)
def F_spec_l3Fn : Nat → Int → Option (ByteArray)
  | 0, _ => none
  | n + 1, x0 => (T_spec_l3Fn n x0).run
theorem ft_spec_l3Fn (n : Nat) (x0 : Int) : funT (CT_spec_l3Fn n) (LT_spec_l3Fn n) K_spec_l3Fn (A_spec_l3Fn x0) (U_spec_l3Fn x0) = (T_spec_l3Fn n x0).bind fun r => .done (O_spec_l3Fn r) := by kernel_rfl
theorem ct_spec_l3Fn (n : Nat) : CTok (CT_spec_l3Fn n) (runs KP lib n) := mkCT_nil
theorem th_spec_l3Fn : ∀ (n : Nat) (x0 : Int) (r : ByteArray), F_spec_l3Fn n x0 = some r → runs KP lib n 73 (A_spec_l3Fn x0) (U_spec_l3Fn x0) = some (O_spec_l3Fn r)
  | 0, x0, r, h => by cases h
  | n + 1, x0, r, h => fun_step (kf := K_spec_l3Fn) rfl (ct_spec_l3Fn n) (noLoops rfl) (ft_spec_l3Fn n x0) h
def FH_spec_l3Fn (n : Nat) : Cont → Option (ByteArray)
  | ([[[.i x0]]], []) => F_spec_l3Fn n x0
  | _ => none
def E_spec_l3Fn (n : Nat) (d : List AV → List Go.Eng.Frame → Tr Res) : List AV → List Go.Eng.Frame → Tr Res := cent (A_spec_l3Fn (0)) (U_spec_l3Fn (0)) (FH_spec_l3Fn n) O_spec_l3Fn d
theorem eo_spec_l3Fn (n : Nat) {d : List AV → List Go.Eng.Frame → Tr Res} (hd : ∀ ar up r, (d ar up).run = some r → runs KP lib n 73 ar up = some r) : ∀ ar up r, (E_spec_l3Fn n d ar up).run = some r → runs KP lib n 73 ar up = some r :=
  cent_ok (fun hs r h => by
    unfold FH_spec_l3Fn at h
    split at h
    · exact ⟨A_spec_l3Fn _, U_spec_l3Fn _, rfl, rfl, th_spec_l3Fn n _ r h⟩
    · cases h) hd
/-! ### spec.l3Text -/
def A_spec_l3Text (x0 : List (List PV)) (x1 : Int) (x2 : Int) : List AV := [(.c (.p (.ls x0))), (.c (.p (.i .i64 x1))), (.c (.p (.i .i64 x2)))]
def U_spec_l3Text (x0 : List (List PV)) (x1 : Int) (x2 : Int) : List Go.Eng.Frame := []
def O_spec_l3Text (r : ByteArray) : Res := ⟨(.c (.p (.s r))), [], []⟩
def FHr_spec_l3Text (rec : List (List PV) → Int → Int → Option (ByteArray)) : Cont → Option (ByteArray)
  | ([[[.r x0]], [[.i x1]], [[.i x2]]], []) => rec x0 x1 x2
  | _ => none
abbrev CT_spec_l3Text (rec : List (List PV) → Int → Int → Option (ByteArray)) (n : Nat) : CTab := mkCT [(69, E_spec_l3Quote n (noEnt)), (70, E_spec_ValueText n (noEnt)), (7, E_spec_PlaceText n (noEnt)), (47, cent (A_spec_l3Text ([]) (0) (0)) (U_spec_l3Text ([]) (0) (0)) (fun hs => FHr_spec_l3Text rec hs) O_spec_l3Text (noEnt)), (71, E_spec_l3Level n (noEnt)), (72, E_spec_l3Sign n (noEnt)), (73, E_spec_l3Fn n (noEnt))]
def S_spec_l3Text_125 (v : (List (List PV)) × ByteArray × Int × Int × Int × Int × Int × ByteArray × Int × Int × Bool × Bool × Int × Int × Bool × Bool × (List (List PV))) : St := ⟨[(0, (.c (.p (.ls v.1)))), (7, (.c (.ptr 0 448 0 0 0))), (10, (.c (.p (.s v.2.1)))), (11, (.c (.p (.i .i64 v.2.2.1))))], [(448, ⟨0, 14, 81, (.box [(.p (.i .i64 v.2.2.2.1)), (.p (.i .i64 v.2.2.2.2.1)), (.p (.i .i64 v.2.2.2.2.2.1)), (.p (.i .i64 v.2.2.2.2.2.2.1)), (.p (.s v.2.2.2.2.2.2.2.1)), (.p (.i .i64 v.2.2.2.2.2.2.2.2.1)), (.p (.i .i64 v.2.2.2.2.2.2.2.2.2.1)), (.p (.b v.2.2.2.2.2.2.2.2.2.2.1)), (.p (.b v.2.2.2.2.2.2.2.2.2.2.2.1)), (.p (.i .i64 v.2.2.2.2.2.2.2.2.2.2.2.2.1)), (.p (.i .i64 v.2.2.2.2.2.2.2.2.2.2.2.2.2.1)), (.p (.b v.2.2.2.2.2.2.2.2.2.2.2.2.2.2.1)), (.p (.b v.2.2.2.2.2.2.2.2.2.2.2.2.2.2.2.1)), (.p (.ls v.2.2.2.2.2.2.2.2.2.2.2.2.2.2.2.2))])⟩)], []⟩
def B_spec_l3Text_125 (rec : List (List PV) → Int → Int → Option (ByteArray)) (n : Nat) (v : (List (List PV)) × ByteArray × Int × Int × Int × Int × Int × ByteArray × Int × Int × Bool × Bool × Int × Int × Bool × Bool × (List (List PV))) : Tr (((List (List PV)) × ByteArray × Int × Int × Int × Int × Int × ByteArray × Int × Int × Bool × Bool × Int × Int × Bool × Bool × (List (List PV))) ⊕ ((ByteArray))) := (.ask ((decide (v.2.2.1 < (v.2.2.2.2.2.2.2.2.2.2.2.2.2.2.2.2.length : Int)))) (.ask ((decide (v.2.2.1 > (0 : Int)))) (.ask (decide (v.2.1.size + (⟨#[44]⟩ : ByteArray).size ≤ 9223372036854775807)) (.ask (decide (0 ≤ v.2.2.1 ∧ v.2.2.1 < v.2.2.2.2.2.2.2.2.2.2.2.2.2.2.2.2.length)) (.opt (v.2.2.2.2.2.2.2.2.2.2.2.2.2.2.2.2[(v.2.2.1).toNat]?) fun e168 => (.ask (decide (e168.length = 1)) (.opt (cellI .i64 e168 0) fun y169 => (.opt (rec v.1 y169 (0 : Int)) fun r170 => (.ask (decide ((v.2.1 ++ (⟨#[44]⟩ : ByteArray)).size + r170.size ≤ 9223372036854775807)) (.done (.inl (v.1, ((v.2.1 ++ (⟨#[44]⟩ : ByteArray)) ++ r170), (IntKind.i64.wrap (v.2.2.1 + (1 : Int))), v.2.2.2.1, v.2.2.2.2.1, v.2.2.2.2.2.1, v.2.2.2.2.2.2.1, v.2.2.2.2.2.2.2.1, v.2.2.2.2.2.2.2.2.1, v.2.2.2.2.2.2.2.2.2.1, v.2.2.2.2.2.2.2.2.2.2.1, v.2.2.2.2.2.2.2.2.2.2.2.1, v.2.2.2.2.2.2.2.2.2.2.2.2.1, v.2.2.2.2.2.2.2.2.2.2.2.2.2.1, v.2.2.2.2.2.2.2.2.2.2.2.2.2.2.1, v.2.2.2.2.2.2.2.2.2.2.2.2.2.2.2.1, v.2.2.2.2.2.2.2.2.2.2.2.2.2.2.2.2))) .fail))) .fail)) .fail) .fail) (.ask (decide (0 ≤ v.2.2.1 ∧ v.2.2.1 < v.2.2.2.2.2.2.2.2.2.2.2.2.2.2.2.2.length)) (.opt (v.2.2.2.2.2.2.2.2.2.2.2.2.2.2.2.2[(v.2.2.1).toNat]?) fun e171 => (.ask (decide (e171.length = 1)) (.opt (cellI .i64 e171 0) fun y172 => (.opt (rec v.1 y172 (0 : Int)) fun r173 => (.ask (decide (v.2.1.size + r173.size ≤ 9223372036854775807)) (.done (.inl (v.1, (v.2.1 ++ r173), (IntKind.i64.wrap (v.2.2.1 + (1 : Int))), v.2.2.2.1, v.2.2.2.2.1, v.2.2.2.2.2.1, v.2.2.2.2.2.2.1, v.2.2.2.2.2.2.2.1, v.2.2.2.2.2.2.2.2.1, v.2.2.2.2.2.2.2.2.2.1, v.2.2.2.2.2.2.2.2.2.2.1, v.2.2.2.2.2.2.2.2.2.2.2.1, v.2.2.2.2.2.2.2.2.2.2.2.2.1, v.2.2.2.2.2.2.2.2.2.2.2.2.2.1, v.2.2.2.2.2.2.2.2.2.2.2.2.2.2.1, v.2.2.2.2.2.2.2.2.2.2.2.2.2.2.2.1, v.2.2.2.2.2.2.2.2.2.2.2.2.2.2.2.2))) .fail))) .fail)) .fail)) (.done (.inr (v.2.1))))
def D_spec_l3Text_125 : (ByteArray) → Ex × St := fun r => ((.exit 1), ⟨[(10, (.c (.p (.s r))))], [], []⟩)
def DT_spec_l3Text_125 : (ByteArray) → Tr (Ex × St) := fun r => .done ((.exit 1), ⟨[(10, (.c (.p (.s r))))], [], []⟩)
def VH_spec_l3Text_125 : Cont3 → Option ((List (List PV)) × ByteArray × Int × Int × Int × Int × Int × ByteArray × Int × Int × Bool × Bool × Int × Int × Bool × Bool × (List (List PV)))
  | ([[[.r w0]], [[]], [[.s w1]], [[.i w2]]], [[[.i w3], [.i w4], [.i w5], [.i w6], [.s w7], [.i w8], [.i w9], [.b w10], [.b w11], [.i w12], [.i w13], [.b w14], [.b w15], [.r w16]]], []) => some (w0, w1, w2, w3, w4, w5, w6, w7, w8, w9, w10, w11, w12, w13, w14, w15, w16)
  | _ => none
abbrev LE_spec_l3Text_125 (rec : List (List PV) → Int → Int → Option (ByteArray)) (n : Nat) : St → Tr (Ex × St) := lent (S_spec_l3Text_125 ([], ⟨#[]⟩, 0, 0, 0, 0, 0, ⟨#[]⟩, 0, 0, false, false, 0, 0, false, false, [])) VH_spec_l3Text_125 (B_spec_l3Text_125 rec n) DT_spec_l3Text_125 n
abbrev LT_spec_l3Text (rec : List (List PV) → Int → Int → Option (ByteArray)) (n : Nat) : LTab := mkLT [(125, LE_spec_l3Text_125 rec n)]
def T_spec_l3Text (rec : List (List PV) → Int → Int → Option (ByteArray)) (n : Nat) (x0 : List (List PV)) (x1 : Int) (x2 : Int) : Tr (ByteArray) := (.ask (decide (0 ≤ x1 ∧ x1 < x0.length)) (.opt (x0[(x1).toNat]?) fun e110 => (.ask (decide (e110.length = 14)) (.opt (cellI .i64 e110 0) fun y111 => (.opt (cellI .i64 e110 1) fun y112 => (.opt (cellI .i64 e110 2) fun y113 => (.opt (cellI .i64 e110 3) fun y114 => (.opt (cellS e110 4) fun y115 => (.opt (cellI .i64 e110 5) fun y116 => (.opt (cellI .i64 e110 6) fun y117 => (.opt (cellB e110 7) fun y118 => (.opt (cellB e110 8) fun y119 => (.opt (cellI .i64 e110 9) fun y120 => (.opt (cellI .i64 e110 10) fun y121 => (.opt (cellB e110 11) fun y122 => (.opt (cellB e110 12) fun y123 => (.opt (cellL e110 13) fun y124 => (.ask ((y111 == (1 : Int))) (.ask ((y113 == (2 : Int))) (.opt (F_spec_l3Quote n y115) fun r127 => (.done r127)) (.opt (F_spec_ValueText n y113 y114 y115) fun r139 => (.done r139))) (.ask ((y111 == (2 : Int))) (.opt (F_spec_PlaceText n y116 y117 y118 y119) fun r149 => (.done r149)) (.ask ((y111 == (3 : Int))) (.opt (F_spec_PlaceText n y116 y117 y118 y119) fun r150 => (.ask (decide (r150.size + (⟨#[58]⟩ : ByteArray).size ≤ 9223372036854775807)) (.opt (F_spec_PlaceText n y120 y121 y122 y123) fun r151 => (.ask (decide ((r150 ++ (⟨#[58]⟩ : ByteArray)).size + r151.size ≤ 9223372036854775807)) (.done ((r150 ++ (⟨#[58]⟩ : ByteArray)) ++ r151)) .fail)) .fail)) (.ask ((y111 == (4 : Int))) (.ask (decide (0 ≤ (0 : Int) ∧ (0 : Int) < y124.length)) (.opt (y124[((0 : Int)).toNat]?) fun e152 => (.ask (decide (e152.length = 1)) (.opt (cellI .i64 e152 0) fun y153 => (.opt (rec x0 y153 (5 : Int)) fun r154 => (.ask (decide ((⟨#[45]⟩ : ByteArray).size + r154.size ≤ 9223372036854775807)) (.done ((⟨#[45]⟩ : ByteArray) ++ r154)) .fail))) .fail)) .fail) (.ask ((y111 == (5 : Int))) (.opt (F_spec_l3Level n y112) fun r155 => (.ask (decide (0 ≤ (0 : Int) ∧ (0 : Int) < y124.length)) (.opt (y124[((0 : Int)).toNat]?) fun e156 => (.ask (decide (e156.length = 1)) (.opt (cellI .i64 e156 0) fun y157 => (.ask (decide (0 ≤ (1 : Int) ∧ (1 : Int) < y124.length)) (.opt (y124[((1 : Int)).toNat]?) fun e158 => (.ask (decide (e158.length = 1)) (.opt (cellI .i64 e158 0) fun y159 => (.opt (rec x0 y157 r155) fun r160 => (.opt (F_spec_l3Sign n y112) fun r163 => (.ask (decide (r160.size + r163.size ≤ 9223372036854775807)) (.opt (rec x0 y159 (IntKind.i64.wrap (r155 + (1 : Int)))) fun r164 => (.ask (decide ((r160 ++ r163).size + r164.size ≤ 9223372036854775807)) (.ask ((decide (r155 < x2))) (.ask (decide ((⟨#[40]⟩ : ByteArray).size + ((r160 ++ r163) ++ r164).size ≤ 9223372036854775807)) (.ask (decide (((⟨#[40]⟩ : ByteArray) ++ ((r160 ++ r163) ++ r164)).size + (⟨#[41]⟩ : ByteArray).size ≤ 9223372036854775807)) (.done (((⟨#[40]⟩ : ByteArray) ++ ((r160 ++ r163) ++ r164)) ++ (⟨#[41]⟩ : ByteArray))) .fail) .fail) (.done ((r160 ++ r163) ++ r164))) .fail)) .fail)))) .fail)) .fail)) .fail)) .fail)) (.opt (F_spec_l3Fn n y112) fun r167 => (.ask (decide (r167.size + (⟨#[40]⟩ : ByteArray).size ≤ 9223372036854775807)) (.opt (loopF (B_spec_l3Text_125 rec n) n (x0, (r167 ++ (⟨#[40]⟩ : ByteArray)), (0 : Int), y111, y112, y113, y114, y115, y116, y117, y118, y119, y120, y121, y122, y123, y124)) fun r174 => (.ask (decide (r174.size + (⟨#[41]⟩ : ByteArray).size ≤ 9223372036854775807)) (.done (r174 ++ (⟨#[41]⟩ : ByteArray))) .fail)) .fail))))))))))))))))))))) .fail)) .fail)
def F_spec_l3Text : Nat → List (List PV) → Int → Int → Option (ByteArray)
  | 0, _, _, _ => none
  | n + 1, x0, x1, x2 => (T_spec_l3Text (F_spec_l3Text n) n x0 x1 x2).run
theorem ft_spec_l3Text (rec : List (List PV) → Int → Int → Option (ByteArray)) (n : Nat) (x0 : List (List PV)) (x1 : Int) (x2 : Int) : funT (CT_spec_l3Text rec n) (LT_spec_l3Text rec n) K_spec_l3Text (A_spec_l3Text x0 x1 x2) (U_spec_l3Text x0 x1 x2) = (T_spec_l3Text rec n x0 x1 x2).bind fun r => .done (O_spec_l3Text r) := by kernel_rfl
theorem ct_spec_l3Text (n : Nat) (ih : ∀ (x0 : List (List PV)) (x1 : Int) (x2 : Int) r, F_spec_l3Text n x0 x1 x2 = some r → runs KP lib n 47 (A_spec_l3Text x0 x1 x2) (U_spec_l3Text x0 x1 x2) = some (O_spec_l3Text r)) : CTok (CT_spec_l3Text (F_spec_l3Text n) n) (runs KP lib n) := mkCT_cons (eo_spec_l3Quote n (noEnt_ok)) (mkCT_cons (eo_spec_ValueText n (noEnt_ok)) (mkCT_cons (eo_spec_PlaceText n (noEnt_ok)) (mkCT_cons (cent_ok (fun hs r h => by
    unfold FHr_spec_l3Text at h
    split at h
    · exact ⟨A_spec_l3Text _ _ _, U_spec_l3Text _ _ _, rfl, rfl, ih _ _ _ r h⟩
    · cases h) (noEnt_ok)) (mkCT_cons (eo_spec_l3Level n (noEnt_ok)) (mkCT_cons (eo_spec_l3Sign n (noEnt_ok)) (mkCT_cons (eo_spec_l3Fn n (noEnt_ok)) (mkCT_nil)))))))
set_option maxHeartbeats 4000000 in
theorem lt_spec_l3Text_125 (n : Nat) (v : (List (List PV)) × ByteArray × Int × Int × Int × Int × Int × ByteArray × Int × Int × Bool × Bool × Int × Int × Bool × Bool × (List (List PV))) : (evalCT (CT_spec_l3Text (F_spec_l3Text n) n) (mkLT []) K_spec_l3Text_L125 (S_spec_l3Text_125 v) []).bind (ltail [0, 7, 10, 11] [(.ret, [6]), ((.exit 1), [10])]) = (B_spec_l3Text_125 (F_spec_l3Text n) n v).bind (lenc S_spec_l3Text_125 D_spec_l3Text_125) := by
  obtain ⟨w0, w1, w2, w3, w4, w5, w6, w7, w8, w9, w10, w11, w12, w13, w14, w15, w16⟩ := v
  kernel_rfl
theorem le_spec_l3Text_125 (n : Nat) (ih : ∀ (x0 : List (List PV)) (x1 : Int) (x2 : Int) r, F_spec_l3Text n x0 x1 x2 = some r → runs KP lib n 47 (A_spec_l3Text x0 x1 x2) (U_spec_l3Text x0 x1 x2) = some (O_spec_l3Text r)) : LEok (runs KP lib n) n (125, [0, 7, 10, 11], [(.ret, [6]), ((.exit 1), [10])], K_spec_l3Text_L125) (LE_spec_l3Text_125 (F_spec_l3Text n) n) := fun st e s h =>
  lent_ok (ct_spec_l3Text n ih) (noLoops rfl) (lt_spec_l3Text_125 n) (fun r h => by cases h) (fun r y h => by cases h; rfl) (fun hs v h => by
    unfold VH_spec_l3Text_125 at h
    split at h <;> cases h
    rfl) h
theorem lo_spec_l3Text (n : Nat) (ih : ∀ (x0 : List (List PV)) (x1 : Int) (x2 : Int) r, F_spec_l3Text n x0 x1 x2 = some r → runs KP lib n 47 (A_spec_l3Text x0 x1 x2) (U_spec_l3Text x0 x1 x2) = some (O_spec_l3Text r)) : LTok (LT_spec_l3Text (F_spec_l3Text n) n) (runs KP lib n) n K_spec_l3Text.body := mkLT_ok (by
  intro x hx
  have hx : x ∈ ([(125, [0, 7, 10, 11], [(.ret, [6]), ((.exit 1), [10])], K_spec_l3Text_L125)] : List (Nat × List Nat × List (Ex × List Nat) × KCode)) := hx
  simp only [List.mem_cons, List.not_mem_nil, or_false] at hx
  rcases hx with rfl
  · exact ⟨LE_spec_l3Text_125 (F_spec_l3Text n) n, fun st => rfl, le_spec_l3Text_125 n ih⟩)
theorem th_spec_l3Text : ∀ (n : Nat) (x0 : List (List PV)) (x1 : Int) (x2 : Int) (r : ByteArray), F_spec_l3Text n x0 x1 x2 = some r → runs KP lib n 47 (A_spec_l3Text x0 x1 x2) (U_spec_l3Text x0 x1 x2) = some (O_spec_l3Text r)
  | 0, x0, x1, x2, r, h => by cases h
  | n + 1, x0, x1, x2, r, h => fun_step (kf := K_spec_l3Text) rfl (ct_spec_l3Text n (th_spec_l3Text n)) (lo_spec_l3Text n (th_spec_l3Text n)) (ft_spec_l3Text (F_spec_l3Text n) n x0 x1 x2) h
def FH_spec_l3Text (n : Nat) : Cont → Option (ByteArray)
  | ([[[.r x0]], [[.i x1]], [[.i x2]]], []) => F_spec_l3Text n x0 x1 x2
  | _ => none
def E_spec_l3Text (n : Nat) (d : List AV → List Go.Eng.Frame → Tr Res) : List AV → List Go.Eng.Frame → Tr Res := cent (A_spec_l3Text ([]) (0) (0)) (U_spec_l3Text ([]) (0) (0)) (FH_spec_l3Text n) O_spec_l3Text d
theorem eo_spec_l3Text (n : Nat) {d : List AV → List Go.Eng.Frame → Tr Res} (hd : ∀ ar up r, (d ar up).run = some r → runs KP lib n 47 ar up = some r) : ∀ ar up r, (E_spec_l3Text n d ar up).run = some r → runs KP lib n 47 ar up = some r :=
  cent_ok (fun hs r h => by
    unfold FH_spec_l3Text at h
    split at h
    · exact ⟨A_spec_l3Text _ _ _, U_spec_l3Text _ _ _, rfl, rfl, th_spec_l3Text n _ _ _ r h⟩
    · cases h) hd
/-! ### spec.FormulaText -/
def A_spec_FormulaText (x0 : List (List PV)) : List AV := [(.c (.p (.ls x0)))]
def U_spec_FormulaText (x0 : List (List PV)) : List Go.Eng.Frame := []
def O_spec_FormulaText (r : ByteArray) : Res := ⟨(.c (.p (.s r))), [], []⟩
abbrev CT_spec_FormulaText (n : Nat) : CTab := mkCT [(46, E_spec_FormulaOk n (noEnt)), (47, E_spec_l3Text n (noEnt))]
abbrev LT_spec_FormulaText (n : Nat) : LTab := mkLT []
def T_spec_FormulaText (n : Nat) (x0 : List (List PV)) : Tr (ByteArray) := (.opt (F_spec_FormulaOk n x0) fun r109 => (.ask ((!r109)) (.done (⟨#[]⟩ : ByteArray)) (.opt (F_spec_l3Text n x0 (IntKind.i64.wrap ((x0.length : Int) - (1 : Int))) (0 : Int)) fun r175 => (.ask ((decide ((r175.size : Int) > (200 : Int)))) (.done (⟨#[]⟩ : ByteArray)) (.done r175)))))
def F_spec_FormulaText : Nat → List (List PV) → Option (ByteArray)
  | 0, _ => none
  | n + 1, x0 => (T_spec_FormulaText n x0).run
theorem ft_spec_FormulaText (n : Nat) (x0 : List (List PV)) : funT (CT_spec_FormulaText n) (LT_spec_FormulaText n) K_spec_FormulaText (A_spec_FormulaText x0) (U_spec_FormulaText x0) = (T_spec_FormulaText n x0).bind fun r => .done (O_spec_FormulaText r) := by kernel_rfl
theorem ct_spec_FormulaText (n : Nat) : CTok (CT_spec_FormulaText n) (runs KP lib n) := mkCT_cons (eo_spec_FormulaOk n (noEnt_ok)) (mkCT_cons (eo_spec_l3Text n (noEnt_ok)) (mkCT_nil))
theorem th_spec_FormulaText : ∀ (n : Nat) (x0 : List (List PV)) (r : ByteArray), F_spec_FormulaText n x0 = some r → runs KP lib n 24 (A_spec_FormulaText x0) (U_spec_FormulaText x0) = some (O_spec_FormulaText r)
  | 0, x0, r, h => by cases h
  | n + 1, x0, r, h => fun_step (kf := K_spec_FormulaText) rfl (ct_spec_FormulaText n) (noLoops rfl) (ft_spec_FormulaText n x0) h
def FH_spec_FormulaText (n : Nat) : Cont → Option (ByteArray)
  | ([[[.r x0]]], []) => F_spec_FormulaText n x0
  | _ => none
def E_spec_FormulaText (n : Nat) (d : List AV → List Go.Eng.Frame → Tr Res) : List AV → List Go.Eng.Frame → Tr Res := cent (A_spec_FormulaText ([])) (U_spec_FormulaText ([])) (FH_spec_FormulaText n) O_spec_FormulaText d
theorem eo_spec_FormulaText (n : Nat) {d : List AV → List Go.Eng.Frame → Tr Res} (hd : ∀ ar up r, (d ar up).run = some r → runs KP lib n 24 ar up = some r) : ∀ ar up r, (E_spec_FormulaText n d ar up).run = some r → runs KP lib n 24 ar up = some r :=
  cent_ok (fun hs r h => by
    unfold FH_spec_FormulaText at h
    split at h
    · exact ⟨A_spec_FormulaText _, U_spec_FormulaText _, rfl, rfl, th_spec_FormulaText n _ r h⟩
    · cases h) hd
/-! ### impl.within -/
def A_impl_within (x0 : Int) (x1 : Int) (x2 : Int) : List AV := [(.c (.p (.i .i64 x0))), (.c (.p (.i .i64 x1))), (.c (.p (.i .i64 x2)))]
def U_impl_within (x0 : Int) (x1 : Int) (x2 : Int) : List Go.Eng.Frame := []
def O_impl_within (r : Bool) : Res := ⟨(.c (.p (.b r))), [], []⟩
abbrev CT_impl_within (n : Nat) : CTab := mkCT []
abbrev LT_impl_within (n : Nat) : LTab := mkLT []
def T_impl_within (n : Nat) (x0 : Int) (x1 : Int) (x2 : Int) : Tr (Bool) := (.ask ((decide (x0 ≥ x1))) (.done (decide (x0 ≤ x2))) (.done false))
def F_impl_within : Nat → Int → Int → Int → Option (Bool)
  | 0, _, _, _ => none
  | n + 1, x0, x1, x2 => (T_impl_within n x0 x1 x2).run
theorem ft_impl_within (n : Nat) (x0 : Int) (x1 : Int) (x2 : Int) : funT (CT_impl_within n) (LT_impl_within n) K_impl_within (A_impl_within x0 x1 x2) (U_impl_within x0 x1 x2) = (T_impl_within n x0 x1 x2).bind fun r => .done (O_impl_within r) := by kernel_rfl
theorem ct_impl_within (n : Nat) : CTok (CT_impl_within n) (runs KP lib n) := mkCT_nil
theorem th_impl_within : ∀ (n : Nat) (x0 : Int) (x1 : Int) (x2 : Int) (r : Bool), F_impl_within n x0 x1 x2 = some r → runs KP lib n 39 (A_impl_within x0 x1 x2) (U_impl_within x0 x1 x2) = some (O_impl_within r)
  | 0, x0, x1, x2, r, h => by cases h
  | n + 1, x0, x1, x2, r, h => fun_step (kf := K_impl_within) rfl (ct_impl_within n) (noLoops rfl) (ft_impl_within n x0 x1 x2) h
def FH_impl_within (n : Nat) : Cont → Option (Bool)
  | ([[[.i x0]], [[.i x1]], [[.i x2]]], []) => F_impl_within n x0 x1 x2
  | _ => none
def E_impl_within (n : Nat) (d : List AV → List Go.Eng.Frame → Tr Res) : List AV → List Go.Eng.Frame → Tr Res := cent (A_impl_within (0) (0) (0)) (U_impl_within (0) (0) (0)) (FH_impl_within n) O_impl_within d
theorem eo_impl_within (n : Nat) {d : List AV → List Go.Eng.Frame → Tr Res} (hd : ∀ ar up r, (d ar up).run = some r → runs KP lib n 39 ar up = some r) : ∀ ar up r, (E_impl_within n d ar up).run = some r → runs KP lib n 39 ar up = some r :=
  cent_ok (fun hs r h => by
    unfold FH_impl_within at h
    split at h
    · exact ⟨A_impl_within _ _ _, U_impl_within _ _ _, rfl, rfl, th_impl_within n _ _ _ r h⟩
    · cases h) hd
/-! ### impl.isText -/
def A_impl_isText (x0 : ByteArray) (x1 : Int) : List AV := [(.c (.p (.s x0))), (.c (.p (.i .i64 x1)))]
def U_impl_isText (x0 : ByteArray) (x1 : Int) : List Go.Eng.Frame := []
def O_impl_isText (r : Bool) : Res := ⟨(.c (.p (.b r))), [], []⟩
abbrev CT_impl_isText (n : Nat) : CTab := mkCT []
def S_impl_isText_13 (v : ByteArray × Int × Int × Int) : St := ⟨[(0, (.c (.p (.s v.1)))), (1, (.c (.p (.i .i64 v.2.1)))), (7, (.c (.p (.i .i64 v.2.2.1)))), (8, (.c (.p (.i .i64 v.2.2.2))))], [], []⟩
def B_impl_isText_13 (n : Nat) (v : ByteArray × Int × Int × Int) : Tr ((ByteArray × Int × Int × Int) ⊕ ((Bool) ⊕ (ByteArray × Int))) := (.ask ((decide (v.2.2.2 < v.2.2.1))) (.ask (decide (0 ≤ v.2.2.2)) (.opt (v.1.toList[(v.2.2.2).toNat]?) fun c196 => (.ask ((decide ((c196.toNat : Int) < (32 : Int)))) (.done (.inr (.inl (false)))) (.ask (decide (0 ≤ v.2.2.2)) (.opt (v.1.toList[(v.2.2.2).toNat]?) fun c197 => (.ask ((decide ((c197.toNat : Int) > (126 : Int)))) (.done (.inr (.inl (false)))) (.done (.inl (v.1, v.2.1, v.2.2.1, (IntKind.i64.wrap (v.2.2.2 + (1 : Int)))))))) .fail))) .fail) (.done (.inr (.inr ((v.1, v.2.1))))))
def D_impl_isText_13 : ((Bool) ⊕ (ByteArray × Int)) → Ex × St := fun | .inl r => (.ret, ⟨[(4, (.c (.p (.b r))))], [], []⟩) | .inr r => (fun r => ((.exit 0), ⟨[(0, (.c (.p (.s r.1)))), (1, (.c (.p (.i .i64 r.2))))], [], []⟩)) r
def DT_impl_isText_13 : ((Bool) ⊕ (ByteArray × Int)) → Tr (Ex × St) := fun r => .alt r (fun r => .done (.ret, ⟨[(4, (.c (.p (.b r))))], [], []⟩)) (fun r => .done ((.exit 0), ⟨[(0, (.c (.p (.s r.1)))), (1, (.c (.p (.i .i64 r.2))))], [], []⟩))
def VH_impl_isText_13 : Cont3 → Option (ByteArray × Int × Int × Int)
  | ([[[.s w0]], [[.i w1]], [[.i w2]], [[.i w3]]], [], []) => some (w0, w1, w2, w3)
  | _ => none
abbrev LE_impl_isText_13 (n : Nat) : St → Tr (Ex × St) := lent (S_impl_isText_13 (⟨#[]⟩, 0, 0, 0)) VH_impl_isText_13 (B_impl_isText_13 n) DT_impl_isText_13 n
abbrev LT_impl_isText (n : Nat) : LTab := mkLT [(13, LE_impl_isText_13 n)]
def T_impl_isText (n : Nat) (x0 : ByteArray) (x1 : Int) : Tr (Bool) := (.opt (loopF (B_impl_isText_13 n) n (x0, x1, (x0.size : Int), (0 : Int))) fun r198 => (.alt r198 (fun r199 => (.done r199)) (fun r200 => (.done (decide ((r200.1.size : Int) ≤ r200.2))))))
def F_impl_isText : Nat → ByteArray → Int → Option (Bool)
  | 0, _, _ => none
  | n + 1, x0, x1 => (T_impl_isText n x0 x1).run
theorem ft_impl_isText (n : Nat) (x0 : ByteArray) (x1 : Int) : funT (CT_impl_isText n) (LT_impl_isText n) K_impl_isText (A_impl_isText x0 x1) (U_impl_isText x0 x1) = (T_impl_isText n x0 x1).bind fun r => .done (O_impl_isText r) := by kernel_rfl
theorem ct_impl_isText (n : Nat) : CTok (CT_impl_isText n) (runs KP lib n) := mkCT_nil
theorem lt_impl_isText_13 (n : Nat) (v : ByteArray × Int × Int × Int) : (evalCT (CT_impl_isText n) (mkLT []) K_impl_isText_L13 (S_impl_isText_13 v) []).bind (ltail [0, 1, 7, 8] [(.ret, [4]), ((.exit 0), [0, 1])]) = (B_impl_isText_13 n v).bind (lenc S_impl_isText_13 D_impl_isText_13) := by
  obtain ⟨w0, w1, w2, w3⟩ := v
  kernel_rfl
theorem le_impl_isText_13 (n : Nat) : LEok (runs KP lib n) n (13, [0, 1, 7, 8], [(.ret, [4]), ((.exit 0), [0, 1])], K_impl_isText_L13) (LE_impl_isText_13 n) := fun st e s h =>
  lent_ok (ct_impl_isText n) (noLoops rfl) (lt_impl_isText_13 n) (fun r => by
    rcases r with r | r <;> (intro h; cases h)) (fun r y h => by
    rcases r with r | r <;> (cases h; rfl)) (fun hs v h => by
    unfold VH_impl_isText_13 at h
    split at h <;> cases h
    rfl) h
theorem lo_impl_isText (n : Nat) : LTok (LT_impl_isText n) (runs KP lib n) n K_impl_isText.body := mkLT_ok (by
  intro x hx
  have hx : x ∈ ([(13, [0, 1, 7, 8], [(.ret, [4]), ((.exit 0), [0, 1])], K_impl_isText_L13)] : List (Nat × List Nat × List (Ex × List Nat) × KCode)) := hx
  simp only [List.mem_cons, List.not_mem_nil, or_false] at hx
  rcases hx with rfl
  · exact ⟨LE_impl_isText_13 n, fun st => rfl, le_impl_isText_13 n⟩)
theorem th_impl_isText : ∀ (n : Nat) (x0 : ByteArray) (x1 : Int) (r : Bool), F_impl_isText n x0 x1 = some r → runs KP lib n 136 (A_impl_isText x0 x1) (U_impl_isText x0 x1) = some (O_impl_isText r)
  | 0, x0, x1, r, h => by cases h
  | n + 1, x0, x1, r, h => fun_step (kf := K_impl_isText) rfl (ct_impl_isText n) (lo_impl_isText n) (ft_impl_isText n x0 x1) h
def FH_impl_isText (n : Nat) : Cont → Option (Bool)
  | ([[[.s x0]], [[.i x1]]], []) => F_impl_isText n x0 x1
  | _ => none
def E_impl_isText (n : Nat) (d : List AV → List Go.Eng.Frame → Tr Res) : List AV → List Go.Eng.Frame → Tr Res := cent (A_impl_isText (⟨#[]⟩) (0)) (U_impl_isText (⟨#[]⟩) (0)) (FH_impl_isText n) O_impl_isText d
theorem eo_impl_isText (n : Nat) {d : List AV → List Go.Eng.Frame → Tr Res} (hd : ∀ ar up r, (d ar up).run = some r → runs KP lib n 136 ar up = some r) : ∀ ar up r, (E_impl_isText n d ar up).run = some r → runs KP lib n 136 ar up = some r :=
  cent_ok (fun hs r h => by
    unfold FH_impl_isText at h
    split at h
    · exact ⟨A_impl_isText _ _, U_impl_isText _ _, rfl, rfl, th_impl_isText n _ _ r h⟩
    · cases h) hd
/-! ### impl.ValueOk -/
def A_impl_ValueOk (x0 : Int) (x1 : Int) (x2 : ByteArray) : List AV := [(.agg [(.p (.i .i64 x0)), (.p (.i .i64 x1)), (.p (.s x2))])]
def U_impl_ValueOk (x0 : Int) (x1 : Int) (x2 : ByteArray) : List Go.Eng.Frame := []
def O_impl_ValueOk (r : Bool) : Res := ⟨(.c (.p (.b r))), [], []⟩
abbrev CT_impl_ValueOk (n : Nat) : CTab := mkCT [(136, E_impl_isText n (noEnt)), (39, E_impl_within n (noEnt))]
abbrev LT_impl_ValueOk (n : Nat) : LTab := mkLT []
def T_impl_ValueOk (n : Nat) (x0 : Int) (x1 : Int) (x2 : ByteArray) : Tr (Bool) := (.ask ((x0 == (2 : Int))) (.ask ((x1 == (0 : Int))) (.opt (F_impl_isText n x2 (200 : Int)) fun r201 => (.done r201)) (.done false)) (.ask ((!(x2.toList == (⟨#[]⟩ : ByteArray).toList))) (.done false) (.ask ((x0 == (0 : Int))) (.done (x1 == (0 : Int))) (.ask ((x0 == (1 : Int))) (.opt (F_impl_within n x1 (-1000000000000000 : Int) (1000000000000000 : Int)) fun r202 => (.done r202)) (.ask ((x0 == (3 : Int))) (.opt (F_impl_within n x1 (0 : Int) (1 : Int)) fun r203 => (.done r203)) (.ask ((x0 == (4 : Int))) (.opt (F_impl_within n x1 (1 : Int) (5 : Int)) fun r204 => (.done r204)) (.done false)))))))
def F_impl_ValueOk : Nat → Int → Int → ByteArray → Option (Bool)
  | 0, _, _, _ => none
  | n + 1, x0, x1, x2 => (T_impl_ValueOk n x0 x1 x2).run
theorem ft_impl_ValueOk (n : Nat) (x0 : Int) (x1 : Int) (x2 : ByteArray) : funT (CT_impl_ValueOk n) (LT_impl_ValueOk n) K_impl_ValueOk (A_impl_ValueOk x0 x1 x2) (U_impl_ValueOk x0 x1 x2) = (T_impl_ValueOk n x0 x1 x2).bind fun r => .done (O_impl_ValueOk r) := by kernel_rfl
theorem ct_impl_ValueOk (n : Nat) : CTok (CT_impl_ValueOk n) (runs KP lib n) := mkCT_cons (eo_impl_isText n (noEnt_ok)) (mkCT_cons (eo_impl_within n (noEnt_ok)) (mkCT_nil))
theorem th_impl_ValueOk : ∀ (n : Nat) (x0 : Int) (x1 : Int) (x2 : ByteArray) (r : Bool), F_impl_ValueOk n x0 x1 x2 = some r → runs KP lib n 119 (A_impl_ValueOk x0 x1 x2) (U_impl_ValueOk x0 x1 x2) = some (O_impl_ValueOk r)
  | 0, x0, x1, x2, r, h => by cases h
  | n + 1, x0, x1, x2, r, h => fun_step (kf := K_impl_ValueOk) rfl (ct_impl_ValueOk n) (noLoops rfl) (ft_impl_ValueOk n x0 x1 x2) h
def FH_impl_ValueOk (n : Nat) : Cont → Option (Bool)
  | ([[[.i x0], [.i x1], [.s x2]]], []) => F_impl_ValueOk n x0 x1 x2
  | _ => none
def E_impl_ValueOk (n : Nat) (d : List AV → List Go.Eng.Frame → Tr Res) : List AV → List Go.Eng.Frame → Tr Res := cent (A_impl_ValueOk (0) (0) (⟨#[]⟩)) (U_impl_ValueOk (0) (0) (⟨#[]⟩)) (FH_impl_ValueOk n) O_impl_ValueOk d
theorem eo_impl_ValueOk (n : Nat) {d : List AV → List Go.Eng.Frame → Tr Res} (hd : ∀ ar up r, (d ar up).run = some r → runs KP lib n 119 ar up = some r) : ∀ ar up r, (E_impl_ValueOk n d ar up).run = some r → runs KP lib n 119 ar up = some r :=
  cent_ok (fun hs r h => by
    unfold FH_impl_ValueOk at h
    split at h
    · exact ⟨A_impl_ValueOk _ _ _, U_impl_ValueOk _ _ _, rfl, rfl, th_impl_ValueOk n _ _ _ r h⟩
    · cases h) hd
/-! ### (impl.FNode).area -/
def A_impl_FNode_area (x0 : Int) (x1 : Int) (x2 : Int) (x3 : Int) (x4 : ByteArray) (x5 : Int) (x6 : Int) (x7 : Bool) (x8 : Bool) (x9 : Int) (x10 : Int) (x11 : Bool) (x12 : Bool) (x13 : List (List PV)) : List AV := [(.agg [(.p (.i .i64 x0)), (.p (.i .i64 x1)), (.p (.i .i64 x2)), (.p (.i .i64 x3)), (.p (.s x4)), (.p (.i .i64 x5)), (.p (.i .i64 x6)), (.p (.b x7)), (.p (.b x8)), (.p (.i .i64 x9)), (.p (.i .i64 x10)), (.p (.b x11)), (.p (.b x12)), (.p (.ls x13))])]
def U_impl_FNode_area (x0 : Int) (x1 : Int) (x2 : Int) (x3 : Int) (x4 : ByteArray) (x5 : Int) (x6 : Int) (x7 : Bool) (x8 : Bool) (x9 : Int) (x10 : Int) (x11 : Bool) (x12 : Bool) (x13 : List (List PV)) : List Go.Eng.Frame := []
def O_impl_FNode_area (r : Int × Int × Int × Int) : Res := ⟨(.agg [(.p (.i .i64 r.1)), (.p (.i .i64 r.2.1)), (.p (.i .i64 r.2.2.1)), (.p (.i .i64 r.2.2.2))]), [], []⟩
abbrev CT_impl_FNode_area (n : Nat) : CTab := mkCT []
abbrev LT_impl_FNode_area (n : Nat) : LTab := mkLT []
def T_impl_FNode_area (n : Nat) (x0 : Int) (x1 : Int) (x2 : Int) (x3 : Int) (x4 : ByteArray) (x5 : Int) (x6 : Int) (x7 : Bool) (x8 : Bool) (x9 : Int) (x10 : Int) (x11 : Bool) (x12 : Bool) (x13 : List (List PV)) : Tr (Int × Int × Int × Int) := (.ask ((x0 == (2 : Int))) (.done (x5, x6, x5, x6)) (.done (x5, x6, x9, x10)))
def F_impl_FNode_area : Nat → Int → Int → Int → Int → ByteArray → Int → Int → Bool → Bool → Int → Int → Bool → Bool → List (List PV) → Option (Int × Int × Int × Int)
  | 0, _, _, _, _, _, _, _, _, _, _, _, _, _, _ => none
  | n + 1, x0, x1, x2, x3, x4, x5, x6, x7, x8, x9, x10, x11, x12, x13 => (T_impl_FNode_area n x0 x1 x2 x3 x4 x5 x6 x7 x8 x9 x10 x11 x12 x13).run
theorem ft_impl_FNode_area (n : Nat) (x0 : Int) (x1 : Int) (x2 : Int) (x3 : Int) (x4 : ByteArray) (x5 : Int) (x6 : Int) (x7 : Bool) (x8 : Bool) (x9 : Int) (x10 : Int) (x11 : Bool) (x12 : Bool) (x13 : List (List PV)) : funT (CT_impl_FNode_area n) (LT_impl_FNode_area n) K_impl_FNode_area (A_impl_FNode_area x0 x1 x2 x3 x4 x5 x6 x7 x8 x9 x10 x11 x12 x13) (U_impl_FNode_area x0 x1 x2 x3 x4 x5 x6 x7 x8 x9 x10 x11 x12 x13) = (T_impl_FNode_area n x0 x1 x2 x3 x4 x5 x6 x7 x8 x9 x10 x11 x12 x13).bind fun r => .done (O_impl_FNode_area r) := by kernel_rfl
theorem ct_impl_FNode_area (n : Nat) : CTok (CT_impl_FNode_area n) (runs KP lib n) := mkCT_nil
theorem th_impl_FNode_area : ∀ (n : Nat) (x0 : Int) (x1 : Int) (x2 : Int) (x3 : Int) (x4 : ByteArray) (x5 : Int) (x6 : Int) (x7 : Bool) (x8 : Bool) (x9 : Int) (x10 : Int) (x11 : Bool) (x12 : Bool) (x13 : List (List PV)) (r : Int × Int × Int × Int), F_impl_FNode_area n x0 x1 x2 x3 x4 x5 x6 x7 x8 x9 x10 x11 x12 x13 = some r → runs KP lib n 138 (A_impl_FNode_area x0 x1 x2 x3 x4 x5 x6 x7 x8 x9 x10 x11 x12 x13) (U_impl_FNode_area x0 x1 x2 x3 x4 x5 x6 x7 x8 x9 x10 x11 x12 x13) = some (O_impl_FNode_area r)
  | 0, x0, x1, x2, x3, x4, x5, x6, x7, x8, x9, x10, x11, x12, x13, r, h => by cases h
  | n + 1, x0, x1, x2, x3, x4, x5, x6, x7, x8, x9, x10, x11, x12, x13, r, h => fun_step (kf := K_impl_FNode_area) rfl (ct_impl_FNode_area n) (noLoops rfl) (ft_impl_FNode_area n x0 x1 x2 x3 x4 x5 x6 x7 x8 x9 x10 x11 x12 x13) h
def FH_impl_FNode_area (n : Nat) : Cont → Option (Int × Int × Int × Int)
  | ([[[.i x0], [.i x1], [.i x2], [.i x3], [.s x4], [.i x5], [.i x6], [.b x7], [.b x8], [.i x9], [.i x10], [.b x11], [.b x12], [.r x13]]], []) => F_impl_FNode_area n x0 x1 x2 x3 x4 x5 x6 x7 x8 x9 x10 x11 x12 x13
  | _ => none
def E_impl_FNode_area (n : Nat) (d : List AV → List Go.Eng.Frame → Tr Res) : List AV → List Go.Eng.Frame → Tr Res := cent (A_impl_FNode_area (0) (0) (0) (0) (⟨#[]⟩) (0) (0) (false) (false) (0) (0) (false) (false) ([])) (U_impl_FNode_area (0) (0) (0) (0) (⟨#[]⟩) (0) (0) (false) (false) (0) (0) (false) (false) ([])) (FH_impl_FNode_area n) O_impl_FNode_area d
theorem eo_impl_FNode_area (n : Nat) {d : List AV → List Go.Eng.Frame → Tr Res} (hd : ∀ ar up r, (d ar up).run = some r → runs KP lib n 138 ar up = some r) : ∀ ar up r, (E_impl_FNode_area n d ar up).run = some r → runs KP lib n 138 ar up = some r :=
  cent_ok (fun hs r h => by
    unfold FH_impl_FNode_area at h
    split at h
    · exact ⟨A_impl_FNode_area _ _ _ _ _ _ _ _ _ _ _ _ _ _, U_impl_FNode_area _ _ _ _ _ _ _ _ _ _ _ _ _ _, rfl, rfl, th_impl_FNode_area n _ _ _ _ _ _ _ _ _ _ _ _ _ _ r h⟩
    · cases h) hd
/-! ### impl.RefOk -/
def A_impl_RefOk (x0 : Int) (x1 : Int) : List AV := [(.agg [(.p (.i .i64 x0)), (.p (.i .i64 x1))])]
def U_impl_RefOk (x0 : Int) (x1 : Int) : List Go.Eng.Frame := []
def O_impl_RefOk (r : Bool) : Res := ⟨(.c (.p (.b r))), [], []⟩
abbrev CT_impl_RefOk (n : Nat) : CTab := mkCT [(39, E_impl_within n (noEnt))]
abbrev LT_impl_RefOk (n : Nat) : LTab := mkLT []
def T_impl_RefOk (n : Nat) (x0 : Int) (x1 : Int) : Tr (Bool) := (.opt (F_impl_within n x0 (1 : Int) (52 : Int)) fun r207 => (.ask (r207) (.opt (F_impl_within n x1 (1 : Int) (99 : Int)) fun r208 => (.done r208)) (.done false)))
def F_impl_RefOk : Nat → Int → Int → Option (Bool)
  | 0, _, _ => none
  | n + 1, x0, x1 => (T_impl_RefOk n x0 x1).run
theorem ft_impl_RefOk (n : Nat) (x0 : Int) (x1 : Int) : funT (CT_impl_RefOk n) (LT_impl_RefOk n) K_impl_RefOk (A_impl_RefOk x0 x1) (U_impl_RefOk x0 x1) = (T_impl_RefOk n x0 x1).bind fun r => .done (O_impl_RefOk r) := by kernel_rfl
theorem ct_impl_RefOk (n : Nat) : CTok (CT_impl_RefOk n) (runs KP lib n) := mkCT_cons (eo_impl_within n (noEnt_ok)) (mkCT_nil)
theorem th_impl_RefOk : ∀ (n : Nat) (x0 : Int) (x1 : Int) (r : Bool), F_impl_RefOk n x0 x1 = some r → runs KP lib n 21 (A_impl_RefOk x0 x1) (U_impl_RefOk x0 x1) = some (O_impl_RefOk r)
  | 0, x0, x1, r, h => by cases h
  | n + 1, x0, x1, r, h => fun_step (kf := K_impl_RefOk) rfl (ct_impl_RefOk n) (noLoops rfl) (ft_impl_RefOk n x0 x1) h
def FH_impl_RefOk (n : Nat) : Cont → Option (Bool)
  | ([[[.i x0], [.i x1]]], []) => F_impl_RefOk n x0 x1
  | _ => none
def E_impl_RefOk (n : Nat) (d : List AV → List Go.Eng.Frame → Tr Res) : List AV → List Go.Eng.Frame → Tr Res := cent (A_impl_RefOk (0) (0)) (U_impl_RefOk (0) (0)) (FH_impl_RefOk n) O_impl_RefOk d
theorem eo_impl_RefOk (n : Nat) {d : List AV → List Go.Eng.Frame → Tr Res} (hd : ∀ ar up r, (d ar up).run = some r → runs KP lib n 21 ar up = some r) : ∀ ar up r, (E_impl_RefOk n d ar up).run = some r → runs KP lib n 21 ar up = some r :=
  cent_ok (fun hs r h => by
    unfold FH_impl_RefOk at h
    split at h
    · exact ⟨A_impl_RefOk _ _, U_impl_RefOk _ _, rfl, rfl, th_impl_RefOk n _ _ r h⟩
    · cases h) hd
/-! ### impl.AreaOk -/
def A_impl_AreaOk (x0 : Int) (x1 : Int) (x2 : Int) (x3 : Int) : List AV := [(.agg [(.p (.i .i64 x0)), (.p (.i .i64 x1)), (.p (.i .i64 x2)), (.p (.i .i64 x3))])]
def U_impl_AreaOk (x0 : Int) (x1 : Int) (x2 : Int) (x3 : Int) : List Go.Eng.Frame := []
def O_impl_AreaOk (r : Bool) : Res := ⟨(.c (.p (.b r))), [], []⟩
abbrev CT_impl_AreaOk (n : Nat) : CTab := mkCT [(21, E_impl_RefOk n (noEnt))]
abbrev LT_impl_AreaOk (n : Nat) : LTab := mkLT []
def T_impl_AreaOk (n : Nat) (x0 : Int) (x1 : Int) (x2 : Int) (x3 : Int) : Tr (Bool) := (.opt (F_impl_RefOk n x0 x1) fun r209 => (.ask (r209) (.opt (F_impl_RefOk n x2 x3) fun r210 => (.ask (r210) (.ask ((decide (x0 ≤ x2))) (.done (decide (x1 ≤ x3))) (.done false)) (.done false))) (.done false)))
def F_impl_AreaOk : Nat → Int → Int → Int → Int → Option (Bool)
  | 0, _, _, _, _ => none
  | n + 1, x0, x1, x2, x3 => (T_impl_AreaOk n x0 x1 x2 x3).run
theorem ft_impl_AreaOk (n : Nat) (x0 : Int) (x1 : Int) (x2 : Int) (x3 : Int) : funT (CT_impl_AreaOk n) (LT_impl_AreaOk n) K_impl_AreaOk (A_impl_AreaOk x0 x1 x2 x3) (U_impl_AreaOk x0 x1 x2 x3) = (T_impl_AreaOk n x0 x1 x2 x3).bind fun r => .done (O_impl_AreaOk r) := by kernel_rfl
theorem ct_impl_AreaOk (n : Nat) : CTok (CT_impl_AreaOk n) (runs KP lib n) := mkCT_cons (eo_impl_RefOk n (noEnt_ok)) (mkCT_nil)
theorem th_impl_AreaOk : ∀ (n : Nat) (x0 : Int) (x1 : Int) (x2 : Int) (x3 : Int) (r : Bool), F_impl_AreaOk n x0 x1 x2 x3 = some r → runs KP lib n 137 (A_impl_AreaOk x0 x1 x2 x3) (U_impl_AreaOk x0 x1 x2 x3) = some (O_impl_AreaOk r)
  | 0, x0, x1, x2, x3, r, h => by cases h
  | n + 1, x0, x1, x2, x3, r, h => fun_step (kf := K_impl_AreaOk) rfl (ct_impl_AreaOk n) (noLoops rfl) (ft_impl_AreaOk n x0 x1 x2 x3) h
def FH_impl_AreaOk (n : Nat) : Cont → Option (Bool)
  | ([[[.i x0], [.i x1], [.i x2], [.i x3]]], []) => F_impl_AreaOk n x0 x1 x2 x3
  | _ => none
def E_impl_AreaOk (n : Nat) (d : List AV → List Go.Eng.Frame → Tr Res) : List AV → List Go.Eng.Frame → Tr Res := cent (A_impl_AreaOk (0) (0) (0) (0)) (U_impl_AreaOk (0) (0) (0) (0)) (FH_impl_AreaOk n) O_impl_AreaOk d
theorem eo_impl_AreaOk (n : Nat) {d : List AV → List Go.Eng.Frame → Tr Res} (hd : ∀ ar up r, (d ar up).run = some r → runs KP lib n 137 ar up = some r) : ∀ ar up r, (E_impl_AreaOk n d ar up).run = some r → runs KP lib n 137 ar up = some r :=
  cent_ok (fun hs r h => by
    unfold FH_impl_AreaOk at h
    split at h
    · exact ⟨A_impl_AreaOk _ _ _ _, U_impl_AreaOk _ _ _ _, rfl, rfl, th_impl_AreaOk n _ _ _ _ r h⟩
    · cases h) hd
/-! ### (impl.FNode).isPlaced -/
def A_impl_FNode_isPlaced (x0 : Int) (x1 : Int) (x2 : Int) (x3 : Int) (x4 : ByteArray) (x5 : Int) (x6 : Int) (x7 : Bool) (x8 : Bool) (x9 : Int) (x10 : Int) (x11 : Bool) (x12 : Bool) (x13 : List (List PV)) : List AV := [(.agg [(.p (.i .i64 x0)), (.p (.i .i64 x1)), (.p (.i .i64 x2)), (.p (.i .i64 x3)), (.p (.s x4)), (.p (.i .i64 x5)), (.p (.i .i64 x6)), (.p (.b x7)), (.p (.b x8)), (.p (.i .i64 x9)), (.p (.i .i64 x10)), (.p (.b x11)), (.p (.b x12)), (.p (.ls x13))])]
def U_impl_FNode_isPlaced (x0 : Int) (x1 : Int) (x2 : Int) (x3 : Int) (x4 : ByteArray) (x5 : Int) (x6 : Int) (x7 : Bool) (x8 : Bool) (x9 : Int) (x10 : Int) (x11 : Bool) (x12 : Bool) (x13 : List (List PV)) : List Go.Eng.Frame := []
def O_impl_FNode_isPlaced (r : Bool) : Res := ⟨(.c (.p (.b r))), [], []⟩
abbrev CT_impl_FNode_isPlaced (n : Nat) : CTab := mkCT [(138, E_impl_FNode_area n (noEnt)), (137, E_impl_AreaOk n (noEnt))]
abbrev LT_impl_FNode_isPlaced (n : Nat) : LTab := mkLT []
def T_impl_FNode_isPlaced (n : Nat) (x0 : Int) (x1 : Int) (x2 : Int) (x3 : Int) (x4 : ByteArray) (x5 : Int) (x6 : Int) (x7 : Bool) (x8 : Bool) (x9 : Int) (x10 : Int) (x11 : Bool) (x12 : Bool) (x13 : List (List PV)) : Tr (Bool) := (.ask ((x0 != (2 : Int))) (.ask ((x0 != (3 : Int))) (.done true) (.opt (F_impl_FNode_area n x0 x1 x2 x3 x4 x5 x6 x7 x8 x9 x10 x11 x12 x13) fun r206 => (.opt (F_impl_AreaOk n r206.1 r206.2.1 r206.2.2.1 r206.2.2.2) fun r211 => (.done r211)))) (.opt (F_impl_FNode_area n x0 x1 x2 x3 x4 x5 x6 x7 x8 x9 x10 x11 x12 x13) fun r212 => (.opt (F_impl_AreaOk n r212.1 r212.2.1 r212.2.2.1 r212.2.2.2) fun r213 => (.done r213))))
def F_impl_FNode_isPlaced : Nat → Int → Int → Int → Int → ByteArray → Int → Int → Bool → Bool → Int → Int → Bool → Bool → List (List PV) → Option (Bool)
  | 0, _, _, _, _, _, _, _, _, _, _, _, _, _, _ => none
  | n + 1, x0, x1, x2, x3, x4, x5, x6, x7, x8, x9, x10, x11, x12, x13 => (T_impl_FNode_isPlaced n x0 x1 x2 x3 x4 x5 x6 x7 x8 x9 x10 x11 x12 x13).run
theorem ft_impl_FNode_isPlaced (n : Nat) (x0 : Int) (x1 : Int) (x2 : Int) (x3 : Int) (x4 : ByteArray) (x5 : Int) (x6 : Int) (x7 : Bool) (x8 : Bool) (x9 : Int) (x10 : Int) (x11 : Bool) (x12 : Bool) (x13 : List (List PV)) : funT (CT_impl_FNode_isPlaced n) (LT_impl_FNode_isPlaced n) K_impl_FNode_isPlaced (A_impl_FNode_isPlaced x0 x1 x2 x3 x4 x5 x6 x7 x8 x9 x10 x11 x12 x13) (U_impl_FNode_isPlaced x0 x1 x2 x3 x4 x5 x6 x7 x8 x9 x10 x11 x12 x13) = (T_impl_FNode_isPlaced n x0 x1 x2 x3 x4 x5 x6 x7 x8 x9 x10 x11 x12 x13).bind fun r => .done (O_impl_FNode_isPlaced r) := by kernel_rfl
theorem ct_impl_FNode_isPlaced (n : Nat) : CTok (CT_impl_FNode_isPlaced n) (runs KP lib n) := mkCT_cons (eo_impl_FNode_area n (noEnt_ok)) (mkCT_cons (eo_impl_AreaOk n (noEnt_ok)) (mkCT_nil))
theorem th_impl_FNode_isPlaced : ∀ (n : Nat) (x0 : Int) (x1 : Int) (x2 : Int) (x3 : Int) (x4 : ByteArray) (x5 : Int) (x6 : Int) (x7 : Bool) (x8 : Bool) (x9 : Int) (x10 : Int) (x11 : Bool) (x12 : Bool) (x13 : List (List PV)) (r : Bool), F_impl_FNode_isPlaced n x0 x1 x2 x3 x4 x5 x6 x7 x8 x9 x10 x11 x12 x13 = some r → runs KP lib n 120 (A_impl_FNode_isPlaced x0 x1 x2 x3 x4 x5 x6 x7 x8 x9 x10 x11 x12 x13) (U_impl_FNode_isPlaced x0 x1 x2 x3 x4 x5 x6 x7 x8 x9 x10 x11 x12 x13) = some (O_impl_FNode_isPlaced r)
  | 0, x0, x1, x2, x3, x4, x5, x6, x7, x8, x9, x10, x11, x12, x13, r, h => by cases h
  | n + 1, x0, x1, x2, x3, x4, x5, x6, x7, x8, x9, x10, x11, x12, x13, r, h => fun_step (kf := K_impl_FNode_isPlaced) rfl (ct_impl_FNode_isPlaced n) (noLoops rfl) (ft_impl_FNode_isPlaced n x0 x1 x2 x3 x4 x5 x6 x7 x8 x9 x10 x11 x12 x13) h
def FH_impl_FNode_isPlaced (n : Nat) : Cont → Option (Bool)
  | ([[[.i x0], [.i x1], [.i x2], [.i x3], [.s x4], [.i x5], [.i x6], [.b x7], [.b x8], [.i x9], [.i x10], [.b x11], [.b x12], [.r x13]]], []) => F_impl_FNode_isPlaced n x0 x1 x2 x3 x4 x5 x6 x7 x8 x9 x10 x11 x12 x13
  | _ => none
def E_impl_FNode_isPlaced (n : Nat) (d : List AV → List Go.Eng.Frame → Tr Res) : List AV → List Go.Eng.Frame → Tr Res := cent (A_impl_FNode_isPlaced (0) (0) (0) (0) (⟨#[]⟩) (0) (0) (false) (false) (0) (0) (false) (false) ([])) (U_impl_FNode_isPlaced (0) (0) (0) (0) (⟨#[]⟩) (0) (0) (false) (false) (0) (0) (false) (false) ([])) (FH_impl_FNode_isPlaced n) O_impl_FNode_isPlaced d
theorem eo_impl_FNode_isPlaced (n : Nat) {d : List AV → List Go.Eng.Frame → Tr Res} (hd : ∀ ar up r, (d ar up).run = some r → runs KP lib n 120 ar up = some r) : ∀ ar up r, (E_impl_FNode_isPlaced n d ar up).run = some r → runs KP lib n 120 ar up = some r :=
  cent_ok (fun hs r h => by
    unfold FH_impl_FNode_isPlaced at h
    split at h
    · exact ⟨A_impl_FNode_isPlaced _ _ _ _ _ _ _ _ _ _ _ _ _ _, U_impl_FNode_isPlaced _ _ _ _ _ _ _ _ _ _ _ _ _ _, rfl, rfl, th_impl_FNode_isPlaced n _ _ _ _ _ _ _ _ _ _ _ _ _ _ r h⟩
    · cases h) hd
/-! ### (impl.FNode).kidsOk -/
def A_impl_FNode_kidsOk (x0 : Int) (x1 : Int) (x2 : Int) (x3 : Int) (x4 : ByteArray) (x5 : Int) (x6 : Int) (x7 : Bool) (x8 : Bool) (x9 : Int) (x10 : Int) (x11 : Bool) (x12 : Bool) (x13 : List (List PV)) : List AV := [(.agg [(.p (.i .i64 x0)), (.p (.i .i64 x1)), (.p (.i .i64 x2)), (.p (.i .i64 x3)), (.p (.s x4)), (.p (.i .i64 x5)), (.p (.i .i64 x6)), (.p (.b x7)), (.p (.b x8)), (.p (.i .i64 x9)), (.p (.i .i64 x10)), (.p (.b x11)), (.p (.b x12)), (.p (.ls x13))])]
def U_impl_FNode_kidsOk (x0 : Int) (x1 : Int) (x2 : Int) (x3 : Int) (x4 : ByteArray) (x5 : Int) (x6 : Int) (x7 : Bool) (x8 : Bool) (x9 : Int) (x10 : Int) (x11 : Bool) (x12 : Bool) (x13 : List (List PV)) : List Go.Eng.Frame := []
def O_impl_FNode_kidsOk (r : Bool) : Res := ⟨(.c (.p (.b r))), [], []⟩
abbrev CT_impl_FNode_kidsOk (n : Nat) : CTab := mkCT [(39, E_impl_within n (noEnt))]
abbrev LT_impl_FNode_kidsOk (n : Nat) : LTab := mkLT []
def T_impl_FNode_kidsOk (n : Nat) (x0 : Int) (x1 : Int) (x2 : Int) (x3 : Int) (x4 : ByteArray) (x5 : Int) (x6 : Int) (x7 : Bool) (x8 : Bool) (x9 : Int) (x10 : Int) (x11 : Bool) (x12 : Bool) (x13 : List (List PV)) : Tr (Bool) := (.ask ((x0 == (4 : Int))) (.ask ((x1 == (0 : Int))) (.done ((x13.length : Int) == (1 : Int))) (.done false)) (.ask ((x0 == (5 : Int))) (.opt (F_impl_within n x1 (1 : Int) (11 : Int)) fun r215 => (.ask (r215) (.done ((x13.length : Int) == (2 : Int))) (.done false))) (.ask ((x0 == (6 : Int))) (.opt (F_impl_within n x1 (1 : Int) (10 : Int)) fun r216 => (.ask ((!r216)) (.done false) (.ask ((x1 == (5 : Int))) (.opt (F_impl_within n (x13.length : Int) (2 : Int) (3 : Int)) fun r217 => (.done r217)) (.ask ((decide (x1 ≥ (8 : Int)))) (.done ((x13.length : Int) == (1 : Int))) (.opt (F_impl_within n (x13.length : Int) (1 : Int) (10 : Int)) fun r218 => (.done r218)))))) (.ask ((x1 == (0 : Int))) (.done ((x13.length : Int) == (0 : Int))) (.done false)))))
def F_impl_FNode_kidsOk : Nat → Int → Int → Int → Int → ByteArray → Int → Int → Bool → Bool → Int → Int → Bool → Bool → List (List PV) → Option (Bool)
  | 0, _, _, _, _, _, _, _, _, _, _, _, _, _, _ => none
  | n + 1, x0, x1, x2, x3, x4, x5, x6, x7, x8, x9, x10, x11, x12, x13 => (T_impl_FNode_kidsOk n x0 x1 x2 x3 x4 x5 x6 x7 x8 x9 x10 x11 x12 x13).run
theorem ft_impl_FNode_kidsOk (n : Nat) (x0 : Int) (x1 : Int) (x2 : Int) (x3 : Int) (x4 : ByteArray) (x5 : Int) (x6 : Int) (x7 : Bool) (x8 : Bool) (x9 : Int) (x10 : Int) (x11 : Bool) (x12 : Bool) (x13 : List (List PV)) : funT (CT_impl_FNode_kidsOk n) (LT_impl_FNode_kidsOk n) K_impl_FNode_kidsOk (A_impl_FNode_kidsOk x0 x1 x2 x3 x4 x5 x6 x7 x8 x9 x10 x11 x12 x13) (U_impl_FNode_kidsOk x0 x1 x2 x3 x4 x5 x6 x7 x8 x9 x10 x11 x12 x13) = (T_impl_FNode_kidsOk n x0 x1 x2 x3 x4 x5 x6 x7 x8 x9 x10 x11 x12 x13).bind fun r => .done (O_impl_FNode_kidsOk r) := by kernel_rfl
theorem ct_impl_FNode_kidsOk (n : Nat) : CTok (CT_impl_FNode_kidsOk n) (runs KP lib n) := mkCT_cons (eo_impl_within n (noEnt_ok)) (mkCT_nil)
theorem th_impl_FNode_kidsOk : ∀ (n : Nat) (x0 : Int) (x1 : Int) (x2 : Int) (x3 : Int) (x4 : ByteArray) (x5 : Int) (x6 : Int) (x7 : Bool) (x8 : Bool) (x9 : Int) (x10 : Int) (x11 : Bool) (x12 : Bool) (x13 : List (List PV)) (r : Bool), F_impl_FNode_kidsOk n x0 x1 x2 x3 x4 x5 x6 x7 x8 x9 x10 x11 x12 x13 = some r → runs KP lib n 121 (A_impl_FNode_kidsOk x0 x1 x2 x3 x4 x5 x6 x7 x8 x9 x10 x11 x12 x13) (U_impl_FNode_kidsOk x0 x1 x2 x3 x4 x5 x6 x7 x8 x9 x10 x11 x12 x13) = some (O_impl_FNode_kidsOk r)
  | 0, x0, x1, x2, x3, x4, x5, x6, x7, x8, x9, x10, x11, x12, x13, r, h => by cases h
  | n + 1, x0, x1, x2, x3, x4, x5, x6, x7, x8, x9, x10, x11, x12, x13, r, h => fun_step (kf := K_impl_FNode_kidsOk) rfl (ct_impl_FNode_kidsOk n) (noLoops rfl) (ft_impl_FNode_kidsOk n x0 x1 x2 x3 x4 x5 x6 x7 x8 x9 x10 x11 x12 x13) h
def FH_impl_FNode_kidsOk (n : Nat) : Cont → Option (Bool)
  | ([[[.i x0], [.i x1], [.i x2], [.i x3], [.s x4], [.i x5], [.i x6], [.b x7], [.b x8], [.i x9], [.i x10], [.b x11], [.b x12], [.r x13]]], []) => F_impl_FNode_kidsOk n x0 x1 x2 x3 x4 x5 x6 x7 x8 x9 x10 x11 x12 x13
  | _ => none
def E_impl_FNode_kidsOk (n : Nat) (d : List AV → List Go.Eng.Frame → Tr Res) : List AV → List Go.Eng.Frame → Tr Res := cent (A_impl_FNode_kidsOk (0) (0) (0) (0) (⟨#[]⟩) (0) (0) (false) (false) (0) (0) (false) (false) ([])) (U_impl_FNode_kidsOk (0) (0) (0) (0) (⟨#[]⟩) (0) (0) (false) (false) (0) (0) (false) (false) ([])) (FH_impl_FNode_kidsOk n) O_impl_FNode_kidsOk d
theorem eo_impl_FNode_kidsOk (n : Nat) {d : List AV → List Go.Eng.Frame → Tr Res} (hd : ∀ ar up r, (d ar up).run = some r → runs KP lib n 121 ar up = some r) : ∀ ar up r, (E_impl_FNode_kidsOk n d ar up).run = some r → runs KP lib n 121 ar up = some r :=
  cent_ok (fun hs r h => by
    unfold FH_impl_FNode_kidsOk at h
    split at h
    · exact ⟨A_impl_FNode_kidsOk _ _ _ _ _ _ _ _ _ _ _ _ _ _, U_impl_FNode_kidsOk _ _ _ _ _ _ _ _ _ _ _ _ _ _, rfl, rfl, th_impl_FNode_kidsOk n _ _ _ _ _ _ _ _ _ _ _ _ _ _ r h⟩
    · cases h) hd
/-! ### (impl.FNode).isOwn -/
def A_impl_FNode_isOwn (x0 : Int) (x1 : Int) (x2 : Int) (x3 : Int) (x4 : ByteArray) (x5 : Int) (x6 : Int) (x7 : Bool) (x8 : Bool) (x9 : Int) (x10 : Int) (x11 : Bool) (x12 : Bool) (x13 : List (List PV)) : List AV := [(.agg [(.p (.i .i64 x0)), (.p (.i .i64 x1)), (.p (.i .i64 x2)), (.p (.i .i64 x3)), (.p (.s x4)), (.p (.i .i64 x5)), (.p (.i .i64 x6)), (.p (.b x7)), (.p (.b x8)), (.p (.i .i64 x9)), (.p (.i .i64 x10)), (.p (.b x11)), (.p (.b x12)), (.p (.ls x13))])]
def U_impl_FNode_isOwn (x0 : Int) (x1 : Int) (x2 : Int) (x3 : Int) (x4 : ByteArray) (x5 : Int) (x6 : Int) (x7 : Bool) (x8 : Bool) (x9 : Int) (x10 : Int) (x11 : Bool) (x12 : Bool) (x13 : List (List PV)) : List Go.Eng.Frame := []
def O_impl_FNode_isOwn (r : Bool) : Res := ⟨(.c (.p (.b r))), [], []⟩
abbrev CT_impl_FNode_isOwn (n : Nat) : CTab := mkCT [(119, E_impl_ValueOk n (noEnt)), (120, E_impl_FNode_isPlaced n (noEnt)), (121, E_impl_FNode_kidsOk n (noEnt))]
abbrev LT_impl_FNode_isOwn (n : Nat) : LTab := mkLT []
def T_impl_FNode_isOwn (n : Nat) (x0 : Int) (x1 : Int) (x2 : Int) (x3 : Int) (x4 : ByteArray) (x5 : Int) (x6 : Int) (x7 : Bool) (x8 : Bool) (x9 : Int) (x10 : Int) (x11 : Bool) (x12 : Bool) (x13 : List (List PV)) : Tr (Bool) := (.ask ((x0 == (1 : Int))) (.opt (F_impl_ValueOk n x2 x3 x4) fun r205 => (.ask ((!r205)) (.done false) (.ask ((x2 == (0 : Int))) (.done false) (.ask ((x2 == (1 : Int))) (.ask ((decide (x3 < (0 : Int)))) (.done false) (.opt (F_impl_FNode_isPlaced n x0 x1 x2 x3 x4 x5 x6 x7 x8 x9 x10 x11 x12 x13) fun r214 => (.ask (r214) (.opt (F_impl_FNode_kidsOk n x0 x1 x2 x3 x4 x5 x6 x7 x8 x9 x10 x11 x12 x13) fun r219 => (.ask (r219) (.ask (((x2 == x2) && ((x3 == x3) && ((x4.toList == x4.toList) && true)))) (.ask ((((0 : Int) == x5) && (((0 : Int) == x6) && ((false == x7) && ((false == x8) && true))))) (.done (((0 : Int) == x9) && (((0 : Int) == x10) && ((false == x11) && ((false == x12) && true))))) (.done false)) (.done false)) (.done false))) (.done false)))) (.opt (F_impl_FNode_isPlaced n x0 x1 x2 x3 x4 x5 x6 x7 x8 x9 x10 x11 x12 x13) fun r220 => (.ask (r220) (.opt (F_impl_FNode_kidsOk n x0 x1 x2 x3 x4 x5 x6 x7 x8 x9 x10 x11 x12 x13) fun r221 => (.ask (r221) (.ask (((x2 == x2) && ((x3 == x3) && ((x4.toList == x4.toList) && true)))) (.ask ((((0 : Int) == x5) && (((0 : Int) == x6) && ((false == x7) && ((false == x8) && true))))) (.done (((0 : Int) == x9) && (((0 : Int) == x10) && ((false == x11) && ((false == x12) && true))))) (.done false)) (.done false)) (.done false))) (.done false))))))) (.ask ((x0 == (2 : Int))) (.opt (F_impl_FNode_isPlaced n x0 x1 x2 x3 x4 x5 x6 x7 x8 x9 x10 x11 x12 x13) fun r222 => (.ask (r222) (.opt (F_impl_FNode_kidsOk n x0 x1 x2 x3 x4 x5 x6 x7 x8 x9 x10 x11 x12 x13) fun r223 => (.ask (r223) (.ask ((((0 : Int) == x2) && (((0 : Int) == x3) && (((⟨#[]⟩ : ByteArray).toList == x4.toList) && true)))) (.ask (((x5 == x5) && ((x6 == x6) && ((x7 == x7) && ((x8 == x8) && true))))) (.done (((0 : Int) == x9) && (((0 : Int) == x10) && ((false == x11) && ((false == x12) && true))))) (.done false)) (.done false)) (.done false))) (.done false))) (.ask ((x0 == (3 : Int))) (.opt (F_impl_FNode_isPlaced n x0 x1 x2 x3 x4 x5 x6 x7 x8 x9 x10 x11 x12 x13) fun r224 => (.ask (r224) (.opt (F_impl_FNode_kidsOk n x0 x1 x2 x3 x4 x5 x6 x7 x8 x9 x10 x11 x12 x13) fun r225 => (.ask (r225) (.ask ((((0 : Int) == x2) && (((0 : Int) == x3) && (((⟨#[]⟩ : ByteArray).toList == x4.toList) && true)))) (.ask (((x5 == x5) && ((x6 == x6) && ((x7 == x7) && ((x8 == x8) && true))))) (.done ((x9 == x9) && ((x10 == x10) && ((x11 == x11) && ((x12 == x12) && true))))) (.done false)) (.done false)) (.done false))) (.done false))) (.ask ((x0 == (4 : Int))) (.opt (F_impl_FNode_isPlaced n x0 x1 x2 x3 x4 x5 x6 x7 x8 x9 x10 x11 x12 x13) fun r226 => (.ask (r226) (.opt (F_impl_FNode_kidsOk n x0 x1 x2 x3 x4 x5 x6 x7 x8 x9 x10 x11 x12 x13) fun r227 => (.ask (r227) (.ask ((((0 : Int) == x2) && (((0 : Int) == x3) && (((⟨#[]⟩ : ByteArray).toList == x4.toList) && true)))) (.ask ((((0 : Int) == x5) && (((0 : Int) == x6) && ((false == x7) && ((false == x8) && true))))) (.done (((0 : Int) == x9) && (((0 : Int) == x10) && ((false == x11) && ((false == x12) && true))))) (.done false)) (.done false)) (.done false))) (.done false))) (.ask ((x0 == (5 : Int))) (.opt (F_impl_FNode_isPlaced n x0 x1 x2 x3 x4 x5 x6 x7 x8 x9 x10 x11 x12 x13) fun r228 => (.ask (r228) (.opt (F_impl_FNode_kidsOk n x0 x1 x2 x3 x4 x5 x6 x7 x8 x9 x10 x11 x12 x13) fun r229 => (.ask (r229) (.ask ((((0 : Int) == x2) && (((0 : Int) == x3) && (((⟨#[]⟩ : ByteArray).toList == x4.toList) && true)))) (.ask ((((0 : Int) == x5) && (((0 : Int) == x6) && ((false == x7) && ((false == x8) && true))))) (.done (((0 : Int) == x9) && (((0 : Int) == x10) && ((false == x11) && ((false == x12) && true))))) (.done false)) (.done false)) (.done false))) (.done false))) (.ask ((x0 == (6 : Int))) (.opt (F_impl_FNode_isPlaced n x0 x1 x2 x3 x4 x5 x6 x7 x8 x9 x10 x11 x12 x13) fun r230 => (.ask (r230) (.opt (F_impl_FNode_kidsOk n x0 x1 x2 x3 x4 x5 x6 x7 x8 x9 x10 x11 x12 x13) fun r231 => (.ask (r231) (.ask ((((0 : Int) == x2) && (((0 : Int) == x3) && (((⟨#[]⟩ : ByteArray).toList == x4.toList) && true)))) (.ask ((((0 : Int) == x5) && (((0 : Int) == x6) && ((false == x7) && ((false == x8) && true))))) (.done (((0 : Int) == x9) && (((0 : Int) == x10) && ((false == x11) && ((false == x12) && true))))) (.done false)) (.done false)) (.done false))) (.done false))) (.done false)))))))
def F_impl_FNode_isOwn : Nat → Int → Int → Int → Int → ByteArray → Int → Int → Bool → Bool → Int → Int → Bool → Bool → List (List PV) → Option (Bool)
  | 0, _, _, _, _, _, _, _, _, _, _, _, _, _, _ => none
  | n + 1, x0, x1, x2, x3, x4, x5, x6, x7, x8, x9, x10, x11, x12, x13 => (T_impl_FNode_isOwn n x0 x1 x2 x3 x4 x5 x6 x7 x8 x9 x10 x11 x12 x13).run
theorem ft_impl_FNode_isOwn (n : Nat) (x0 : Int) (x1 : Int) (x2 : Int) (x3 : Int) (x4 : ByteArray) (x5 : Int) (x6 : Int) (x7 : Bool) (x8 : Bool) (x9 : Int) (x10 : Int) (x11 : Bool) (x12 : Bool) (x13 : List (List PV)) : funT (CT_impl_FNode_isOwn n) (LT_impl_FNode_isOwn n) K_impl_FNode_isOwn (A_impl_FNode_isOwn x0 x1 x2 x3 x4 x5 x6 x7 x8 x9 x10 x11 x12 x13) (U_impl_FNode_isOwn x0 x1 x2 x3 x4 x5 x6 x7 x8 x9 x10 x11 x12 x13) = (T_impl_FNode_isOwn n x0 x1 x2 x3 x4 x5 x6 x7 x8 x9 x10 x11 x12 x13).bind fun r => .done (O_impl_FNode_isOwn r) := by kernel_rfl
theorem ct_impl_FNode_isOwn (n : Nat) : CTok (CT_impl_FNode_isOwn n) (runs KP lib n) := mkCT_cons (eo_impl_ValueOk n (noEnt_ok)) (mkCT_cons (eo_impl_FNode_isPlaced n (noEnt_ok)) (mkCT_cons (eo_impl_FNode_kidsOk n (noEnt_ok)) (mkCT_nil)))
theorem th_impl_FNode_isOwn : ∀ (n : Nat) (x0 : Int) (x1 : Int) (x2 : Int) (x3 : Int) (x4 : ByteArray) (x5 : Int) (x6 : Int) (x7 : Bool) (x8 : Bool) (x9 : Int) (x10 : Int) (x11 : Bool) (x12 : Bool) (x13 : List (List PV)) (r : Bool), F_impl_FNode_isOwn n x0 x1 x2 x3 x4 x5 x6 x7 x8 x9 x10 x11 x12 x13 = some r → runs KP lib n 101 (A_impl_FNode_isOwn x0 x1 x2 x3 x4 x5 x6 x7 x8 x9 x10 x11 x12 x13) (U_impl_FNode_isOwn x0 x1 x2 x3 x4 x5 x6 x7 x8 x9 x10 x11 x12 x13) = some (O_impl_FNode_isOwn r)
  | 0, x0, x1, x2, x3, x4, x5, x6, x7, x8, x9, x10, x11, x12, x13, r, h => by cases h
  | n + 1, x0, x1, x2, x3, x4, x5, x6, x7, x8, x9, x10, x11, x12, x13, r, h => fun_step (kf := K_impl_FNode_isOwn) rfl (ct_impl_FNode_isOwn n) (noLoops rfl) (ft_impl_FNode_isOwn n x0 x1 x2 x3 x4 x5 x6 x7 x8 x9 x10 x11 x12 x13) h
def FH_impl_FNode_isOwn (n : Nat) : Cont → Option (Bool)
  | ([[[.i x0], [.i x1], [.i x2], [.i x3], [.s x4], [.i x5], [.i x6], [.b x7], [.b x8], [.i x9], [.i x10], [.b x11], [.b x12], [.r x13]]], []) => F_impl_FNode_isOwn n x0 x1 x2 x3 x4 x5 x6 x7 x8 x9 x10 x11 x12 x13
  | _ => none
def E_impl_FNode_isOwn (n : Nat) (d : List AV → List Go.Eng.Frame → Tr Res) : List AV → List Go.Eng.Frame → Tr Res := cent (A_impl_FNode_isOwn (0) (0) (0) (0) (⟨#[]⟩) (0) (0) (false) (false) (0) (0) (false) (false) ([])) (U_impl_FNode_isOwn (0) (0) (0) (0) (⟨#[]⟩) (0) (0) (false) (false) (0) (0) (false) (false) ([])) (FH_impl_FNode_isOwn n) O_impl_FNode_isOwn d
theorem eo_impl_FNode_isOwn (n : Nat) {d : List AV → List Go.Eng.Frame → Tr Res} (hd : ∀ ar up r, (d ar up).run = some r → runs KP lib n 101 ar up = some r) : ∀ ar up r, (E_impl_FNode_isOwn n d ar up).run = some r → runs KP lib n 101 ar up = some r :=
  cent_ok (fun hs r h => by
    unfold FH_impl_FNode_isOwn at h
    split at h
    · exact ⟨A_impl_FNode_isOwn _ _ _ _ _ _ _ _ _ _ _ _ _ _, U_impl_FNode_isOwn _ _ _ _ _ _ _ _ _ _ _ _ _ _, rfl, rfl, th_impl_FNode_isOwn n _ _ _ _ _ _ _ _ _ _ _ _ _ _ r h⟩
    · cases h) hd
/-! ### impl.from -/
def A_impl_from (x0 : List (List PV)) (x1 : Int) (x2 : Int) : List AV := [(.c (.p (.ls x0))), (.c (.p (.i .i64 x1))), (.c (.p (.i .i64 x2)))]
def U_impl_from (x0 : List (List PV)) (x1 : Int) (x2 : Int) : List Go.Eng.Frame := []
def O_impl_from (r : Int) : Res := ⟨(.c (.p (.i .i64 r))), [], []⟩
def FHr_impl_from (rec : List (List PV) → Int → Int → Option (Int)) : Cont → Option (Int)
  | ([[[.r x0]], [[.i x1]], [[.i x2]]], []) => rec x0 x1 x2
  | _ => none
abbrev CT_impl_from (rec : List (List PV) → Int → Int → Option (Int)) (n : Nat) : CTab := mkCT [(101, E_impl_FNode_isOwn n (noEnt)), (76, cent (A_impl_from ([]) (0) (0)) (U_impl_from ([]) (0) (0)) (fun hs => FHr_impl_from rec hs) O_impl_from (noEnt))]
def S_impl_from_61 (v : (List (List PV)) × Int × Int × Int × Int) : St := ⟨[(0, (.c (.p (.ls v.1)))), (1, (.c (.p (.i .i64 v.2.1)))), (2, (.c (.p (.i .i64 v.2.2.1)))), (7, (.c (.p (.i .i64 v.2.2.2.1)))), (8, (.c (.p (.i .i64 v.2.2.2.2))))], [], []⟩
def B_impl_from_61 (rec : List (List PV) → Int → Int → Option (Int)) (n : Nat) (v : (List (List PV)) × Int × Int × Int × Int) : Tr (((List (List PV)) × Int × Int × Int × Int) ⊕ ((Int) ⊕ (Int))) := (.ask ((decide (v.2.2.2.2 ≥ (0 : Int)))) (.ask (decide (0 ≤ v.2.1 ∧ v.2.1 < v.1.length)) (.opt (v.1[(v.2.1).toNat]?) fun e235 => (.ask (decide (e235.length = 14)) (.opt (cellL e235 13) fun y236 => (.ask (decide (0 ≤ v.2.2.2.2 ∧ v.2.2.2.2 < y236.length)) (.opt (y236[(v.2.2.2.2).toNat]?) fun e237 => (.ask (decide (e237.length = 1)) (.opt (cellI .i64 e237 0) fun y238 => (.ask ((y238 != (IntKind.i64.wrap (v.2.2.2.1 - (1 : Int))))) (.done (.inr (.inl ((-1 : Int))))) (.ask ((decide (y238 < (0 : Int)))) (.done (.inr (.inl ((-1 : Int))))) (.ask (decide (0 ≤ y238 ∧ y238 < v.1.length)) (.opt (v.1[(y238).toNat]?) fun e239 => (.ask (decide (e239.length = 14)) (.opt (cellI .i64 e239 0) fun y240 => (.ask ((y240 == (3 : Int))) (.ask (decide (0 ≤ v.2.1 ∧ v.2.1 < v.1.length)) (.opt (v.1[(v.2.1).toNat]?) fun e241 => (.ask (decide (e241.length = 14)) (.opt (cellI .i64 e241 0) fun y242 => (.ask ((y242 != (6 : Int))) (.done (.inr (.inl ((-1 : Int))))) (.opt (rec v.1 y238 (IntKind.i64.wrap (v.2.2.1 + (1 : Int)))) fun r243 => (.ask ((decide (r243 < (0 : Int)))) (.done (.inr (.inl ((-1 : Int))))) (.done (.inl (v.1, v.2.1, v.2.2.1, r243, (IntKind.i64.wrap (v.2.2.2.2 - (1 : Int)))))))))) .fail)) .fail) (.opt (rec v.1 y238 (IntKind.i64.wrap (v.2.2.1 + (1 : Int)))) fun r244 => (.ask ((decide (r244 < (0 : Int)))) (.done (.inr (.inl ((-1 : Int))))) (.done (.inl (v.1, v.2.1, v.2.2.1, r244, (IntKind.i64.wrap (v.2.2.2.2 - (1 : Int)))))))))) .fail)) .fail)))) .fail)) .fail)) .fail)) .fail) (.done (.inr (.inr (v.2.2.2.1)))))
def D_impl_from_61 : ((Int) ⊕ (Int)) → Ex × St := fun | .inl r => (.ret, ⟨[(6, (.c (.p (.i .i64 r))))], [], []⟩) | .inr r => (fun r => ((.exit 0), ⟨[(7, (.c (.p (.i .i64 r))))], [], []⟩)) r
def DT_impl_from_61 : ((Int) ⊕ (Int)) → Tr (Ex × St) := fun r => .alt r (fun r => .done (.ret, ⟨[(6, (.c (.p (.i .i64 r))))], [], []⟩)) (fun r => .done ((.exit 0), ⟨[(7, (.c (.p (.i .i64 r))))], [], []⟩))
def VH_impl_from_61 : Cont3 → Option ((List (List PV)) × Int × Int × Int × Int)
  | ([[[.r w0]], [[.i w1]], [[.i w2]], [[.i w3]], [[.i w4]]], [], []) => some (w0, w1, w2, w3, w4)
  | _ => none
abbrev LE_impl_from_61 (rec : List (List PV) → Int → Int → Option (Int)) (n : Nat) : St → Tr (Ex × St) := lent (S_impl_from_61 ([], 0, 0, 0, 0)) VH_impl_from_61 (B_impl_from_61 rec n) DT_impl_from_61 n
abbrev LT_impl_from (rec : List (List PV) → Int → Int → Option (Int)) (n : Nat) : LTab := mkLT [(61, LE_impl_from_61 rec n)]
def T_impl_from (rec : List (List PV) → Int → Int → Option (Int)) (n : Nat) (x0 : List (List PV)) (x1 : Int) (x2 : Int) : Tr (Int) := (.ask ((decide (x1 < (0 : Int)))) (.done (-1 : Int)) (.ask ((decide (x2 ≥ (12 : Int)))) (.done (-1 : Int)) (.ask (decide (0 ≤ x1 ∧ x1 < x0.length)) (.opt (x0[(x1).toNat]?) fun e181 => (.ask (decide (e181.length = 14)) (.opt (cellI .i64 e181 0) fun y182 => (.opt (cellI .i64 e181 1) fun y183 => (.opt (cellI .i64 e181 2) fun y184 => (.opt (cellI .i64 e181 3) fun y185 => (.opt (cellS e181 4) fun y186 => (.opt (cellI .i64 e181 5) fun y187 => (.opt (cellI .i64 e181 6) fun y188 => (.opt (cellB e181 7) fun y189 => (.opt (cellB e181 8) fun y190 => (.opt (cellI .i64 e181 9) fun y191 => (.opt (cellI .i64 e181 10) fun y192 => (.opt (cellB e181 11) fun y193 => (.opt (cellB e181 12) fun y194 => (.opt (cellL e181 13) fun y195 => (.opt (F_impl_FNode_isOwn n y182 y183 y184 y185 y186 y187 y188 y189 y190 y191 y192 y193 y194 y195) fun r232 => (.ask ((!r232)) (.done (-1 : Int)) (.ask (decide (0 ≤ x1 ∧ x1 < x0.length)) (.opt (x0[(x1).toNat]?) fun e233 => (.ask (decide (e233.length = 14)) (.opt (cellL e233 13) fun y234 => (.opt (loopF (B_impl_from_61 rec n) n (x0, x1, x2, x1, (IntKind.i64.wrap ((y234.length : Int) - (1 : Int))))) fun r245 => (.alt r245 (fun r246 => (.done r246)) (fun r247 => (.done r247))))) .fail)) .fail))))))))))))))))) .fail)) .fail)))
def F_impl_from : Nat → List (List PV) → Int → Int → Option (Int)
  | 0, _, _, _ => none
  | n + 1, x0, x1, x2 => (T_impl_from (F_impl_from n) n x0 x1 x2).run
theorem ft_impl_from (rec : List (List PV) → Int → Int → Option (Int)) (n : Nat) (x0 : List (List PV)) (x1 : Int) (x2 : Int) : funT (CT_impl_from rec n) (LT_impl_from rec n) K_impl_from (A_impl_from x0 x1 x2) (U_impl_from x0 x1 x2) = (T_impl_from rec n x0 x1 x2).bind fun r => .done (O_impl_from r) := by kernel_rfl
theorem ct_impl_from (n : Nat) (ih : ∀ (x0 : List (List PV)) (x1 : Int) (x2 : Int) r, F_impl_from n x0 x1 x2 = some r → runs KP lib n 76 (A_impl_from x0 x1 x2) (U_impl_from x0 x1 x2) = some (O_impl_from r)) : CTok (CT_impl_from (F_impl_from n) n) (runs KP lib n) := mkCT_cons (eo_impl_FNode_isOwn n (noEnt_ok)) (mkCT_cons (cent_ok (fun hs r h => by
    unfold FHr_impl_from at h
    split at h
    · exact ⟨A_impl_from _ _ _, U_impl_from _ _ _, rfl, rfl, ih _ _ _ r h⟩
    · cases h) (noEnt_ok)) (mkCT_nil))
theorem lt_impl_from_61 (n : Nat) (v : (List (List PV)) × Int × Int × Int × Int) : (evalCT (CT_impl_from (F_impl_from n) n) (mkLT []) K_impl_from_L61 (S_impl_from_61 v) []).bind (ltail [0, 1, 2, 7, 8] [(.ret, [6]), ((.exit 0), [7])]) = (B_impl_from_61 (F_impl_from n) n v).bind (lenc S_impl_from_61 D_impl_from_61) := by
  obtain ⟨w0, w1, w2, w3, w4⟩ := v
  kernel_rfl
theorem le_impl_from_61 (n : Nat) (ih : ∀ (x0 : List (List PV)) (x1 : Int) (x2 : Int) r, F_impl_from n x0 x1 x2 = some r → runs KP lib n 76 (A_impl_from x0 x1 x2) (U_impl_from x0 x1 x2) = some (O_impl_from r)) : LEok (runs KP lib n) n (61, [0, 1, 2, 7, 8], [(.ret, [6]), ((.exit 0), [7])], K_impl_from_L61) (LE_impl_from_61 (F_impl_from n) n) := fun st e s h =>
  lent_ok (ct_impl_from n ih) (noLoops rfl) (lt_impl_from_61 n) (fun r => by
    rcases r with r | r <;> (intro h; cases h)) (fun r y h => by
    rcases r with r | r <;> (cases h; rfl)) (fun hs v h => by
    unfold VH_impl_from_61 at h
    split at h <;> cases h
    rfl) h
theorem lo_impl_from (n : Nat) (ih : ∀ (x0 : List (List PV)) (x1 : Int) (x2 : Int) r, F_impl_from n x0 x1 x2 = some r → runs KP lib n 76 (A_impl_from x0 x1 x2) (U_impl_from x0 x1 x2) = some (O_impl_from r)) : LTok (LT_impl_from (F_impl_from n) n) (runs KP lib n) n K_impl_from.body := mkLT_ok (by
  intro x hx
  have hx : x ∈ ([(61, [0, 1, 2, 7, 8], [(.ret, [6]), ((.exit 0), [7])], K_impl_from_L61)] : List (Nat × List Nat × List (Ex × List Nat) × KCode)) := hx
  simp only [List.mem_cons, List.not_mem_nil, or_false] at hx
  rcases hx with rfl
  · exact ⟨LE_impl_from_61 (F_impl_from n) n, fun st => rfl, le_impl_from_61 n ih⟩)
theorem th_impl_from : ∀ (n : Nat) (x0 : List (List PV)) (x1 : Int) (x2 : Int) (r : Int), F_impl_from n x0 x1 x2 = some r → runs KP lib n 76 (A_impl_from x0 x1 x2) (U_impl_from x0 x1 x2) = some (O_impl_from r)
  | 0, x0, x1, x2, r, h => by cases h
  | n + 1, x0, x1, x2, r, h => fun_step (kf := K_impl_from) rfl (ct_impl_from n (th_impl_from n)) (lo_impl_from n (th_impl_from n)) (ft_impl_from (F_impl_from n) n x0 x1 x2) h
def FH_impl_from (n : Nat) : Cont → Option (Int)
  | ([[[.r x0]], [[.i x1]], [[.i x2]]], []) => F_impl_from n x0 x1 x2
  | _ => none
def E_impl_from (n : Nat) (d : List AV → List Go.Eng.Frame → Tr Res) : List AV → List Go.Eng.Frame → Tr Res := cent (A_impl_from ([]) (0) (0)) (U_impl_from ([]) (0) (0)) (FH_impl_from n) O_impl_from d
theorem eo_impl_from (n : Nat) {d : List AV → List Go.Eng.Frame → Tr Res} (hd : ∀ ar up r, (d ar up).run = some r → runs KP lib n 76 ar up = some r) : ∀ ar up r, (E_impl_from n d ar up).run = some r → runs KP lib n 76 ar up = some r :=
  cent_ok (fun hs r h => by
    unfold FH_impl_from at h
    split at h
    · exact ⟨A_impl_from _ _ _, U_impl_from _ _ _, rfl, rfl, th_impl_from n _ _ _ r h⟩
    · cases h) hd
/-! ### impl.FormulaOk -/
def A_impl_FormulaOk (x0 : List (List PV)) : List AV := [(.c (.p (.ls x0)))]
def U_impl_FormulaOk (x0 : List (List PV)) : List Go.Eng.Frame := []
def O_impl_FormulaOk (r : Bool) : Res := ⟨(.c (.p (.b r))), [], []⟩
abbrev CT_impl_FormulaOk (n : Nat) : CTab := mkCT [(39, E_impl_within n (noEnt)), (76, E_impl_from n (noEnt))]
abbrev LT_impl_FormulaOk (n : Nat) : LTab := mkLT []
def T_impl_FormulaOk (n : Nat) (x0 : List (List PV)) : Tr (Bool) := (.opt (F_impl_within n (x0.length : Int) (1 : Int) (60 : Int)) fun r178 => (.ask (r178) (.ask (decide (0 ≤ (IntKind.i64.wrap ((x0.length : Int) - (1 : Int))) ∧ (IntKind.i64.wrap ((x0.length : Int) - (1 : Int))) < x0.length)) (.opt (x0[((IntKind.i64.wrap ((x0.length : Int) - (1 : Int)))).toNat]?) fun e179 => (.ask (decide (e179.length = 14)) (.opt (cellI .i64 e179 0) fun y180 => (.ask ((y180 != (3 : Int))) (.opt (F_impl_from n x0 (IntKind.i64.wrap ((x0.length : Int) - (1 : Int))) (0 : Int)) fun r248 => (.done (r248 == (0 : Int)))) (.done false))) .fail)) .fail) (.done false)))
def F_impl_FormulaOk : Nat → List (List PV) → Option (Bool)
  | 0, _ => none
  | n + 1, x0 => (T_impl_FormulaOk n x0).run
theorem ft_impl_FormulaOk (n : Nat) (x0 : List (List PV)) : funT (CT_impl_FormulaOk n) (LT_impl_FormulaOk n) K_impl_FormulaOk (A_impl_FormulaOk x0) (U_impl_FormulaOk x0) = (T_impl_FormulaOk n x0).bind fun r => .done (O_impl_FormulaOk r) := by kernel_rfl
theorem ct_impl_FormulaOk (n : Nat) : CTok (CT_impl_FormulaOk n) (runs KP lib n) := mkCT_cons (eo_impl_within n (noEnt_ok)) (mkCT_cons (eo_impl_from n (noEnt_ok)) (mkCT_nil))
theorem th_impl_FormulaOk : ∀ (n : Nat) (x0 : List (List PV)) (r : Bool), F_impl_FormulaOk n x0 = some r → runs KP lib n 49 (A_impl_FormulaOk x0) (U_impl_FormulaOk x0) = some (O_impl_FormulaOk r)
  | 0, x0, r, h => by cases h
  | n + 1, x0, r, h => fun_step (kf := K_impl_FormulaOk) rfl (ct_impl_FormulaOk n) (noLoops rfl) (ft_impl_FormulaOk n x0) h
def FH_impl_FormulaOk (n : Nat) : Cont → Option (Bool)
  | ([[[.r x0]]], []) => F_impl_FormulaOk n x0
  | _ => none
def E_impl_FormulaOk (n : Nat) (d : List AV → List Go.Eng.Frame → Tr Res) : List AV → List Go.Eng.Frame → Tr Res := cent (A_impl_FormulaOk ([])) (U_impl_FormulaOk ([])) (FH_impl_FormulaOk n) O_impl_FormulaOk d
theorem eo_impl_FormulaOk (n : Nat) {d : List AV → List Go.Eng.Frame → Tr Res} (hd : ∀ ar up r, (d ar up).run = some r → runs KP lib n 49 ar up = some r) : ∀ ar up r, (E_impl_FormulaOk n d ar up).run = some r → runs KP lib n 49 ar up = some r :=
  cent_ok (fun hs r h => by
    unfold FH_impl_FormulaOk at h
    split at h
    · exact ⟨A_impl_FormulaOk _, U_impl_FormulaOk _, rfl, rfl, th_impl_FormulaOk n _ r h⟩
    · cases h) hd
/-! ### strings.ReplaceAll -/
def A_strings_ReplaceAll (x0 : ByteArray) (x1 : ByteArray) (x2 : ByteArray) : List AV := [(.c (.p (.s x0))), (.c (.p (.s x1))), (.c (.p (.s x2)))]
def U_strings_ReplaceAll (x0 : ByteArray) (x1 : ByteArray) (x2 : ByteArray) : List Go.Eng.Frame := []
def O_strings_ReplaceAll (r : (ByteArray)) : Res := ⟨(.c (.p (.s r))), [], []⟩
def F_strings_ReplaceAll : Nat → ByteArray → ByteArray → ByteArray → Option ((ByteArray))
  | 0, _, _, _ => none
  | n + 1, x0, x1, x2 => L_strings_ReplaceAll x0 x1 x2
theorem th_strings_ReplaceAll : ∀ (n : Nat) (x0 : ByteArray) (x1 : ByteArray) (x2 : ByteArray) (r : (ByteArray)), F_strings_ReplaceAll n x0 x1 x2 = some r → runs KP lib n 77 (A_strings_ReplaceAll x0 x1 x2) (U_strings_ReplaceAll x0 x1 x2) = some (O_strings_ReplaceAll r)
  | 0, x0, x1, x2, r, h => by cases h
  | n + 1, x0, x1, x2, r, h => by
    have h : L_strings_ReplaceAll x0 x1 x2 = some r := h
    exact lib_step rfl (congrArg (Option.map fun r : (ByteArray) => ((.c (.p (.s r))) : AV)) h)
def FH_strings_ReplaceAll (n : Nat) : Cont → Option ((ByteArray))
  | ([[[.s x0]], [[.s x1]], [[.s x2]]], []) => F_strings_ReplaceAll n x0 x1 x2
  | _ => none
def E_strings_ReplaceAll (n : Nat) (d : List AV → List Go.Eng.Frame → Tr Res) : List AV → List Go.Eng.Frame → Tr Res := cent (A_strings_ReplaceAll (⟨#[]⟩) (⟨#[]⟩) (⟨#[]⟩)) (U_strings_ReplaceAll (⟨#[]⟩) (⟨#[]⟩) (⟨#[]⟩)) (FH_strings_ReplaceAll n) O_strings_ReplaceAll d
theorem eo_strings_ReplaceAll (n : Nat) {d : List AV → List Go.Eng.Frame → Tr Res} (hd : ∀ ar up r, (d ar up).run = some r → runs KP lib n 77 ar up = some r) : ∀ ar up r, (E_strings_ReplaceAll n d ar up).run = some r → runs KP lib n 77 ar up = some r :=
  cent_ok (fun hs r h => by
    unfold FH_strings_ReplaceAll at h
    split at h
    · exact ⟨A_strings_ReplaceAll _ _ _, U_strings_ReplaceAll _ _ _, rfl, rfl, th_strings_ReplaceAll n _ _ _ r h⟩
    · cases h) hd
/-! ### strconv.FormatInt -/
def A_strconv_FormatInt (x0 : Int) (x1 : Int) : List AV := [(.c (.p (.i .i64 x0))), (.c (.p (.i .i64 x1)))]
def U_strconv_FormatInt (x0 : Int) (x1 : Int) : List Go.Eng.Frame := []
def O_strconv_FormatInt (r : (ByteArray)) : Res := ⟨(.c (.p (.s r))), [], []⟩
def F_strconv_FormatInt : Nat → Int → Int → Option ((ByteArray))
  | 0, _, _ => none
  | n + 1, x0, x1 => L_strconv_FormatInt x0 x1
theorem th_strconv_FormatInt : ∀ (n : Nat) (x0 : Int) (x1 : Int) (r : (ByteArray)), F_strconv_FormatInt n x0 x1 = some r → runs KP lib n 52 (A_strconv_FormatInt x0 x1) (U_strconv_FormatInt x0 x1) = some (O_strconv_FormatInt r)
  | 0, x0, x1, r, h => by cases h
  | n + 1, x0, x1, r, h => by
    have h : L_strconv_FormatInt x0 x1 = some r := h
    exact lib_step rfl (congrArg (Option.map fun r : (ByteArray) => ((.c (.p (.s r))) : AV)) h)
def FH_strconv_FormatInt (n : Nat) : Cont → Option ((ByteArray))
  | ([[[.i x0]], [[.i x1]]], []) => F_strconv_FormatInt n x0 x1
  | _ => none
def E_strconv_FormatInt (n : Nat) (d : List AV → List Go.Eng.Frame → Tr Res) : List AV → List Go.Eng.Frame → Tr Res := cent (A_strconv_FormatInt (0) (0)) (U_strconv_FormatInt (0) (0)) (FH_strconv_FormatInt n) O_strconv_FormatInt d
theorem eo_strconv_FormatInt (n : Nat) {d : List AV → List Go.Eng.Frame → Tr Res} (hd : ∀ ar up r, (d ar up).run = some r → runs KP lib n 52 ar up = some r) : ∀ ar up r, (E_strconv_FormatInt n d ar up).run = some r → runs KP lib n 52 ar up = some r :=
  cent_ok (fun hs r h => by
    unfold FH_strconv_FormatInt at h
    split at h
    · exact ⟨A_strconv_FormatInt _ _, U_strconv_FormatInt _ _, rfl, rfl, th_strconv_FormatInt n _ _ r h⟩
    · cases h) hd
/-! ### impl.decimal -/
def A_impl_decimal (x0 : Int) : List AV := [(.c (.p (.i .i64 x0)))]
def U_impl_decimal (x0 : Int) : List Go.Eng.Frame := []
def O_impl_decimal (r : ByteArray) : Res := ⟨(.c (.p (.s r))), [], []⟩
abbrev CT_impl_decimal (n : Nat) : CTab := mkCT [(52, E_strconv_FormatInt n (noEnt))]
abbrev LT_impl_decimal (n : Nat) : LTab := mkLT []
def T_impl_decimal (n : Nat) (x0 : Int) : Tr (ByteArray) := (.opt (F_strconv_FormatInt n x0 (10 : Int)) fun r266 => (.done r266))
def F_impl_decimal : Nat → Int → Option (ByteArray)
  | 0, _ => none
  | n + 1, x0 => (T_impl_decimal n x0).run
theorem ft_impl_decimal (n : Nat) (x0 : Int) : funT (CT_impl_decimal n) (LT_impl_decimal n) K_impl_decimal (A_impl_decimal x0) (U_impl_decimal x0) = (T_impl_decimal n x0).bind fun r => .done (O_impl_decimal r) := by kernel_rfl
theorem ct_impl_decimal (n : Nat) : CTok (CT_impl_decimal n) (runs KP lib n) := mkCT_cons (eo_strconv_FormatInt n (noEnt_ok)) (mkCT_nil)
theorem th_impl_decimal : ∀ (n : Nat) (x0 : Int) (r : ByteArray), F_impl_decimal n x0 = some r → runs KP lib n 31 (A_impl_decimal x0) (U_impl_decimal x0) = some (O_impl_decimal r)
  | 0, x0, r, h => by cases h
  | n + 1, x0, r, h => fun_step (kf := K_impl_decimal) rfl (ct_impl_decimal n) (noLoops rfl) (ft_impl_decimal n x0) h
def FH_impl_decimal (n : Nat) : Cont → Option (ByteArray)
  | ([[[.i x0]]], []) => F_impl_decimal n x0
  | _ => none
def E_impl_decimal (n : Nat) (d : List AV → List Go.Eng.Frame → Tr Res) : List AV → List Go.Eng.Frame → Tr Res := cent (A_impl_decimal (0)) (U_impl_decimal (0)) (FH_impl_decimal n) O_impl_decimal d
theorem eo_impl_decimal (n : Nat) {d : List AV → List Go.Eng.Frame → Tr Res} (hd : ∀ ar up r, (d ar up).run = some r → runs KP lib n 31 ar up = some r) : ∀ ar up r, (E_impl_decimal n d ar up).run = some r → runs KP lib n 31 ar up = some r :=
  cent_ok (fun hs r h => by
    unfold FH_impl_decimal at h
    split at h
    · exact ⟨A_impl_decimal _, U_impl_decimal _, rfl, rfl, th_impl_decimal n _ r h⟩
    · cases h) hd
/-! ### impl.errorText -/
def A_impl_errorText (x0 : Int) : List AV := [(.c (.p (.i .i64 x0)))]
def U_impl_errorText (x0 : Int) : List Go.Eng.Frame := []
def O_impl_errorText (r : ByteArray) : Res := ⟨(.c (.p (.s r))), [], []⟩
abbrev CT_impl_errorText (n : Nat) : CTab := mkCT []
abbrev LT_impl_errorText (n : Nat) : LTab := mkLT []
def T_impl_errorText (n : Nat) (x0 : Int) : Tr (ByteArray) := (.ask (decide (6 = ([[(.s (⟨#[]⟩ : ByteArray))], [(.s (⟨#[35, 68, 73, 86, 33]⟩ : ByteArray))], [(.s (⟨#[35, 84, 89, 80, 69, 33]⟩ : ByteArray))], [(.s (⟨#[35, 82, 69, 70, 33]⟩ : ByteArray))], [(.s (⟨#[35, 79, 86, 69, 82, 33]⟩ : ByteArray))], [(.s (⟨#[35, 67, 89, 67, 76, 69, 33]⟩ : ByteArray))]] : List (List PV)).length ∧ 0 ≤ x0 ∧ x0 < ((6 : Nat) : Int))) (.opt (([[(.s (⟨#[]⟩ : ByteArray))], [(.s (⟨#[35, 68, 73, 86, 33]⟩ : ByteArray))], [(.s (⟨#[35, 84, 89, 80, 69, 33]⟩ : ByteArray))], [(.s (⟨#[35, 82, 69, 70, 33]⟩ : ByteArray))], [(.s (⟨#[35, 79, 86, 69, 82, 33]⟩ : ByteArray))], [(.s (⟨#[35, 67, 89, 67, 76, 69, 33]⟩ : ByteArray))]] : List (List PV))[(x0).toNat]?) fun e270 => (.opt (cellS e270 0) fun y271 => (.done y271))) .fail)
def F_impl_errorText : Nat → Int → Option (ByteArray)
  | 0, _ => none
  | n + 1, x0 => (T_impl_errorText n x0).run
theorem ft_impl_errorText (n : Nat) (x0 : Int) : funT (CT_impl_errorText n) (LT_impl_errorText n) K_impl_errorText (A_impl_errorText x0) (U_impl_errorText x0) = (T_impl_errorText n x0).bind fun r => .done (O_impl_errorText r) := by kernel_rfl
theorem ct_impl_errorText (n : Nat) : CTok (CT_impl_errorText n) (runs KP lib n) := mkCT_nil
theorem th_impl_errorText : ∀ (n : Nat) (x0 : Int) (r : ByteArray), F_impl_errorText n x0 = some r → runs KP lib n 103 (A_impl_errorText x0) (U_impl_errorText x0) = some (O_impl_errorText r)
  | 0, x0, r, h => by cases h
  | n + 1, x0, r, h => fun_step (kf := K_impl_errorText) rfl (ct_impl_errorText n) (noLoops rfl) (ft_impl_errorText n x0) h
def FH_impl_errorText (n : Nat) : Cont → Option (ByteArray)
  | ([[[.i x0]]], []) => F_impl_errorText n x0
  | _ => none
def E_impl_errorText (n : Nat) (d : List AV → List Go.Eng.Frame → Tr Res) : List AV → List Go.Eng.Frame → Tr Res := cent (A_impl_errorText (0)) (U_impl_errorText (0)) (FH_impl_errorText n) O_impl_errorText d
theorem eo_impl_errorText (n : Nat) {d : List AV → List Go.Eng.Frame → Tr Res} (hd : ∀ ar up r, (d ar up).run = some r → runs KP lib n 103 ar up = some r) : ∀ ar up r, (E_impl_errorText n d ar up).run = some r → runs KP lib n 103 ar up = some r :=
  cent_ok (fun hs r h => by
    unfold FH_impl_errorText at h
    split at h
    · exact ⟨A_impl_errorText _, U_impl_errorText _, rfl, rfl, th_impl_errorText n _ r h⟩
    · cases h) hd
/-! ### impl.valueText -/
def A_impl_valueText (x0 : Int) (x1 : Int) (x2 : ByteArray) : List AV := [(.agg [(.p (.i .i64 x0)), (.p (.i .i64 x1)), (.p (.s x2))])]
def U_impl_valueText (x0 : Int) (x1 : Int) (x2 : ByteArray) : List Go.Eng.Frame := []
def O_impl_valueText (r : ByteArray) : Res := ⟨(.c (.p (.s r))), [], []⟩
abbrev CT_impl_valueText (n : Nat) : CTab := mkCT [(31, E_impl_decimal n (noEnt)), (103, E_impl_errorText n (noEnt))]
abbrev LT_impl_valueText (n : Nat) : LTab := mkLT []
def T_impl_valueText (n : Nat) (x0 : Int) (x1 : Int) (x2 : ByteArray) : Tr (ByteArray) := (.ask ((x0 == (1 : Int))) (.opt (F_impl_decimal n x1) fun r267 => (.done r267)) (.ask ((x0 == (2 : Int))) (.ask (decide ((⟨#[39]⟩ : ByteArray).size + x2.size ≤ 9223372036854775807)) (.done ((⟨#[39]⟩ : ByteArray) ++ x2)) .fail) (.ask ((x0 == (3 : Int))) (.ask (decide (2 = ([[(.s (⟨#[70, 65, 76, 83, 69]⟩ : ByteArray))], [(.s (⟨#[84, 82, 85, 69]⟩ : ByteArray))]] : List (List PV)).length ∧ 0 ≤ x1 ∧ x1 < ((2 : Nat) : Int))) (.opt (([[(.s (⟨#[70, 65, 76, 83, 69]⟩ : ByteArray))], [(.s (⟨#[84, 82, 85, 69]⟩ : ByteArray))]] : List (List PV))[(x1).toNat]?) fun e268 => (.opt (cellS e268 0) fun y269 => (.done y269))) .fail) (.ask ((x0 == (4 : Int))) (.opt (F_impl_errorText n x1) fun r272 => (.done r272)) (.done (⟨#[]⟩ : ByteArray))))))
def F_impl_valueText : Nat → Int → Int → ByteArray → Option (ByteArray)
  | 0, _, _, _ => none
  | n + 1, x0, x1, x2 => (T_impl_valueText n x0 x1 x2).run
theorem ft_impl_valueText (n : Nat) (x0 : Int) (x1 : Int) (x2 : ByteArray) : funT (CT_impl_valueText n) (LT_impl_valueText n) K_impl_valueText (A_impl_valueText x0 x1 x2) (U_impl_valueText x0 x1 x2) = (T_impl_valueText n x0 x1 x2).bind fun r => .done (O_impl_valueText r) := by kernel_rfl
theorem ct_impl_valueText (n : Nat) : CTok (CT_impl_valueText n) (runs KP lib n) := mkCT_cons (eo_impl_decimal n (noEnt_ok)) (mkCT_cons (eo_impl_errorText n (noEnt_ok)) (mkCT_nil))
theorem th_impl_valueText : ∀ (n : Nat) (x0 : Int) (x1 : Int) (x2 : ByteArray) (r : ByteArray), F_impl_valueText n x0 x1 x2 = some r → runs KP lib n 78 (A_impl_valueText x0 x1 x2) (U_impl_valueText x0 x1 x2) = some (O_impl_valueText r)
  | 0, x0, x1, x2, r, h => by cases h
  | n + 1, x0, x1, x2, r, h => fun_step (kf := K_impl_valueText) rfl (ct_impl_valueText n) (noLoops rfl) (ft_impl_valueText n x0 x1 x2) h
def FH_impl_valueText (n : Nat) : Cont → Option (ByteArray)
  | ([[[.i x0], [.i x1], [.s x2]]], []) => F_impl_valueText n x0 x1 x2
  | _ => none
def E_impl_valueText (n : Nat) (d : List AV → List Go.Eng.Frame → Tr Res) : List AV → List Go.Eng.Frame → Tr Res := cent (A_impl_valueText (0) (0) (⟨#[]⟩)) (U_impl_valueText (0) (0) (⟨#[]⟩)) (FH_impl_valueText n) O_impl_valueText d
theorem eo_impl_valueText (n : Nat) {d : List AV → List Go.Eng.Frame → Tr Res} (hd : ∀ ar up r, (d ar up).run = some r → runs KP lib n 78 ar up = some r) : ∀ ar up r, (E_impl_valueText n d ar up).run = some r → runs KP lib n 78 ar up = some r :=
  cent_ok (fun hs r h => by
    unfold FH_impl_valueText at h
    split at h
    · exact ⟨A_impl_valueText _ _ _, U_impl_valueText _ _ _, rfl, rfl, th_impl_valueText n _ _ _ r h⟩
    · cases h) hd
/-! ### impl.ColText -/
def A_impl_ColText (x0 : Int) : List AV := [(.c (.p (.i .i64 x0)))]
def U_impl_ColText (x0 : Int) : List Go.Eng.Frame := []
def O_impl_ColText (r : ByteArray) : Res := ⟨(.c (.p (.s r))), [], []⟩
abbrev CT_impl_ColText (n : Nat) : CTab := mkCT [(39, E_impl_within n (noEnt))]
abbrev LT_impl_ColText (n : Nat) : LTab := mkLT []
def T_impl_ColText (n : Nat) (x0 : Int) : Tr (ByteArray) := (.opt (F_impl_within n x0 (1 : Int) (52 : Int)) fun r275 => (.ask ((!r275)) (.done (⟨#[]⟩ : ByteArray)) (.ask ((decide (x0 ≤ (26 : Int)))) (.ask (decide (1 = ([[(.i .u8 (IntKind.u8.wrap (IntKind.i64.wrap ((IntKind.i64.wrap ((65 : Int) + x0)) - (1 : Int)))))]] : List (List PV)).length)) (.opt (bytesOf ([[(.i .u8 (IntKind.u8.wrap (IntKind.i64.wrap ((IntKind.i64.wrap ((65 : Int) + x0)) - (1 : Int)))))]] : List (List PV))) fun l276 => (.done (⟨l276.toArray⟩ : ByteArray))) .fail) (.ask (decide (2 = ([[(.i .u8 (IntKind.u8.wrap (IntKind.i64.wrap ((IntKind.i64.wrap ((65 : Int) + (IntKind.i64.wrap (Int.tdiv (IntKind.i64.wrap (x0 - (1 : Int))) (26 : Int))))) - (1 : Int)))))], [(.i .u8 (IntKind.u8.wrap (IntKind.i64.wrap ((65 : Int) + (Int.tmod (IntKind.i64.wrap (x0 - (1 : Int))) (26 : Int))))))]] : List (List PV)).length)) (.opt (bytesOf ([[(.i .u8 (IntKind.u8.wrap (IntKind.i64.wrap ((IntKind.i64.wrap ((65 : Int) + (IntKind.i64.wrap (Int.tdiv (IntKind.i64.wrap (x0 - (1 : Int))) (26 : Int))))) - (1 : Int)))))], [(.i .u8 (IntKind.u8.wrap (IntKind.i64.wrap ((65 : Int) + (Int.tmod (IntKind.i64.wrap (x0 - (1 : Int))) (26 : Int))))))]] : List (List PV))) fun l277 => (.done (⟨l277.toArray⟩ : ByteArray))) .fail))))
def F_impl_ColText : Nat → Int → Option (ByteArray)
  | 0, _ => none
  | n + 1, x0 => (T_impl_ColText n x0).run
theorem ft_impl_ColText (n : Nat) (x0 : Int) : funT (CT_impl_ColText n) (LT_impl_ColText n) K_impl_ColText (A_impl_ColText x0) (U_impl_ColText x0) = (T_impl_ColText n x0).bind fun r => .done (O_impl_ColText r) := by kernel_rfl
theorem ct_impl_ColText (n : Nat) : CTok (CT_impl_ColText n) (runs KP lib n) := mkCT_cons (eo_impl_within n (noEnt_ok)) (mkCT_nil)
theorem th_impl_ColText : ∀ (n : Nat) (x0 : Int) (r : ByteArray), F_impl_ColText n x0 = some r → runs KP lib n 15 (A_impl_ColText x0) (U_impl_ColText x0) = some (O_impl_ColText r)
  | 0, x0, r, h => by cases h
  | n + 1, x0, r, h => fun_step (kf := K_impl_ColText) rfl (ct_impl_ColText n) (noLoops rfl) (ft_impl_ColText n x0) h
def FH_impl_ColText (n : Nat) : Cont → Option (ByteArray)
  | ([[[.i x0]]], []) => F_impl_ColText n x0
  | _ => none
def E_impl_ColText (n : Nat) (d : List AV → List Go.Eng.Frame → Tr Res) : List AV → List Go.Eng.Frame → Tr Res := cent (A_impl_ColText (0)) (U_impl_ColText (0)) (FH_impl_ColText n) O_impl_ColText d
theorem eo_impl_ColText (n : Nat) {d : List AV → List Go.Eng.Frame → Tr Res} (hd : ∀ ar up r, (d ar up).run = some r → runs KP lib n 15 ar up = some r) : ∀ ar up r, (E_impl_ColText n d ar up).run = some r → runs KP lib n 15 ar up = some r :=
  cent_ok (fun hs r h => by
    unfold FH_impl_ColText at h
    split at h
    · exact ⟨A_impl_ColText _, U_impl_ColText _, rfl, rfl, th_impl_ColText n _ r h⟩
    · cases h) hd
/-! ### impl.PlaceText -/
def A_impl_PlaceText (x0 : Int) (x1 : Int) (x2 : Bool) (x3 : Bool) : List AV := [(.agg [(.p (.i .i64 x0)), (.p (.i .i64 x1)), (.p (.b x2)), (.p (.b x3))])]
def U_impl_PlaceText (x0 : Int) (x1 : Int) (x2 : Bool) (x3 : Bool) : List Go.Eng.Frame := []
def O_impl_PlaceText (r : ByteArray) : Res := ⟨(.c (.p (.s r))), [], []⟩
abbrev CT_impl_PlaceText (n : Nat) : CTab := mkCT [(21, E_impl_RefOk n (noEnt)), (15, E_impl_ColText n (noEnt)), (31, E_impl_decimal n (noEnt))]
abbrev LT_impl_PlaceText (n : Nat) : LTab := mkLT []
def T_impl_PlaceText (n : Nat) (x0 : Int) (x1 : Int) (x2 : Bool) (x3 : Bool) : Tr (ByteArray) := (.opt (F_impl_RefOk n x0 x1) fun r274 => (.ask ((!r274)) (.done (⟨#[]⟩ : ByteArray)) (.ask (x2) (.opt (F_impl_ColText n x0) fun r278 => (.ask (decide ((⟨#[36]⟩ : ByteArray).size + r278.size ≤ 9223372036854775807)) (.ask (x3) (.ask (decide (((⟨#[36]⟩ : ByteArray) ++ r278).size + (⟨#[36]⟩ : ByteArray).size ≤ 9223372036854775807)) (.opt (F_impl_decimal n x1) fun r279 => (.ask (decide ((((⟨#[36]⟩ : ByteArray) ++ r278) ++ (⟨#[36]⟩ : ByteArray)).size + r279.size ≤ 9223372036854775807)) (.done ((((⟨#[36]⟩ : ByteArray) ++ r278) ++ (⟨#[36]⟩ : ByteArray)) ++ r279)) .fail)) .fail) (.opt (F_impl_decimal n x1) fun r280 => (.ask (decide (((⟨#[36]⟩ : ByteArray) ++ r278).size + r280.size ≤ 9223372036854775807)) (.done (((⟨#[36]⟩ : ByteArray) ++ r278) ++ r280)) .fail))) .fail)) (.opt (F_impl_ColText n x0) fun r281 => (.ask (decide ((⟨#[]⟩ : ByteArray).size + r281.size ≤ 9223372036854775807)) (.ask (x3) (.ask (decide (((⟨#[]⟩ : ByteArray) ++ r281).size + (⟨#[36]⟩ : ByteArray).size ≤ 9223372036854775807)) (.opt (F_impl_decimal n x1) fun r282 => (.ask (decide ((((⟨#[]⟩ : ByteArray) ++ r281) ++ (⟨#[36]⟩ : ByteArray)).size + r282.size ≤ 9223372036854775807)) (.done ((((⟨#[]⟩ : ByteArray) ++ r281) ++ (⟨#[36]⟩ : ByteArray)) ++ r282)) .fail)) .fail) (.opt (F_impl_decimal n x1) fun r283 => (.ask (decide (((⟨#[]⟩ : ByteArray) ++ r281).size + r283.size ≤ 9223372036854775807)) (.done (((⟨#[]⟩ : ByteArray) ++ r281) ++ r283)) .fail))) .fail)))))
def F_impl_PlaceText : Nat → Int → Int → Bool → Bool → Option (ByteArray)
  | 0, _, _, _, _ => none
  | n + 1, x0, x1, x2, x3 => (T_impl_PlaceText n x0 x1 x2 x3).run
theorem ft_impl_PlaceText (n : Nat) (x0 : Int) (x1 : Int) (x2 : Bool) (x3 : Bool) : funT (CT_impl_PlaceText n) (LT_impl_PlaceText n) K_impl_PlaceText (A_impl_PlaceText x0 x1 x2 x3) (U_impl_PlaceText x0 x1 x2 x3) = (T_impl_PlaceText n x0 x1 x2 x3).bind fun r => .done (O_impl_PlaceText r) := by kernel_rfl
theorem ct_impl_PlaceText (n : Nat) : CTok (CT_impl_PlaceText n) (runs KP lib n) := mkCT_cons (eo_impl_RefOk n (noEnt_ok)) (mkCT_cons (eo_impl_ColText n (noEnt_ok)) (mkCT_cons (eo_impl_decimal n (noEnt_ok)) (mkCT_nil)))
theorem th_impl_PlaceText : ∀ (n : Nat) (x0 : Int) (x1 : Int) (x2 : Bool) (x3 : Bool) (r : ByteArray), F_impl_PlaceText n x0 x1 x2 x3 = some r → runs KP lib n 9 (A_impl_PlaceText x0 x1 x2 x3) (U_impl_PlaceText x0 x1 x2 x3) = some (O_impl_PlaceText r)
  | 0, x0, x1, x2, x3, r, h => by cases h
  | n + 1, x0, x1, x2, x3, r, h => fun_step (kf := K_impl_PlaceText) rfl (ct_impl_PlaceText n) (noLoops rfl) (ft_impl_PlaceText n x0 x1 x2 x3) h
def FH_impl_PlaceText (n : Nat) : Cont → Option (ByteArray)
  | ([[[.i x0], [.i x1], [.b x2], [.b x3]]], []) => F_impl_PlaceText n x0 x1 x2 x3
  | _ => none
def E_impl_PlaceText (n : Nat) (d : List AV → List Go.Eng.Frame → Tr Res) : List AV → List Go.Eng.Frame → Tr Res := cent (A_impl_PlaceText (0) (0) (false) (false)) (U_impl_PlaceText (0) (0) (false) (false)) (FH_impl_PlaceText n) O_impl_PlaceText d
theorem eo_impl_PlaceText (n : Nat) {d : List AV → List Go.Eng.Frame → Tr Res} (hd : ∀ ar up r, (d ar up).run = some r → runs KP lib n 9 ar up = some r) : ∀ ar up r, (E_impl_PlaceText n d ar up).run = some r → runs KP lib n 9 ar up = some r :=
  cent_ok (fun hs r h => by
    unfold FH_impl_PlaceText at h
    split at h
    · exact ⟨A_impl_PlaceText _ _ _ _, U_impl_PlaceText _ _ _ _, rfl, rfl, th_impl_PlaceText n _ _ _ _ r h⟩
    · cases h) hd
/-! ### impl.binds -/
def A_impl_binds (x0 : Int) : List AV := [(.c (.p (.i .i64 x0)))]
def U_impl_binds (x0 : Int) : List Go.Eng.Frame := []
def O_impl_binds (r : Int) : Res := ⟨(.c (.p (.i .i64 r))), [], []⟩
abbrev CT_impl_binds (n : Nat) : CTab := mkCT []
abbrev LT_impl_binds (n : Nat) : LTab := mkLT []
def T_impl_binds (n : Nat) (x0 : Int) : Tr (Int) := (.ask ((x0 == (3 : Int))) (.done (4 : Int)) (.ask ((x0 == (4 : Int))) (.done (4 : Int)) (.ask ((x0 == (1 : Int))) (.done (3 : Int)) (.ask ((x0 == (2 : Int))) (.done (3 : Int)) (.ask ((x0 == (5 : Int))) (.done (2 : Int)) (.done (1 : Int)))))))
def F_impl_binds : Nat → Int → Option (Int)
  | 0, _ => none
  | n + 1, x0 => (T_impl_binds n x0).run
theorem ft_impl_binds (n : Nat) (x0 : Int) : funT (CT_impl_binds n) (LT_impl_binds n) K_impl_binds (A_impl_binds x0) (U_impl_binds x0) = (T_impl_binds n x0).bind fun r => .done (O_impl_binds r) := by kernel_rfl
theorem ct_impl_binds (n : Nat) : CTok (CT_impl_binds n) (runs KP lib n) := mkCT_nil
theorem th_impl_binds : ∀ (n : Nat) (x0 : Int) (r : Int), F_impl_binds n x0 = some r → runs KP lib n 79 (A_impl_binds x0) (U_impl_binds x0) = some (O_impl_binds r)
  | 0, x0, r, h => by cases h
  | n + 1, x0, r, h => fun_step (kf := K_impl_binds) rfl (ct_impl_binds n) (noLoops rfl) (ft_impl_binds n x0) h
def FH_impl_binds (n : Nat) : Cont → Option (Int)
  | ([[[.i x0]]], []) => F_impl_binds n x0
  | _ => none
def E_impl_binds (n : Nat) (d : List AV → List Go.Eng.Frame → Tr Res) : List AV → List Go.Eng.Frame → Tr Res := cent (A_impl_binds (0)) (U_impl_binds (0)) (FH_impl_binds n) O_impl_binds d
theorem eo_impl_binds (n : Nat) {d : List AV → List Go.Eng.Frame → Tr Res} (hd : ∀ ar up r, (d ar up).run = some r → runs KP lib n 79 ar up = some r) : ∀ ar up r, (E_impl_binds n d ar up).run = some r → runs KP lib n 79 ar up = some r :=
  cent_ok (fun hs r h => by
    unfold FH_impl_binds at h
    split at h
    · exact ⟨A_impl_binds _, U_impl_binds _, rfl, rfl, th_impl_binds n _ r h⟩
    · cases h) hd
/-! ### impl.opText -/
def A_impl_opText (x0 : Int) : List AV := [(.c (.p (.i .i64 x0)))]
def U_impl_opText (x0 : Int) : List Go.Eng.Frame := []
def O_impl_opText (r : ByteArray) : Res := ⟨(.c (.p (.s r))), [], []⟩
abbrev CT_impl_opText (n : Nat) : CTab := mkCT []
abbrev LT_impl_opText (n : Nat) : LTab := mkLT []
def T_impl_opText (n : Nat) (x0 : Int) : Tr (ByteArray) := (.ask (decide (12 = ([[(.s (⟨#[]⟩ : ByteArray))], [(.s (⟨#[43]⟩ : ByteArray))], [(.s (⟨#[45]⟩ : ByteArray))], [(.s (⟨#[42]⟩ : ByteArray))], [(.s (⟨#[47]⟩ : ByteArray))], [(.s (⟨#[38]⟩ : ByteArray))], [(.s (⟨#[61]⟩ : ByteArray))], [(.s (⟨#[60, 62]⟩ : ByteArray))], [(.s (⟨#[60]⟩ : ByteArray))], [(.s (⟨#[60, 61]⟩ : ByteArray))], [(.s (⟨#[62]⟩ : ByteArray))], [(.s (⟨#[62, 61]⟩ : ByteArray))]] : List (List PV)).length ∧ 0 ≤ x0 ∧ x0 < ((12 : Nat) : Int))) (.opt (([[(.s (⟨#[]⟩ : ByteArray))], [(.s (⟨#[43]⟩ : ByteArray))], [(.s (⟨#[45]⟩ : ByteArray))], [(.s (⟨#[42]⟩ : ByteArray))], [(.s (⟨#[47]⟩ : ByteArray))], [(.s (⟨#[38]⟩ : ByteArray))], [(.s (⟨#[61]⟩ : ByteArray))], [(.s (⟨#[60, 62]⟩ : ByteArray))], [(.s (⟨#[60]⟩ : ByteArray))], [(.s (⟨#[60, 61]⟩ : ByteArray))], [(.s (⟨#[62]⟩ : ByteArray))], [(.s (⟨#[62, 61]⟩ : ByteArray))]] : List (List PV))[(x0).toNat]?) fun e296 => (.opt (cellS e296 0) fun y297 => (.done y297))) .fail)
def F_impl_opText : Nat → Int → Option (ByteArray)
  | 0, _ => none
  | n + 1, x0 => (T_impl_opText n x0).run
theorem ft_impl_opText (n : Nat) (x0 : Int) : funT (CT_impl_opText n) (LT_impl_opText n) K_impl_opText (A_impl_opText x0) (U_impl_opText x0) = (T_impl_opText n x0).bind fun r => .done (O_impl_opText r) := by kernel_rfl
theorem ct_impl_opText (n : Nat) : CTok (CT_impl_opText n) (runs KP lib n) := mkCT_nil
theorem th_impl_opText : ∀ (n : Nat) (x0 : Int) (r : ByteArray), F_impl_opText n x0 = some r → runs KP lib n 80 (A_impl_opText x0) (U_impl_opText x0) = some (O_impl_opText r)
  | 0, x0, r, h => by cases h
  | n + 1, x0, r, h => fun_step (kf := K_impl_opText) rfl (ct_impl_opText n) (noLoops rfl) (ft_impl_opText n x0) h
def FH_impl_opText (n : Nat) : Cont → Option (ByteArray)
  | ([[[.i x0]]], []) => F_impl_opText n x0
  | _ => none
def E_impl_opText (n : Nat) (d : List AV → List Go.Eng.Frame → Tr Res) : List AV → List Go.Eng.Frame → Tr Res := cent (A_impl_opText (0)) (U_impl_opText (0)) (FH_impl_opText n) O_impl_opText d
theorem eo_impl_opText (n : Nat) {d : List AV → List Go.Eng.Frame → Tr Res} (hd : ∀ ar up r, (d ar up).run = some r → runs KP lib n 80 ar up = some r) : ∀ ar up r, (E_impl_opText n d ar up).run = some r → runs KP lib n 80 ar up = some r :=
  cent_ok (fun hs r h => by
    unfold FH_impl_opText at h
    split at h
    · exact ⟨A_impl_opText _, U_impl_opText _, rfl, rfl, th_impl_opText n _ r h⟩
    · cases h) hd
/-! ### impl.fnText -/
def A_impl_fnText (x0 : Int) : List AV := [(.c (.p (.i .i64 x0)))]
def U_impl_fnText (x0 : Int) : List Go.Eng.Frame := []
def O_impl_fnText (r : ByteArray) : Res := ⟨(.c (.p (.s r))), [], []⟩
abbrev CT_impl_fnText (n : Nat) : CTab := mkCT []
abbrev LT_impl_fnText (n : Nat) : LTab := mkLT []
def T_impl_fnText (n : Nat) (x0 : Int) : Tr (ByteArray) := (.ask (decide (11 = ([[(.s (⟨#[]⟩ : ByteArray))], [(.s (⟨#[83, 85, 77]⟩ : ByteArray))], [(.s (⟨#[77, 73, 78]⟩ : ByteArray))], [(.s (⟨#[77, 65, 88]⟩ : ByteArray))], [(.s (⟨#[67, 79, 85, 78, 84]⟩ : ByteArray))], [(.s (⟨#[73, 70]⟩ : ByteArray))], [(.s (⟨#[65, 78, 68]⟩ : ByteArray))], [(.s (⟨#[79, 82]⟩ : ByteArray))], [(.s (⟨#[78, 79, 84]⟩ : ByteArray))], [(.s (⟨#[65, 66, 83]⟩ : ByteArray))], [(.s (⟨#[76, 69, 78]⟩ : ByteArray))]] : List (List PV)).length ∧ 0 ≤ x0 ∧ x0 < ((11 : Nat) : Int))) (.opt (([[(.s (⟨#[]⟩ : ByteArray))], [(.s (⟨#[83, 85, 77]⟩ : ByteArray))], [(.s (⟨#[77, 73, 78]⟩ : ByteArray))], [(.s (⟨#[77, 65, 88]⟩ : ByteArray))], [(.s (⟨#[67, 79, 85, 78, 84]⟩ : ByteArray))], [(.s (⟨#[73, 70]⟩ : ByteArray))], [(.s (⟨#[65, 78, 68]⟩ : ByteArray))], [(.s (⟨#[79, 82]⟩ : ByteArray))], [(.s (⟨#[78, 79, 84]⟩ : ByteArray))], [(.s (⟨#[65, 66, 83]⟩ : ByteArray))], [(.s (⟨#[76, 69, 78]⟩ : ByteArray))]] : List (List PV))[(x0).toNat]?) fun e304 => (.opt (cellS e304 0) fun y305 => (.done y305))) .fail)
def F_impl_fnText : Nat → Int → Option (ByteArray)
  | 0, _ => none
  | n + 1, x0 => (T_impl_fnText n x0).run
theorem ft_impl_fnText (n : Nat) (x0 : Int) : funT (CT_impl_fnText n) (LT_impl_fnText n) K_impl_fnText (A_impl_fnText x0) (U_impl_fnText x0) = (T_impl_fnText n x0).bind fun r => .done (O_impl_fnText r) := by kernel_rfl
theorem ct_impl_fnText (n : Nat) : CTok (CT_impl_fnText n) (runs KP lib n) := mkCT_nil
theorem th_impl_fnText : ∀ (n : Nat) (x0 : Int) (r : ByteArray), F_impl_fnText n x0 = some r → runs KP lib n 81 (A_impl_fnText x0) (U_impl_fnText x0) = some (O_impl_fnText r)
  | 0, x0, r, h => by cases h
  | n + 1, x0, r, h => fun_step (kf := K_impl_fnText) rfl (ct_impl_fnText n) (noLoops rfl) (ft_impl_fnText n x0) h
def FH_impl_fnText (n : Nat) : Cont → Option (ByteArray)
  | ([[[.i x0]]], []) => F_impl_fnText n x0
  | _ => none
def E_impl_fnText (n : Nat) (d : List AV → List Go.Eng.Frame → Tr Res) : List AV → List Go.Eng.Frame → Tr Res := cent (A_impl_fnText (0)) (U_impl_fnText (0)) (FH_impl_fnText n) O_impl_fnText d
theorem eo_impl_fnText (n : Nat) {d : List AV → List Go.Eng.Frame → Tr Res} (hd : ∀ ar up r, (d ar up).run = some r → runs KP lib n 81 ar up = some r) : ∀ ar up r, (E_impl_fnText n d ar up).run = some r → runs KP lib n 81 ar up = some r :=
  cent_ok (fun hs r h => by
    unfold FH_impl_fnText at h
    split at h
    · exact ⟨A_impl_fnText _, U_impl_fnText _, rfl, rfl, th_impl_fnText n _ r h⟩
    · cases h) hd
/-! ### strings.Join -/
def A_strings_Join (x0 : List (List PV)) (x1 : ByteArray) : List AV := [(.c (.p (.ls x0))), (.c (.p (.s x1)))]
def U_strings_Join (x0 : List (List PV)) (x1 : ByteArray) : List Go.Eng.Frame := []
def O_strings_Join (r : (ByteArray)) : Res := ⟨(.c (.p (.s r))), [], []⟩
def F_strings_Join : Nat → List (List PV) → ByteArray → Option ((ByteArray))
  | 0, _, _ => none
  | n + 1, x0, x1 => L_strings_Join x0 x1
theorem th_strings_Join : ∀ (n : Nat) (x0 : List (List PV)) (x1 : ByteArray) (r : (ByteArray)), F_strings_Join n x0 x1 = some r → runs KP lib n 82 (A_strings_Join x0 x1) (U_strings_Join x0 x1) = some (O_strings_Join r)
  | 0, x0, x1, r, h => by cases h
  | n + 1, x0, x1, r, h => by
    have h : L_strings_Join x0 x1 = some r := h
    exact lib_step rfl (congrArg (Option.map fun r : (ByteArray) => ((.c (.p (.s r))) : AV)) h)
def FH_strings_Join (n : Nat) : Cont → Option ((ByteArray))
  | ([[[.r x0]], [[.s x1]]], []) => F_strings_Join n x0 x1
  | _ => none
def E_strings_Join (n : Nat) (d : List AV → List Go.Eng.Frame → Tr Res) : List AV → List Go.Eng.Frame → Tr Res := cent (A_strings_Join ([]) (⟨#[]⟩)) (U_strings_Join ([]) (⟨#[]⟩)) (FH_strings_Join n) O_strings_Join d
theorem eo_strings_Join (n : Nat) {d : List AV → List Go.Eng.Frame → Tr Res} (hd : ∀ ar up r, (d ar up).run = some r → runs KP lib n 82 ar up = some r) : ∀ ar up r, (E_strings_Join n d ar up).run = some r → runs KP lib n 82 ar up = some r :=
  cent_ok (fun hs r h => by
    unfold FH_strings_Join at h
    split at h
    · exact ⟨A_strings_Join _ _, U_strings_Join _ _, rfl, rfl, th_strings_Join n _ _ r h⟩
    · cases h) hd
/-! ### impl.formulaText -/
def A_impl_formulaText (x0 : List (List PV)) (x1 : Int) (x2 : Int) : List AV := [(.c (.p (.ls x0))), (.c (.p (.i .i64 x1))), (.c (.p (.i .i64 x2)))]
def U_impl_formulaText (x0 : List (List PV)) (x1 : Int) (x2 : Int) : List Go.Eng.Frame := []
def O_impl_formulaText (r : ByteArray) : Res := ⟨(.c (.p (.s r))), [], []⟩
def FHr_impl_formulaText (rec : List (List PV) → Int → Int → Option (ByteArray)) : Cont → Option (ByteArray)
  | ([[[.r x0]], [[.i x1]], [[.i x2]]], []) => rec x0 x1 x2
  | _ => none
abbrev CT_impl_formulaText (rec : List (List PV) → Int → Int → Option (ByteArray)) (n : Nat) : CTab := mkCT [(77, E_strings_ReplaceAll n (noEnt)), (78, E_impl_valueText n (noEnt)), (9, E_impl_PlaceText n (noEnt)), (50, cent (A_impl_formulaText ([]) (0) (0)) (U_impl_formulaText ([]) (0) (0)) (fun hs => FHr_impl_formulaText rec hs) O_impl_formulaText (noEnt)), (79, E_impl_binds n (noEnt)), (80, E_impl_opText n (noEnt)), (81, E_impl_fnText n (noEnt)), (82, E_strings_Join n (noEnt))]
def S_impl_formulaText_125 (v : (List (List PV)) × Nat × (List (List PV)) × Int × Int × Int × Int × Int × Int × ByteArray × Int × Int × Bool × Bool × Int × Int × Bool × Bool × (List (List PV)) × (List (List PV))) : St := ⟨[(0, (.c (.p (.ls v.1)))), (7, (.c (.ptr 0 448 0 0 0))), (10, (.c (.own 0 5760 0 v.2.1))), (92, (.c (.p (.ls v.2.2.1)))), (93, (.c (.p (.i .i64 v.2.2.2.1)))), (94, (.c (.p (.i .i64 v.2.2.2.2.1))))], [(448, ⟨0, 14, 81, (.box [(.p (.i .i64 v.2.2.2.2.2.1)), (.p (.i .i64 v.2.2.2.2.2.2.1)), (.p (.i .i64 v.2.2.2.2.2.2.2.1)), (.p (.i .i64 v.2.2.2.2.2.2.2.2.1)), (.p (.s v.2.2.2.2.2.2.2.2.2.1)), (.p (.i .i64 v.2.2.2.2.2.2.2.2.2.2.1)), (.p (.i .i64 v.2.2.2.2.2.2.2.2.2.2.2.1)), (.p (.b v.2.2.2.2.2.2.2.2.2.2.2.2.1)), (.p (.b v.2.2.2.2.2.2.2.2.2.2.2.2.2.1)), (.p (.i .i64 v.2.2.2.2.2.2.2.2.2.2.2.2.2.2.1)), (.p (.i .i64 v.2.2.2.2.2.2.2.2.2.2.2.2.2.2.2.1)), (.p (.b v.2.2.2.2.2.2.2.2.2.2.2.2.2.2.2.2.1)), (.p (.b v.2.2.2.2.2.2.2.2.2.2.2.2.2.2.2.2.2.1)), (.p (.ls v.2.2.2.2.2.2.2.2.2.2.2.2.2.2.2.2.2.2.1))])⟩), (5760, ⟨0, 1, 9, (.row v.2.2.2.2.2.2.2.2.2.2.2.2.2.2.2.2.2.2.2)⟩)], []⟩
def B_impl_formulaText_125 (rec : List (List PV) → Int → Int → Option (ByteArray)) (n : Nat) (v : (List (List PV)) × Nat × (List (List PV)) × Int × Int × Int × Int × Int × Int × ByteArray × Int × Int × Bool × Bool × Int × Int × Bool × Bool × (List (List PV)) × (List (List PV))) : Tr (((List (List PV)) × Nat × (List (List PV)) × Int × Int × Int × Int × Int × Int × ByteArray × Int × Int × Bool × Bool × Int × Int × Bool × Bool × (List (List PV)) × (List (List PV))) ⊕ ((Nat × Int × Int × Int × Int × ByteArray × Int × Int × Bool × Bool × Int × Int × Bool × Bool × (List (List PV)) × (List (List PV))))) := (.ask ((decide (v.2.2.2.2.1 < v.2.2.2.1))) (.ask (decide (0 ≤ v.2.2.2.2.1 ∧ v.2.2.2.2.1 < v.2.2.1.length)) (.opt (v.2.2.1[(v.2.2.2.2.1).toNat]?) fun e300 => (.ask (decide (e300.length = 1)) (.opt (cellI .i64 e300 0) fun y301 => (.opt (rec v.1 y301 (1 : Int)) fun r302 => (.ask (decide (1 = ([[(.s r302)]] : List (List PV)).length)) (.ask (decide (v.2.1 = v.2.2.2.2.2.2.2.2.2.2.2.2.2.2.2.2.2.2.2.length ∧ 0 < 1 ∧ 0 < 16 ∧ (v.2.1 + ([[(.s r302)]] : List (List PV)).length) * 16 ≤ 140737488355328 ∧ ([[(.s r302)]] : List (List PV)).all (fun e => e.length == 1) = true)) (.done (.inl (v.1, (v.2.1 + 1), v.2.2.1, v.2.2.2.1, (IntKind.i64.wrap (v.2.2.2.2.1 + (1 : Int))), v.2.2.2.2.2.1, v.2.2.2.2.2.2.1, v.2.2.2.2.2.2.2.1, v.2.2.2.2.2.2.2.2.1, v.2.2.2.2.2.2.2.2.2.1, v.2.2.2.2.2.2.2.2.2.2.1, v.2.2.2.2.2.2.2.2.2.2.2.1, v.2.2.2.2.2.2.2.2.2.2.2.2.1, v.2.2.2.2.2.2.2.2.2.2.2.2.2.1, v.2.2.2.2.2.2.2.2.2.2.2.2.2.2.1, v.2.2.2.2.2.2.2.2.2.2.2.2.2.2.2.1, v.2.2.2.2.2.2.2.2.2.2.2.2.2.2.2.2.1, v.2.2.2.2.2.2.2.2.2.2.2.2.2.2.2.2.2.1, v.2.2.2.2.2.2.2.2.2.2.2.2.2.2.2.2.2.2.1, (v.2.2.2.2.2.2.2.2.2.2.2.2.2.2.2.2.2.2.2 ++ ([[(.s r302)]] : List (List PV)))))) .fail) .fail))) .fail)) .fail) (.done (.inr ((v.2.1, v.2.2.2.2.2.1, v.2.2.2.2.2.2.1, v.2.2.2.2.2.2.2.1, v.2.2.2.2.2.2.2.2.1, v.2.2.2.2.2.2.2.2.2.1, v.2.2.2.2.2.2.2.2.2.2.1, v.2.2.2.2.2.2.2.2.2.2.2.1, v.2.2.2.2.2.2.2.2.2.2.2.2.1, v.2.2.2.2.2.2.2.2.2.2.2.2.2.1, v.2.2.2.2.2.2.2.2.2.2.2.2.2.2.1, v.2.2.2.2.2.2.2.2.2.2.2.2.2.2.2.1, v.2.2.2.2.2.2.2.2.2.2.2.2.2.2.2.2.1, v.2.2.2.2.2.2.2.2.2.2.2.2.2.2.2.2.2.1, v.2.2.2.2.2.2.2.2.2.2.2.2.2.2.2.2.2.2.1, v.2.2.2.2.2.2.2.2.2.2.2.2.2.2.2.2.2.2.2)))))
def D_impl_formulaText_125 : (Nat × Int × Int × Int × Int × ByteArray × Int × Int × Bool × Bool × Int × Int × Bool × Bool × (List (List PV)) × (List (List PV))) → Ex × St := fun r => ((.exit 1), ⟨[(7, (.c (.ptr 0 448 0 0 0))), (10, (.c (.own 0 5760 0 r.1)))], [(448, ⟨0, 14, 81, (.box [(.p (.i .i64 r.2.1)), (.p (.i .i64 r.2.2.1)), (.p (.i .i64 r.2.2.2.1)), (.p (.i .i64 r.2.2.2.2.1)), (.p (.s r.2.2.2.2.2.1)), (.p (.i .i64 r.2.2.2.2.2.2.1)), (.p (.i .i64 r.2.2.2.2.2.2.2.1)), (.p (.b r.2.2.2.2.2.2.2.2.1)), (.p (.b r.2.2.2.2.2.2.2.2.2.1)), (.p (.i .i64 r.2.2.2.2.2.2.2.2.2.2.1)), (.p (.i .i64 r.2.2.2.2.2.2.2.2.2.2.2.1)), (.p (.b r.2.2.2.2.2.2.2.2.2.2.2.2.1)), (.p (.b r.2.2.2.2.2.2.2.2.2.2.2.2.2.1)), (.p (.ls r.2.2.2.2.2.2.2.2.2.2.2.2.2.2.1))])⟩), (5760, ⟨0, 1, 9, (.row r.2.2.2.2.2.2.2.2.2.2.2.2.2.2.2)⟩)], []⟩)
def DT_impl_formulaText_125 : (Nat × Int × Int × Int × Int × ByteArray × Int × Int × Bool × Bool × Int × Int × Bool × Bool × (List (List PV)) × (List (List PV))) → Tr (Ex × St) := fun r => .done ((.exit 1), ⟨[(7, (.c (.ptr 0 448 0 0 0))), (10, (.c (.own 0 5760 0 r.1)))], [(448, ⟨0, 14, 81, (.box [(.p (.i .i64 r.2.1)), (.p (.i .i64 r.2.2.1)), (.p (.i .i64 r.2.2.2.1)), (.p (.i .i64 r.2.2.2.2.1)), (.p (.s r.2.2.2.2.2.1)), (.p (.i .i64 r.2.2.2.2.2.2.1)), (.p (.i .i64 r.2.2.2.2.2.2.2.1)), (.p (.b r.2.2.2.2.2.2.2.2.1)), (.p (.b r.2.2.2.2.2.2.2.2.2.1)), (.p (.i .i64 r.2.2.2.2.2.2.2.2.2.2.1)), (.p (.i .i64 r.2.2.2.2.2.2.2.2.2.2.2.1)), (.p (.b r.2.2.2.2.2.2.2.2.2.2.2.2.1)), (.p (.b r.2.2.2.2.2.2.2.2.2.2.2.2.2.1)), (.p (.ls r.2.2.2.2.2.2.2.2.2.2.2.2.2.2.1))])⟩), (5760, ⟨0, 1, 9, (.row r.2.2.2.2.2.2.2.2.2.2.2.2.2.2.2)⟩)], []⟩)
def VH_impl_formulaText_125 : Cont3 → Option ((List (List PV)) × Nat × (List (List PV)) × Int × Int × Int × Int × Int × Int × ByteArray × Int × Int × Bool × Bool × Int × Int × Bool × Bool × (List (List PV)) × (List (List PV)))
  | ([[[.r w0]], [[]], [[.n w1]], [[.r w2]], [[.i w3]], [[.i w4]]], [[[.i w5], [.i w6], [.i w7], [.i w8], [.s w9], [.i w10], [.i w11], [.b w12], [.b w13], [.i w14], [.i w15], [.b w16], [.b w17], [.r w18]], [[.r w19]]], []) => some (w0, w1, w2, w3, w4, w5, w6, w7, w8, w9, w10, w11, w12, w13, w14, w15, w16, w17, w18, w19)
  | _ => none
abbrev LE_impl_formulaText_125 (rec : List (List PV) → Int → Int → Option (ByteArray)) (n : Nat) : St → Tr (Ex × St) := lent (S_impl_formulaText_125 ([], 0, [], 0, 0, 0, 0, 0, 0, ⟨#[]⟩, 0, 0, false, false, 0, 0, false, false, [], [])) VH_impl_formulaText_125 (B_impl_formulaText_125 rec n) DT_impl_formulaText_125 n
abbrev LT_impl_formulaText (rec : List (List PV) → Int → Int → Option (ByteArray)) (n : Nat) : LTab := mkLT [(125, LE_impl_formulaText_125 rec n)]
def T_impl_formulaText (rec : List (List PV) → Int → Int → Option (ByteArray)) (n : Nat) (x0 : List (List PV)) (x1 : Int) (x2 : Int) : Tr (ByteArray) := (.ask (decide (0 ≤ x1 ∧ x1 < x0.length)) (.opt (x0[(x1).toNat]?) fun e250 => (.ask (decide (e250.length = 14)) (.opt (cellI .i64 e250 0) fun y251 => (.opt (cellI .i64 e250 1) fun y252 => (.opt (cellI .i64 e250 2) fun y253 => (.opt (cellI .i64 e250 3) fun y254 => (.opt (cellS e250 4) fun y255 => (.opt (cellI .i64 e250 5) fun y256 => (.opt (cellI .i64 e250 6) fun y257 => (.opt (cellB e250 7) fun y258 => (.opt (cellB e250 8) fun y259 => (.opt (cellI .i64 e250 9) fun y260 => (.opt (cellI .i64 e250 10) fun y261 => (.opt (cellB e250 11) fun y262 => (.opt (cellB e250 12) fun y263 => (.opt (cellL e250 13) fun y264 => (.ask ((y251 == (1 : Int))) (.ask ((y253 == (2 : Int))) (.opt (F_strings_ReplaceAll n y255 (⟨#[34]⟩ : ByteArray) (⟨#[34, 34]⟩ : ByteArray)) fun r265 => (.ask (decide ((⟨#[34]⟩ : ByteArray).size + r265.size ≤ 9223372036854775807)) (.ask (decide (((⟨#[34]⟩ : ByteArray) ++ r265).size + (⟨#[34]⟩ : ByteArray).size ≤ 9223372036854775807)) (.done (((⟨#[34]⟩ : ByteArray) ++ r265) ++ (⟨#[34]⟩ : ByteArray))) .fail) .fail)) (.opt (F_impl_valueText n y253 y254 y255) fun r273 => (.done r273))) (.ask ((y251 == (2 : Int))) (.opt (F_impl_PlaceText n y256 y257 y258 y259) fun r284 => (.done r284)) (.ask ((y251 == (3 : Int))) (.opt (F_impl_PlaceText n y256 y257 y258 y259) fun r285 => (.ask (decide (r285.size + (⟨#[58]⟩ : ByteArray).size ≤ 9223372036854775807)) (.opt (F_impl_PlaceText n y260 y261 y262 y263) fun r286 => (.ask (decide ((r285 ++ (⟨#[58]⟩ : ByteArray)).size + r286.size ≤ 9223372036854775807)) (.done ((r285 ++ (⟨#[58]⟩ : ByteArray)) ++ r286)) .fail)) .fail)) (.ask ((y251 == (4 : Int))) (.ask (decide (0 ≤ (0 : Int) ∧ (0 : Int) < y264.length)) (.opt (y264[((0 : Int)).toNat]?) fun e287 => (.ask (decide (e287.length = 1)) (.opt (cellI .i64 e287 0) fun y288 => (.opt (rec x0 y288 (5 : Int)) fun r289 => (.ask (decide ((⟨#[45]⟩ : ByteArray).size + r289.size ≤ 9223372036854775807)) (.done ((⟨#[45]⟩ : ByteArray) ++ r289)) .fail))) .fail)) .fail) (.ask ((y251 == (5 : Int))) (.opt (F_impl_binds n y252) fun r290 => (.ask (decide (0 ≤ (0 : Int) ∧ (0 : Int) < y264.length)) (.opt (y264[((0 : Int)).toNat]?) fun e291 => (.ask (decide (e291.length = 1)) (.opt (cellI .i64 e291 0) fun y292 => (.ask (decide (0 ≤ (1 : Int) ∧ (1 : Int) < y264.length)) (.opt (y264[((1 : Int)).toNat]?) fun e293 => (.ask (decide (e293.length = 1)) (.opt (cellI .i64 e293 0) fun y294 => (.opt (rec x0 y292 r290) fun r295 => (.opt (F_impl_opText n y252) fun r298 => (.ask (decide (r295.size + r298.size ≤ 9223372036854775807)) (.opt (rec x0 y294 (IntKind.i64.wrap (r290 + (1 : Int)))) fun r299 => (.ask (decide ((r295 ++ r298).size + r299.size ≤ 9223372036854775807)) (.ask ((decide (r290 < x2))) (.ask (decide ((⟨#[40]⟩ : ByteArray).size + ((r295 ++ r298) ++ r299).size ≤ 9223372036854775807)) (.ask (decide (((⟨#[40]⟩ : ByteArray) ++ ((r295 ++ r298) ++ r299)).size + (⟨#[41]⟩ : ByteArray).size ≤ 9223372036854775807)) (.done (((⟨#[40]⟩ : ByteArray) ++ ((r295 ++ r298) ++ r299)) ++ (⟨#[41]⟩ : ByteArray))) .fail) .fail) (.done ((r295 ++ r298) ++ r299))) .fail)) .fail)))) .fail)) .fail)) .fail)) .fail)) (.opt (loopF (B_impl_formulaText_125 rec n) n (x0, (0 : Nat), y264, (y264.length : Int), (0 : Int), y251, y252, y253, y254, y255, y256, y257, y258, y259, y260, y261, y262, y263, y264, ([] : List (List PV)))) fun r303 => (.opt (F_impl_fnText n r303.2.2.1) fun r306 => (.ask (decide (r306.size + (⟨#[40]⟩ : ByteArray).size ≤ 9223372036854775807)) (.ask (decide (r303.1 = r303.2.2.2.2.2.2.2.2.2.2.2.2.2.2.2.length)) (.opt (F_strings_Join n r303.2.2.2.2.2.2.2.2.2.2.2.2.2.2.2 (⟨#[44]⟩ : ByteArray)) fun r307 => (.ask (apartR (⟨(.c (.p (.s r307))), [], []⟩ : Res)) (.ask (decide ((r306 ++ (⟨#[40]⟩ : ByteArray)).size + r307.size ≤ 9223372036854775807)) (.ask (decide (((r306 ++ (⟨#[40]⟩ : ByteArray)) ++ r307).size + (⟨#[41]⟩ : ByteArray).size ≤ 9223372036854775807)) (.done (((r306 ++ (⟨#[40]⟩ : ByteArray)) ++ r307) ++ (⟨#[41]⟩ : ByteArray))) .fail) .fail) .fail)) .fail) .fail)))))))))))))))))))))) .fail)) .fail)
def F_impl_formulaText : Nat → List (List PV) → Int → Int → Option (ByteArray)
  | 0, _, _, _ => none
  | n + 1, x0, x1, x2 => (T_impl_formulaText (F_impl_formulaText n) n x0 x1 x2).run
theorem ft_impl_formulaText (rec : List (List PV) → Int → Int → Option (ByteArray)) (n : Nat) (x0 : List (List PV)) (x1 : Int) (x2 : Int) : funT (CT_impl_formulaText rec n) (LT_impl_formulaText rec n) K_impl_formulaText (A_impl_formulaText x0 x1 x2) (U_impl_formulaText x0 x1 x2) = (T_impl_formulaText rec n x0 x1 x2).bind fun r => .done (O_impl_formulaText r) := by kernel_rfl
theorem ct_impl_formulaText (n : Nat) (ih : ∀ (x0 : List (List PV)) (x1 : Int) (x2 : Int) r, F_impl_formulaText n x0 x1 x2 = some r → runs KP lib n 50 (A_impl_formulaText x0 x1 x2) (U_impl_formulaText x0 x1 x2) = some (O_impl_formulaText r)) : CTok (CT_impl_formulaText (F_impl_formulaText n) n) (runs KP lib n) := mkCT_cons (eo_strings_ReplaceAll n (noEnt_ok)) (mkCT_cons (eo_impl_valueText n (noEnt_ok)) (mkCT_cons (eo_impl_PlaceText n (noEnt_ok)) (mkCT_cons (cent_ok (fun hs r h => by
    unfold FHr_impl_formulaText at h
    split at h
    · exact ⟨A_impl_formulaText _ _ _, U_impl_formulaText _ _ _, rfl, rfl, ih _ _ _ r h⟩
    · cases h) (noEnt_ok)) (mkCT_cons (eo_impl_binds n (noEnt_ok)) (mkCT_cons (eo_impl_opText n (noEnt_ok)) (mkCT_cons (eo_impl_fnText n (noEnt_ok)) (mkCT_cons (eo_strings_Join n (noEnt_ok)) (mkCT_nil))))))))
set_option maxHeartbeats 4000000 in
theorem lt_impl_formulaText_125 (n : Nat) (v : (List (List PV)) × Nat × (List (List PV)) × Int × Int × Int × Int × Int × Int × ByteArray × Int × Int × Bool × Bool × Int × Int × Bool × Bool × (List (List PV)) × (List (List PV))) : (evalCT (CT_impl_formulaText (F_impl_formulaText n) n) (mkLT []) K_impl_formulaText_L125 (S_impl_formulaText_125 v) []).bind (ltail [0, 7, 10, 92, 93, 94] [(.ret, [6]), ((.exit 1), [7, 10])]) = (B_impl_formulaText_125 (F_impl_formulaText n) n v).bind (lenc S_impl_formulaText_125 D_impl_formulaText_125) := by
  obtain ⟨w0, w1, w2, w3, w4, w5, w6, w7, w8, w9, w10, w11, w12, w13, w14, w15, w16, w17, w18, w19⟩ := v
  kernel_rfl
theorem le_impl_formulaText_125 (n : Nat) (ih : ∀ (x0 : List (List PV)) (x1 : Int) (x2 : Int) r, F_impl_formulaText n x0 x1 x2 = some r → runs KP lib n 50 (A_impl_formulaText x0 x1 x2) (U_impl_formulaText x0 x1 x2) = some (O_impl_formulaText r)) : LEok (runs KP lib n) n (125, [0, 7, 10, 92, 93, 94], [(.ret, [6]), ((.exit 1), [7, 10])], K_impl_formulaText_L125) (LE_impl_formulaText_125 (F_impl_formulaText n) n) := fun st e s h =>
  lent_ok (ct_impl_formulaText n ih) (noLoops rfl) (lt_impl_formulaText_125 n) (fun r h => by cases h) (fun r y h => by cases h; rfl) (fun hs v h => by
    unfold VH_impl_formulaText_125 at h
    split at h <;> cases h
    rfl) h
theorem lo_impl_formulaText (n : Nat) (ih : ∀ (x0 : List (List PV)) (x1 : Int) (x2 : Int) r, F_impl_formulaText n x0 x1 x2 = some r → runs KP lib n 50 (A_impl_formulaText x0 x1 x2) (U_impl_formulaText x0 x1 x2) = some (O_impl_formulaText r)) : LTok (LT_impl_formulaText (F_impl_formulaText n) n) (runs KP lib n) n K_impl_formulaText.body := mkLT_ok (by
  intro x hx
  have hx : x ∈ ([(125, [0, 7, 10, 92, 93, 94], [(.ret, [6]), ((.exit 1), [7, 10])], K_impl_formulaText_L125)] : List (Nat × List Nat × List (Ex × List Nat) × KCode)) := hx
  simp only [List.mem_cons, List.not_mem_nil, or_false] at hx
  rcases hx with rfl
  · exact ⟨LE_impl_formulaText_125 (F_impl_formulaText n) n, fun st => rfl, le_impl_formulaText_125 n ih⟩)
theorem th_impl_formulaText : ∀ (n : Nat) (x0 : List (List PV)) (x1 : Int) (x2 : Int) (r : ByteArray), F_impl_formulaText n x0 x1 x2 = some r → runs KP lib n 50 (A_impl_formulaText x0 x1 x2) (U_impl_formulaText x0 x1 x2) = some (O_impl_formulaText r)
  | 0, x0, x1, x2, r, h => by cases h
  | n + 1, x0, x1, x2, r, h => fun_step (kf := K_impl_formulaText) rfl (ct_impl_formulaText n (th_impl_formulaText n)) (lo_impl_formulaText n (th_impl_formulaText n)) (ft_impl_formulaText (F_impl_formulaText n) n x0 x1 x2) h
def FH_impl_formulaText (n : Nat) : Cont → Option (ByteArray)
  | ([[[.r x0]], [[.i x1]], [[.i x2]]], []) => F_impl_formulaText n x0 x1 x2
  | _ => none
def E_impl_formulaText (n : Nat) (d : List AV → List Go.Eng.Frame → Tr Res) : List AV → List Go.Eng.Frame → Tr Res := cent (A_impl_formulaText ([]) (0) (0)) (U_impl_formulaText ([]) (0) (0)) (FH_impl_formulaText n) O_impl_formulaText d
theorem eo_impl_formulaText (n : Nat) {d : List AV → List Go.Eng.Frame → Tr Res} (hd : ∀ ar up r, (d ar up).run = some r → runs KP lib n 50 ar up = some r) : ∀ ar up r, (E_impl_formulaText n d ar up).run = some r → runs KP lib n 50 ar up = some r :=
  cent_ok (fun hs r h => by
    unfold FH_impl_formulaText at h
    split at h
    · exact ⟨A_impl_formulaText _ _ _, U_impl_formulaText _ _ _, rfl, rfl, th_impl_formulaText n _ _ _ r h⟩
    · cases h) hd
/-! ### impl.FormulaText -/
def A_impl_FormulaText (x0 : List (List PV)) : List AV := [(.c (.p (.ls x0)))]
def U_impl_FormulaText (x0 : List (List PV)) : List Go.Eng.Frame := []
def O_impl_FormulaText (r : ByteArray) : Res := ⟨(.c (.p (.s r))), [], []⟩
abbrev CT_impl_FormulaText (n : Nat) : CTab := mkCT [(49, E_impl_FormulaOk n (noEnt)), (50, E_impl_formulaText n (noEnt))]
abbrev LT_impl_FormulaText (n : Nat) : LTab := mkLT []
def T_impl_FormulaText (n : Nat) (x0 : List (List PV)) : Tr (ByteArray) := (.opt (F_impl_FormulaOk n x0) fun r249 => (.ask ((!r249)) (.done (⟨#[]⟩ : ByteArray)) (.opt (F_impl_formulaText n x0 (IntKind.i64.wrap ((x0.length : Int) - (1 : Int))) (1 : Int)) fun r308 => (.ask ((decide ((r308.size : Int) > (200 : Int)))) (.done (⟨#[]⟩ : ByteArray)) (.done r308)))))
def F_impl_FormulaText : Nat → List (List PV) → Option (ByteArray)
  | 0, _ => none
  | n + 1, x0 => (T_impl_FormulaText n x0).run
theorem ft_impl_FormulaText (n : Nat) (x0 : List (List PV)) : funT (CT_impl_FormulaText n) (LT_impl_FormulaText n) K_impl_FormulaText (A_impl_FormulaText x0) (U_impl_FormulaText x0) = (T_impl_FormulaText n x0).bind fun r => .done (O_impl_FormulaText r) := by kernel_rfl
theorem ct_impl_FormulaText (n : Nat) : CTok (CT_impl_FormulaText n) (runs KP lib n) := mkCT_cons (eo_impl_FormulaOk n (noEnt_ok)) (mkCT_cons (eo_impl_formulaText n (noEnt_ok)) (mkCT_nil))
theorem th_impl_FormulaText : ∀ (n : Nat) (x0 : List (List PV)) (r : ByteArray), F_impl_FormulaText n x0 = some r → runs KP lib n 26 (A_impl_FormulaText x0) (U_impl_FormulaText x0) = some (O_impl_FormulaText r)
  | 0, x0, r, h => by cases h
  | n + 1, x0, r, h => fun_step (kf := K_impl_FormulaText) rfl (ct_impl_FormulaText n) (noLoops rfl) (ft_impl_FormulaText n x0) h
def FH_impl_FormulaText (n : Nat) : Cont → Option (ByteArray)
  | ([[[.r x0]]], []) => F_impl_FormulaText n x0
  | _ => none
def E_impl_FormulaText (n : Nat) (d : List AV → List Go.Eng.Frame → Tr Res) : List AV → List Go.Eng.Frame → Tr Res := cent (A_impl_FormulaText ([])) (U_impl_FormulaText ([])) (FH_impl_FormulaText n) O_impl_FormulaText d
theorem eo_impl_FormulaText (n : Nat) {d : List AV → List Go.Eng.Frame → Tr Res} (hd : ∀ ar up r, (d ar up).run = some r → runs KP lib n 26 ar up = some r) : ∀ ar up r, (E_impl_FormulaText n d ar up).run = some r → runs KP lib n 26 ar up = some r :=
  cent_ok (fun hs r h => by
    unfold FH_impl_FormulaText at h
    split at h
    · exact ⟨A_impl_FormulaText _, U_impl_FormulaText _, rfl, rfl, th_impl_FormulaText n _ r h⟩
    · cases h) hd
/-! ### laws.eqValue -/
def A_laws_eqValue (x0 : Int) (x1 : Int) (x2 : ByteArray) (x3 : Int) (x4 : Int) (x5 : ByteArray) : List AV := [(.agg [(.p (.i .i64 x0)), (.p (.i .i64 x1)), (.p (.s x2))]), (.agg [(.p (.i .i64 x3)), (.p (.i .i64 x4)), (.p (.s x5))])]
def U_laws_eqValue (x0 : Int) (x1 : Int) (x2 : ByteArray) (x3 : Int) (x4 : Int) (x5 : ByteArray) : List Go.Eng.Frame := []
def O_laws_eqValue (r : Bool) : Res := ⟨(.c (.p (.b r))), [], []⟩
abbrev CT_laws_eqValue (n : Nat) : CTab := mkCT []
abbrev LT_laws_eqValue (n : Nat) : LTab := mkLT []
def T_laws_eqValue (n : Nat) (x0 : Int) (x1 : Int) (x2 : ByteArray) (x3 : Int) (x4 : Int) (x5 : ByteArray) : Tr (Bool) := (.ask ((x0 != x3)) (.done false) (.ask ((x1 != x4)) (.done false) (.ask ((!(x2.toList == x5.toList))) (.done false) (.done true))))
def F_laws_eqValue : Nat → Int → Int → ByteArray → Int → Int → ByteArray → Option (Bool)
  | 0, _, _, _, _, _, _ => none
  | n + 1, x0, x1, x2, x3, x4, x5 => (T_laws_eqValue n x0 x1 x2 x3 x4 x5).run
theorem ft_laws_eqValue (n : Nat) (x0 : Int) (x1 : Int) (x2 : ByteArray) (x3 : Int) (x4 : Int) (x5 : ByteArray) : funT (CT_laws_eqValue n) (LT_laws_eqValue n) K_laws_eqValue (A_laws_eqValue x0 x1 x2 x3 x4 x5) (U_laws_eqValue x0 x1 x2 x3 x4 x5) = (T_laws_eqValue n x0 x1 x2 x3 x4 x5).bind fun r => .done (O_laws_eqValue r) := by kernel_rfl
theorem ct_laws_eqValue (n : Nat) : CTok (CT_laws_eqValue n) (runs KP lib n) := mkCT_nil
theorem th_laws_eqValue : ∀ (n : Nat) (x0 : Int) (x1 : Int) (x2 : ByteArray) (x3 : Int) (x4 : Int) (x5 : ByteArray) (r : Bool), F_laws_eqValue n x0 x1 x2 x3 x4 x5 = some r → runs KP lib n 83 (A_laws_eqValue x0 x1 x2 x3 x4 x5) (U_laws_eqValue x0 x1 x2 x3 x4 x5) = some (O_laws_eqValue r)
  | 0, x0, x1, x2, x3, x4, x5, r, h => by cases h
  | n + 1, x0, x1, x2, x3, x4, x5, r, h => fun_step (kf := K_laws_eqValue) rfl (ct_laws_eqValue n) (noLoops rfl) (ft_laws_eqValue n x0 x1 x2 x3 x4 x5) h
def FH_laws_eqValue (n : Nat) : Cont → Option (Bool)
  | ([[[.i x0], [.i x1], [.s x2]], [[.i x3], [.i x4], [.s x5]]], []) => F_laws_eqValue n x0 x1 x2 x3 x4 x5
  | _ => none
def E_laws_eqValue (n : Nat) (d : List AV → List Go.Eng.Frame → Tr Res) : List AV → List Go.Eng.Frame → Tr Res := cent (A_laws_eqValue (0) (0) (⟨#[]⟩) (0) (0) (⟨#[]⟩)) (U_laws_eqValue (0) (0) (⟨#[]⟩) (0) (0) (⟨#[]⟩)) (FH_laws_eqValue n) O_laws_eqValue d
theorem eo_laws_eqValue (n : Nat) {d : List AV → List Go.Eng.Frame → Tr Res} (hd : ∀ ar up r, (d ar up).run = some r → runs KP lib n 83 ar up = some r) : ∀ ar up r, (E_laws_eqValue n d ar up).run = some r → runs KP lib n 83 ar up = some r :=
  cent_ok (fun hs r h => by
    unfold FH_laws_eqValue at h
    split at h
    · exact ⟨A_laws_eqValue _ _ _ _ _ _, U_laws_eqValue _ _ _ _ _ _, rfl, rfl, th_laws_eqValue n _ _ _ _ _ _ r h⟩
    · cases h) hd
/-! ### laws.eqRef -/
def A_laws_eqRef (x0 : Int) (x1 : Int) (x2 : Int) (x3 : Int) : List AV := [(.agg [(.p (.i .i64 x0)), (.p (.i .i64 x1))]), (.agg [(.p (.i .i64 x2)), (.p (.i .i64 x3))])]
def U_laws_eqRef (x0 : Int) (x1 : Int) (x2 : Int) (x3 : Int) : List Go.Eng.Frame := []
def O_laws_eqRef (r : Bool) : Res := ⟨(.c (.p (.b r))), [], []⟩
abbrev CT_laws_eqRef (n : Nat) : CTab := mkCT []
abbrev LT_laws_eqRef (n : Nat) : LTab := mkLT []
def T_laws_eqRef (n : Nat) (x0 : Int) (x1 : Int) (x2 : Int) (x3 : Int) : Tr (Bool) := (.ask ((x0 != x2)) (.done false) (.ask ((x1 != x3)) (.done false) (.done true)))
def F_laws_eqRef : Nat → Int → Int → Int → Int → Option (Bool)
  | 0, _, _, _, _ => none
  | n + 1, x0, x1, x2, x3 => (T_laws_eqRef n x0 x1 x2 x3).run
theorem ft_laws_eqRef (n : Nat) (x0 : Int) (x1 : Int) (x2 : Int) (x3 : Int) : funT (CT_laws_eqRef n) (LT_laws_eqRef n) K_laws_eqRef (A_laws_eqRef x0 x1 x2 x3) (U_laws_eqRef x0 x1 x2 x3) = (T_laws_eqRef n x0 x1 x2 x3).bind fun r => .done (O_laws_eqRef r) := by kernel_rfl
theorem ct_laws_eqRef (n : Nat) : CTok (CT_laws_eqRef n) (runs KP lib n) := mkCT_nil
theorem th_laws_eqRef : ∀ (n : Nat) (x0 : Int) (x1 : Int) (x2 : Int) (x3 : Int) (r : Bool), F_laws_eqRef n x0 x1 x2 x3 = some r → runs KP lib n 36 (A_laws_eqRef x0 x1 x2 x3) (U_laws_eqRef x0 x1 x2 x3) = some (O_laws_eqRef r)
  | 0, x0, x1, x2, x3, r, h => by cases h
  | n + 1, x0, x1, x2, x3, r, h => fun_step (kf := K_laws_eqRef) rfl (ct_laws_eqRef n) (noLoops rfl) (ft_laws_eqRef n x0 x1 x2 x3) h
def FH_laws_eqRef (n : Nat) : Cont → Option (Bool)
  | ([[[.i x0], [.i x1]], [[.i x2], [.i x3]]], []) => F_laws_eqRef n x0 x1 x2 x3
  | _ => none
def E_laws_eqRef (n : Nat) (d : List AV → List Go.Eng.Frame → Tr Res) : List AV → List Go.Eng.Frame → Tr Res := cent (A_laws_eqRef (0) (0) (0) (0)) (U_laws_eqRef (0) (0) (0) (0)) (FH_laws_eqRef n) O_laws_eqRef d
theorem eo_laws_eqRef (n : Nat) {d : List AV → List Go.Eng.Frame → Tr Res} (hd : ∀ ar up r, (d ar up).run = some r → runs KP lib n 36 ar up = some r) : ∀ ar up r, (E_laws_eqRef n d ar up).run = some r → runs KP lib n 36 ar up = some r :=
  cent_ok (fun hs r h => by
    unfold FH_laws_eqRef at h
    split at h
    · exact ⟨A_laws_eqRef _ _ _ _, U_laws_eqRef _ _ _ _, rfl, rfl, th_laws_eqRef n _ _ _ _ r h⟩
    · cases h) hd
/-! ### laws.eqPlace -/
def A_laws_eqPlace (x0 : Int) (x1 : Int) (x2 : Bool) (x3 : Bool) (x4 : Int) (x5 : Int) (x6 : Bool) (x7 : Bool) : List AV := [(.agg [(.p (.i .i64 x0)), (.p (.i .i64 x1)), (.p (.b x2)), (.p (.b x3))]), (.agg [(.p (.i .i64 x4)), (.p (.i .i64 x5)), (.p (.b x6)), (.p (.b x7))])]
def U_laws_eqPlace (x0 : Int) (x1 : Int) (x2 : Bool) (x3 : Bool) (x4 : Int) (x5 : Int) (x6 : Bool) (x7 : Bool) : List Go.Eng.Frame := []
def O_laws_eqPlace (r : Bool) : Res := ⟨(.c (.p (.b r))), [], []⟩
abbrev CT_laws_eqPlace (n : Nat) : CTab := mkCT [(36, E_laws_eqRef n (noEnt))]
abbrev LT_laws_eqPlace (n : Nat) : LTab := mkLT []
def T_laws_eqPlace (n : Nat) (x0 : Int) (x1 : Int) (x2 : Bool) (x3 : Bool) (x4 : Int) (x5 : Int) (x6 : Bool) (x7 : Bool) : Tr (Bool) := (.opt (F_laws_eqRef n x0 x1 x4 x5) fun r342 => (.ask ((!r342)) (.done false) (.ask ((!(x2 == x6))) (.done false) (.ask ((!(x3 == x7))) (.done false) (.done true)))))
def F_laws_eqPlace : Nat → Int → Int → Bool → Bool → Int → Int → Bool → Bool → Option (Bool)
  | 0, _, _, _, _, _, _, _, _ => none
  | n + 1, x0, x1, x2, x3, x4, x5, x6, x7 => (T_laws_eqPlace n x0 x1 x2 x3 x4 x5 x6 x7).run
theorem ft_laws_eqPlace (n : Nat) (x0 : Int) (x1 : Int) (x2 : Bool) (x3 : Bool) (x4 : Int) (x5 : Int) (x6 : Bool) (x7 : Bool) : funT (CT_laws_eqPlace n) (LT_laws_eqPlace n) K_laws_eqPlace (A_laws_eqPlace x0 x1 x2 x3 x4 x5 x6 x7) (U_laws_eqPlace x0 x1 x2 x3 x4 x5 x6 x7) = (T_laws_eqPlace n x0 x1 x2 x3 x4 x5 x6 x7).bind fun r => .done (O_laws_eqPlace r) := by kernel_rfl
theorem ct_laws_eqPlace (n : Nat) : CTok (CT_laws_eqPlace n) (runs KP lib n) := mkCT_cons (eo_laws_eqRef n (noEnt_ok)) (mkCT_nil)
theorem th_laws_eqPlace : ∀ (n : Nat) (x0 : Int) (x1 : Int) (x2 : Bool) (x3 : Bool) (x4 : Int) (x5 : Int) (x6 : Bool) (x7 : Bool) (r : Bool), F_laws_eqPlace n x0 x1 x2 x3 x4 x5 x6 x7 = some r → runs KP lib n 12 (A_laws_eqPlace x0 x1 x2 x3 x4 x5 x6 x7) (U_laws_eqPlace x0 x1 x2 x3 x4 x5 x6 x7) = some (O_laws_eqPlace r)
  | 0, x0, x1, x2, x3, x4, x5, x6, x7, r, h => by cases h
  | n + 1, x0, x1, x2, x3, x4, x5, x6, x7, r, h => fun_step (kf := K_laws_eqPlace) rfl (ct_laws_eqPlace n) (noLoops rfl) (ft_laws_eqPlace n x0 x1 x2 x3 x4 x5 x6 x7) h
def FH_laws_eqPlace (n : Nat) : Cont → Option (Bool)
  | ([[[.i x0], [.i x1], [.b x2], [.b x3]], [[.i x4], [.i x5], [.b x6], [.b x7]]], []) => F_laws_eqPlace n x0 x1 x2 x3 x4 x5 x6 x7
  | _ => none
def E_laws_eqPlace (n : Nat) (d : List AV → List Go.Eng.Frame → Tr Res) : List AV → List Go.Eng.Frame → Tr Res := cent (A_laws_eqPlace (0) (0) (false) (false) (0) (0) (false) (false)) (U_laws_eqPlace (0) (0) (false) (false) (0) (0) (false) (false)) (FH_laws_eqPlace n) O_laws_eqPlace d
theorem eo_laws_eqPlace (n : Nat) {d : List AV → List Go.Eng.Frame → Tr Res} (hd : ∀ ar up r, (d ar up).run = some r → runs KP lib n 12 ar up = some r) : ∀ ar up r, (E_laws_eqPlace n d ar up).run = some r → runs KP lib n 12 ar up = some r :=
  cent_ok (fun hs r h => by
    unfold FH_laws_eqPlace at h
    split at h
    · exact ⟨A_laws_eqPlace _ _ _ _ _ _ _ _, U_laws_eqPlace _ _ _ _ _ _ _ _, rfl, rfl, th_laws_eqPlace n _ _ _ _ _ _ _ _ r h⟩
    · cases h) hd
/-! ### laws.eqInt64S -/
def A_laws_eqInt64S (x0 : List (List PV)) (x1 : List (List PV)) : List AV := [(.c (.p (.ls x0))), (.c (.p (.ls x1)))]
def U_laws_eqInt64S (x0 : List (List PV)) (x1 : List (List PV)) : List Go.Eng.Frame := []
def O_laws_eqInt64S (r : Bool) : Res := ⟨(.c (.p (.b r))), [], []⟩
abbrev CT_laws_eqInt64S (n : Nat) : CTab := mkCT []
def S_laws_eqInt64S_29 (v : (List (List PV)) × (List (List PV)) × Int) : St := ⟨[(0, (.c (.p (.ls v.1)))), (1, (.c (.p (.ls v.2.1)))), (5, (.c (.p (.i .i64 v.2.2))))], [], []⟩
def B_laws_eqInt64S_29 (n : Nat) (v : (List (List PV)) × (List (List PV)) × Int) : Tr (((List (List PV)) × (List (List PV)) × Int) ⊕ ((Bool) ⊕ (Unit))) := (.ask ((decide (v.2.2 < (v.1.length : Int)))) (.ask (decide (0 ≤ v.2.2 ∧ v.2.2 < v.1.length)) (.opt (v.1[(v.2.2).toNat]?) fun e345 => (.ask (decide (e345.length = 1)) (.opt (cellI .i64 e345 0) fun y346 => (.ask (decide (0 ≤ v.2.2 ∧ v.2.2 < v.2.1.length)) (.opt (v.2.1[(v.2.2).toNat]?) fun e347 => (.ask (decide (e347.length = 1)) (.opt (cellI .i64 e347 0) fun y348 => (.ask ((y346 != y348)) (.done (.inr (.inl (false)))) (.done (.inl (v.1, v.2.1, (IntKind.i64.wrap (v.2.2 + (1 : Int)))))))) .fail)) .fail)) .fail)) .fail) (.done (.inr (.inr (())))))
def D_laws_eqInt64S_29 : ((Bool) ⊕ (Unit)) → Ex × St := fun | .inl r => (.ret, ⟨[(4, (.c (.p (.b r))))], [], []⟩) | .inr r => (fun r => ((.exit 0), ⟨[], [], []⟩)) r
def DT_laws_eqInt64S_29 : ((Bool) ⊕ (Unit)) → Tr (Ex × St) := fun r => .alt r (fun r => .done (.ret, ⟨[(4, (.c (.p (.b r))))], [], []⟩)) (fun r => .done ((.exit 0), ⟨[], [], []⟩))
def VH_laws_eqInt64S_29 : Cont3 → Option ((List (List PV)) × (List (List PV)) × Int)
  | ([[[.r w0]], [[.r w1]], [[.i w2]]], [], []) => some (w0, w1, w2)
  | _ => none
abbrev LE_laws_eqInt64S_29 (n : Nat) : St → Tr (Ex × St) := lent (S_laws_eqInt64S_29 ([], [], 0)) VH_laws_eqInt64S_29 (B_laws_eqInt64S_29 n) DT_laws_eqInt64S_29 n
abbrev LT_laws_eqInt64S (n : Nat) : LTab := mkLT [(29, LE_laws_eqInt64S_29 n)]
def T_laws_eqInt64S (n : Nat) (x0 : List (List PV)) (x1 : List (List PV)) : Tr (Bool) := (.ask (((x0.length : Int) != (x1.length : Int))) (.done false) (.opt (loopF (B_laws_eqInt64S_29 n) n (x0, x1, (0 : Int))) fun r349 => (.alt r349 (fun r350 => (.done r350)) (fun r351 => (.done true)))))
def F_laws_eqInt64S : Nat → List (List PV) → List (List PV) → Option (Bool)
  | 0, _, _ => none
  | n + 1, x0, x1 => (T_laws_eqInt64S n x0 x1).run
theorem ft_laws_eqInt64S (n : Nat) (x0 : List (List PV)) (x1 : List (List PV)) : funT (CT_laws_eqInt64S n) (LT_laws_eqInt64S n) K_laws_eqInt64S (A_laws_eqInt64S x0 x1) (U_laws_eqInt64S x0 x1) = (T_laws_eqInt64S n x0 x1).bind fun r => .done (O_laws_eqInt64S r) := by kernel_rfl
theorem ct_laws_eqInt64S (n : Nat) : CTok (CT_laws_eqInt64S n) (runs KP lib n) := mkCT_nil
theorem lt_laws_eqInt64S_29 (n : Nat) (v : (List (List PV)) × (List (List PV)) × Int) : (evalCT (CT_laws_eqInt64S n) (mkLT []) K_laws_eqInt64S_L29 (S_laws_eqInt64S_29 v) []).bind (ltail [0, 1, 5] [(.ret, [4]), ((.exit 0), [])]) = (B_laws_eqInt64S_29 n v).bind (lenc S_laws_eqInt64S_29 D_laws_eqInt64S_29) := by
  obtain ⟨w0, w1, w2⟩ := v
  kernel_rfl
theorem le_laws_eqInt64S_29 (n : Nat) : LEok (runs KP lib n) n (29, [0, 1, 5], [(.ret, [4]), ((.exit 0), [])], K_laws_eqInt64S_L29) (LE_laws_eqInt64S_29 n) := fun st e s h =>
  lent_ok (ct_laws_eqInt64S n) (noLoops rfl) (lt_laws_eqInt64S_29 n) (fun r => by
    rcases r with r | r <;> (intro h; cases h)) (fun r y h => by
    rcases r with r | r <;> (cases h; rfl)) (fun hs v h => by
    unfold VH_laws_eqInt64S_29 at h
    split at h <;> cases h
    rfl) h
theorem lo_laws_eqInt64S (n : Nat) : LTok (LT_laws_eqInt64S n) (runs KP lib n) n K_laws_eqInt64S.body := mkLT_ok (by
  intro x hx
  have hx : x ∈ ([(29, [0, 1, 5], [(.ret, [4]), ((.exit 0), [])], K_laws_eqInt64S_L29)] : List (Nat × List Nat × List (Ex × List Nat) × KCode)) := hx
  simp only [List.mem_cons, List.not_mem_nil, or_false] at hx
  rcases hx with rfl
  · exact ⟨LE_laws_eqInt64S_29 n, fun st => rfl, le_laws_eqInt64S_29 n⟩)
theorem th_laws_eqInt64S : ∀ (n : Nat) (x0 : List (List PV)) (x1 : List (List PV)) (r : Bool), F_laws_eqInt64S n x0 x1 = some r → runs KP lib n 84 (A_laws_eqInt64S x0 x1) (U_laws_eqInt64S x0 x1) = some (O_laws_eqInt64S r)
  | 0, x0, x1, r, h => by cases h
  | n + 1, x0, x1, r, h => fun_step (kf := K_laws_eqInt64S) rfl (ct_laws_eqInt64S n) (lo_laws_eqInt64S n) (ft_laws_eqInt64S n x0 x1) h
def FH_laws_eqInt64S (n : Nat) : Cont → Option (Bool)
  | ([[[.r x0]], [[.r x1]]], []) => F_laws_eqInt64S n x0 x1
  | _ => none
def E_laws_eqInt64S (n : Nat) (d : List AV → List Go.Eng.Frame → Tr Res) : List AV → List Go.Eng.Frame → Tr Res := cent (A_laws_eqInt64S ([]) ([])) (U_laws_eqInt64S ([]) ([])) (FH_laws_eqInt64S n) O_laws_eqInt64S d
theorem eo_laws_eqInt64S (n : Nat) {d : List AV → List Go.Eng.Frame → Tr Res} (hd : ∀ ar up r, (d ar up).run = some r → runs KP lib n 84 ar up = some r) : ∀ ar up r, (E_laws_eqInt64S n d ar up).run = some r → runs KP lib n 84 ar up = some r :=
  cent_ok (fun hs r h => by
    unfold FH_laws_eqInt64S at h
    split at h
    · exact ⟨A_laws_eqInt64S _ _, U_laws_eqInt64S _ _, rfl, rfl, th_laws_eqInt64S n _ _ r h⟩
    · cases h) hd
/-! ### laws.eqFNode -/
def A_laws_eqFNode (x0 : Int) (x1 : Int) (x2 : Int) (x3 : Int) (x4 : ByteArray) (x5 : Int) (x6 : Int) (x7 : Bool) (x8 : Bool) (x9 : Int) (x10 : Int) (x11 : Bool) (x12 : Bool) (x13 : List (List PV)) (x14 : Int) (x15 : Int) (x16 : Int) (x17 : Int) (x18 : ByteArray) (x19 : Int) (x20 : Int) (x21 : Bool) (x22 : Bool) (x23 : Int) (x24 : Int) (x25 : Bool) (x26 : Bool) (x27 : List (List PV)) : List AV := [(.agg [(.p (.i .i64 x0)), (.p (.i .i64 x1)), (.p (.i .i64 x2)), (.p (.i .i64 x3)), (.p (.s x4)), (.p (.i .i64 x5)), (.p (.i .i64 x6)), (.p (.b x7)), (.p (.b x8)), (.p (.i .i64 x9)), (.p (.i .i64 x10)), (.p (.b x11)), (.p (.b x12)), (.p (.ls x13))]), (.agg [(.p (.i .i64 x14)), (.p (.i .i64 x15)), (.p (.i .i64 x16)), (.p (.i .i64 x17)), (.p (.s x18)), (.p (.i .i64 x19)), (.p (.i .i64 x20)), (.p (.b x21)), (.p (.b x22)), (.p (.i .i64 x23)), (.p (.i .i64 x24)), (.p (.b x25)), (.p (.b x26)), (.p (.ls x27))])]
def U_laws_eqFNode (x0 : Int) (x1 : Int) (x2 : Int) (x3 : Int) (x4 : ByteArray) (x5 : Int) (x6 : Int) (x7 : Bool) (x8 : Bool) (x9 : Int) (x10 : Int) (x11 : Bool) (x12 : Bool) (x13 : List (List PV)) (x14 : Int) (x15 : Int) (x16 : Int) (x17 : Int) (x18 : ByteArray) (x19 : Int) (x20 : Int) (x21 : Bool) (x22 : Bool) (x23 : Int) (x24 : Int) (x25 : Bool) (x26 : Bool) (x27 : List (List PV)) : List Go.Eng.Frame := []
def O_laws_eqFNode (r : Bool) : Res := ⟨(.c (.p (.b r))), [], []⟩
abbrev CT_laws_eqFNode (n : Nat) : CTab := mkCT [(83, E_laws_eqValue n (noEnt)), (12, E_laws_eqPlace n (noEnt)), (84, E_laws_eqInt64S n (noEnt))]
abbrev LT_laws_eqFNode (n : Nat) : LTab := mkLT []
def T_laws_eqFNode (n : Nat) (x0 : Int) (x1 : Int) (x2 : Int) (x3 : Int) (x4 : ByteArray) (x5 : Int) (x6 : Int) (x7 : Bool) (x8 : Bool) (x9 : Int) (x10 : Int) (x11 : Bool) (x12 : Bool) (x13 : List (List PV)) (x14 : Int) (x15 : Int) (x16 : Int) (x17 : Int) (x18 : ByteArray) (x19 : Int) (x20 : Int) (x21 : Bool) (x22 : Bool) (x23 : Int) (x24 : Int) (x25 : Bool) (x26 : Bool) (x27 : List (List PV)) : Tr (Bool) := (.ask ((x0 != x14)) (.done false) (.ask ((x1 != x15)) (.done false) (.opt (F_laws_eqValue n x2 x3 x4 x16 x17 x18) fun r341 => (.ask ((!r341)) (.done false) (.opt (F_laws_eqPlace n x5 x6 x7 x8 x19 x20 x21 x22) fun r343 => (.ask ((!r343)) (.done false) (.opt (F_laws_eqPlace n x9 x10 x11 x12 x23 x24 x25 x26) fun r344 => (.ask ((!r344)) (.done false) (.opt (F_laws_eqInt64S n x13 x27) fun r352 => (.ask ((!r352)) (.done false) (.done true)))))))))))
def F_laws_eqFNode : Nat → Int → Int → Int → Int → ByteArray → Int → Int → Bool → Bool → Int → Int → Bool → Bool → List (List PV) → Int → Int → Int → Int → ByteArray → Int → Int → Bool → Bool → Int → Int → Bool → Bool → List (List PV) → Option (Bool)
  | 0, _, _, _, _, _, _, _, _, _, _, _, _, _, _, _, _, _, _, _, _, _, _, _, _, _, _, _, _ => none
  | n + 1, x0, x1, x2, x3, x4, x5, x6, x7, x8, x9, x10, x11, x12, x13, x14, x15, x16, x17, x18, x19, x20, x21, x22, x23, x24, x25, x26, x27 => (T_laws_eqFNode n x0 x1 x2 x3 x4 x5 x6 x7 x8 x9 x10 x11 x12 x13 x14 x15 x16 x17 x18 x19 x20 x21 x22 x23 x24 x25 x26 x27).run
theorem ft_laws_eqFNode (n : Nat) (x0 : Int) (x1 : Int) (x2 : Int) (x3 : Int) (x4 : ByteArray) (x5 : Int) (x6 : Int) (x7 : Bool) (x8 : Bool) (x9 : Int) (x10 : Int) (x11 : Bool) (x12 : Bool) (x13 : List (List PV)) (x14 : Int) (x15 : Int) (x16 : Int) (x17 : Int) (x18 : ByteArray) (x19 : Int) (x20 : Int) (x21 : Bool) (x22 : Bool) (x23 : Int) (x24 : Int) (x25 : Bool) (x26 : Bool) (x27 : List (List PV)) : funT (CT_laws_eqFNode n) (LT_laws_eqFNode n) K_laws_eqFNode (A_laws_eqFNode x0 x1 x2 x3 x4 x5 x6 x7 x8 x9 x10 x11 x12 x13 x14 x15 x16 x17 x18 x19 x20 x21 x22 x23 x24 x25 x26 x27) (U_laws_eqFNode x0 x1 x2 x3 x4 x5 x6 x7 x8 x9 x10 x11 x12 x13 x14 x15 x16 x17 x18 x19 x20 x21 x22 x23 x24 x25 x26 x27) = (T_laws_eqFNode n x0 x1 x2 x3 x4 x5 x6 x7 x8 x9 x10 x11 x12 x13 x14 x15 x16 x17 x18 x19 x20 x21 x22 x23 x24 x25 x26 x27).bind fun r => .done (O_laws_eqFNode r) := by kernel_rfl
theorem ct_laws_eqFNode (n : Nat) : CTok (CT_laws_eqFNode n) (runs KP lib n) := mkCT_cons (eo_laws_eqValue n (noEnt_ok)) (mkCT_cons (eo_laws_eqPlace n (noEnt_ok)) (mkCT_cons (eo_laws_eqInt64S n (noEnt_ok)) (mkCT_nil)))
theorem th_laws_eqFNode : ∀ (n : Nat) (x0 : Int) (x1 : Int) (x2 : Int) (x3 : Int) (x4 : ByteArray) (x5 : Int) (x6 : Int) (x7 : Bool) (x8 : Bool) (x9 : Int) (x10 : Int) (x11 : Bool) (x12 : Bool) (x13 : List (List PV)) (x14 : Int) (x15 : Int) (x16 : Int) (x17 : Int) (x18 : ByteArray) (x19 : Int) (x20 : Int) (x21 : Bool) (x22 : Bool) (x23 : Int) (x24 : Int) (x25 : Bool) (x26 : Bool) (x27 : List (List PV)) (r : Bool), F_laws_eqFNode n x0 x1 x2 x3 x4 x5 x6 x7 x8 x9 x10 x11 x12 x13 x14 x15 x16 x17 x18 x19 x20 x21 x22 x23 x24 x25 x26 x27 = some r → runs KP lib n 51 (A_laws_eqFNode x0 x1 x2 x3 x4 x5 x6 x7 x8 x9 x10 x11 x12 x13 x14 x15 x16 x17 x18 x19 x20 x21 x22 x23 x24 x25 x26 x27) (U_laws_eqFNode x0 x1 x2 x3 x4 x5 x6 x7 x8 x9 x10 x11 x12 x13 x14 x15 x16 x17 x18 x19 x20 x21 x22 x23 x24 x25 x26 x27) = some (O_laws_eqFNode r)
  | 0, x0, x1, x2, x3, x4, x5, x6, x7, x8, x9, x10, x11, x12, x13, x14, x15, x16, x17, x18, x19, x20, x21, x22, x23, x24, x25, x26, x27, r, h => by cases h
  | n + 1, x0, x1, x2, x3, x4, x5, x6, x7, x8, x9, x10, x11, x12, x13, x14, x15, x16, x17, x18, x19, x20, x21, x22, x23, x24, x25, x26, x27, r, h => fun_step (kf := K_laws_eqFNode) rfl (ct_laws_eqFNode n) (noLoops rfl) (ft_laws_eqFNode n x0 x1 x2 x3 x4 x5 x6 x7 x8 x9 x10 x11 x12 x13 x14 x15 x16 x17 x18 x19 x20 x21 x22 x23 x24 x25 x26 x27) h
def FH_laws_eqFNode (n : Nat) : Cont → Option (Bool)
  | ([[[.i x0], [.i x1], [.i x2], [.i x3], [.s x4], [.i x5], [.i x6], [.b x7], [.b x8], [.i x9], [.i x10], [.b x11], [.b x12], [.r x13]], [[.i x14], [.i x15], [.i x16], [.i x17], [.s x18], [.i x19], [.i x20], [.b x21], [.b x22], [.i x23], [.i x24], [.b x25], [.b x26], [.r x27]]], []) => F_laws_eqFNode n x0 x1 x2 x3 x4 x5 x6 x7 x8 x9 x10 x11 x12 x13 x14 x15 x16 x17 x18 x19 x20 x21 x22 x23 x24 x25 x26 x27
  | _ => none
def E_laws_eqFNode (n : Nat) (d : List AV → List Go.Eng.Frame → Tr Res) : List AV → List Go.Eng.Frame → Tr Res := cent (A_laws_eqFNode (0) (0) (0) (0) (⟨#[]⟩) (0) (0) (false) (false) (0) (0) (false) (false) ([]) (0) (0) (0) (0) (⟨#[]⟩) (0) (0) (false) (false) (0) (0) (false) (false) ([])) (U_laws_eqFNode (0) (0) (0) (0) (⟨#[]⟩) (0) (0) (false) (false) (0) (0) (false) (false) ([]) (0) (0) (0) (0) (⟨#[]⟩) (0) (0) (false) (false) (0) (0) (false) (false) ([])) (FH_laws_eqFNode n) O_laws_eqFNode d
theorem eo_laws_eqFNode (n : Nat) {d : List AV → List Go.Eng.Frame → Tr Res} (hd : ∀ ar up r, (d ar up).run = some r → runs KP lib n 51 ar up = some r) : ∀ ar up r, (E_laws_eqFNode n d ar up).run = some r → runs KP lib n 51 ar up = some r :=
  cent_ok (fun hs r h => by
    unfold FH_laws_eqFNode at h
    split at h
    · exact ⟨A_laws_eqFNode _ _ _ _ _ _ _ _ _ _ _ _ _ _ _ _ _ _ _ _ _ _ _ _ _ _ _ _, U_laws_eqFNode _ _ _ _ _ _ _ _ _ _ _ _ _ _ _ _ _ _ _ _ _ _ _ _ _ _ _ _, rfl, rfl, th_laws_eqFNode n _ _ _ _ _ _ _ _ _ _ _ _ _ _ _ _ _ _ _ _ _ _ _ _ _ _ _ _ r h⟩
    · cases h) hd
/-! ### laws.eqFNodeS -/
def A_laws_eqFNodeS (x0 : List (List PV)) (x1 : List (List PV)) : List AV := [(.c (.p (.ls x0))), (.c (.p (.ls x1)))]
def U_laws_eqFNodeS (x0 : List (List PV)) (x1 : List (List PV)) : List Go.Eng.Frame := []
def O_laws_eqFNodeS (r : Bool) : Res := ⟨(.c (.p (.b r))), [], []⟩
abbrev CT_laws_eqFNodeS (n : Nat) : CTab := mkCT [(51, E_laws_eqFNode n (noEnt))]
def S_laws_eqFNodeS_29 (v : (List (List PV)) × (List (List PV)) × Int) : St := ⟨[(0, (.c (.p (.ls v.1)))), (1, (.c (.p (.ls v.2.1)))), (5, (.c (.p (.i .i64 v.2.2))))], [], []⟩
def B_laws_eqFNodeS_29 (n : Nat) (v : (List (List PV)) × (List (List PV)) × Int) : Tr (((List (List PV)) × (List (List PV)) × Int) ⊕ ((Bool) ⊕ (Unit))) := (.ask ((decide (v.2.2 < (v.1.length : Int)))) (.ask (decide (0 ≤ v.2.2 ∧ v.2.2 < v.1.length)) (.opt (v.1[(v.2.2).toNat]?) fun e311 => (.ask (decide (e311.length = 14)) (.opt (cellI .i64 e311 0) fun y312 => (.opt (cellI .i64 e311 1) fun y313 => (.opt (cellI .i64 e311 2) fun y314 => (.opt (cellI .i64 e311 3) fun y315 => (.opt (cellS e311 4) fun y316 => (.opt (cellI .i64 e311 5) fun y317 => (.opt (cellI .i64 e311 6) fun y318 => (.opt (cellB e311 7) fun y319 => (.opt (cellB e311 8) fun y320 => (.opt (cellI .i64 e311 9) fun y321 => (.opt (cellI .i64 e311 10) fun y322 => (.opt (cellB e311 11) fun y323 => (.opt (cellB e311 12) fun y324 => (.opt (cellL e311 13) fun y325 => (.ask (decide (0 ≤ v.2.2 ∧ v.2.2 < v.2.1.length)) (.opt (v.2.1[(v.2.2).toNat]?) fun e326 => (.ask (decide (e326.length = 14)) (.opt (cellI .i64 e326 0) fun y327 => (.opt (cellI .i64 e326 1) fun y328 => (.opt (cellI .i64 e326 2) fun y329 => (.opt (cellI .i64 e326 3) fun y330 => (.opt (cellS e326 4) fun y331 => (.opt (cellI .i64 e326 5) fun y332 => (.opt (cellI .i64 e326 6) fun y333 => (.opt (cellB e326 7) fun y334 => (.opt (cellB e326 8) fun y335 => (.opt (cellI .i64 e326 9) fun y336 => (.opt (cellI .i64 e326 10) fun y337 => (.opt (cellB e326 11) fun y338 => (.opt (cellB e326 12) fun y339 => (.opt (cellL e326 13) fun y340 => (.opt (F_laws_eqFNode n y312 y313 y314 y315 y316 y317 y318 y319 y320 y321 y322 y323 y324 y325 y327 y328 y329 y330 y331 y332 y333 y334 y335 y336 y337 y338 y339 y340) fun r341 => (.ask ((!r341)) (.done (.inr (.inl (false)))) (.done (.inl (v.1, v.2.1, (IntKind.i64.wrap (v.2.2 + (1 : Int)))))))))))))))))))))) .fail)) .fail))))))))))))))) .fail)) .fail) (.done (.inr (.inr (())))))
def D_laws_eqFNodeS_29 : ((Bool) ⊕ (Unit)) → Ex × St := fun | .inl r => (.ret, ⟨[(4, (.c (.p (.b r))))], [], []⟩) | .inr r => (fun r => ((.exit 0), ⟨[], [], []⟩)) r
def DT_laws_eqFNodeS_29 : ((Bool) ⊕ (Unit)) → Tr (Ex × St) := fun r => .alt r (fun r => .done (.ret, ⟨[(4, (.c (.p (.b r))))], [], []⟩)) (fun r => .done ((.exit 0), ⟨[], [], []⟩))
def VH_laws_eqFNodeS_29 : Cont3 → Option ((List (List PV)) × (List (List PV)) × Int)
  | ([[[.r w0]], [[.r w1]], [[.i w2]]], [], []) => some (w0, w1, w2)
  | _ => none
abbrev LE_laws_eqFNodeS_29 (n : Nat) : St → Tr (Ex × St) := lent (S_laws_eqFNodeS_29 ([], [], 0)) VH_laws_eqFNodeS_29 (B_laws_eqFNodeS_29 n) DT_laws_eqFNodeS_29 n
abbrev LT_laws_eqFNodeS (n : Nat) : LTab := mkLT [(29, LE_laws_eqFNodeS_29 n)]
def T_laws_eqFNodeS (n : Nat) (x0 : List (List PV)) (x1 : List (List PV)) : Tr (Bool) := (.ask (((x0.length : Int) != (x1.length : Int))) (.done false) (.opt (loopF (B_laws_eqFNodeS_29 n) n (x0, x1, (0 : Int))) fun r342 => (.alt r342 (fun r343 => (.done r343)) (fun r344 => (.done true)))))
def F_laws_eqFNodeS : Nat → List (List PV) → List (List PV) → Option (Bool)
  | 0, _, _ => none
  | n + 1, x0, x1 => (T_laws_eqFNodeS n x0 x1).run
theorem ft_laws_eqFNodeS (n : Nat) (x0 : List (List PV)) (x1 : List (List PV)) : funT (CT_laws_eqFNodeS n) (LT_laws_eqFNodeS n) K_laws_eqFNodeS (A_laws_eqFNodeS x0 x1) (U_laws_eqFNodeS x0 x1) = (T_laws_eqFNodeS n x0 x1).bind fun r => .done (O_laws_eqFNodeS r) := by kernel_rfl
theorem ct_laws_eqFNodeS (n : Nat) : CTok (CT_laws_eqFNodeS n) (runs KP lib n) := mkCT_cons (eo_laws_eqFNode n (noEnt_ok)) (mkCT_nil)
theorem lt_laws_eqFNodeS_29 (n : Nat) (v : (List (List PV)) × (List (List PV)) × Int) : (evalCT (CT_laws_eqFNodeS n) (mkLT []) K_laws_eqFNodeS_L29 (S_laws_eqFNodeS_29 v) []).bind (ltail [0, 1, 5] [(.ret, [4]), ((.exit 0), [])]) = (B_laws_eqFNodeS_29 n v).bind (lenc S_laws_eqFNodeS_29 D_laws_eqFNodeS_29) := by
  obtain ⟨w0, w1, w2⟩ := v
  kernel_rfl
theorem le_laws_eqFNodeS_29 (n : Nat) : LEok (runs KP lib n) n (29, [0, 1, 5], [(.ret, [4]), ((.exit 0), [])], K_laws_eqFNodeS_L29) (LE_laws_eqFNodeS_29 n) := fun st e s h =>
  lent_ok (ct_laws_eqFNodeS n) (noLoops rfl) (lt_laws_eqFNodeS_29 n) (fun r => by
    rcases r with r | r <;> (intro h; cases h)) (fun r y h => by
    rcases r with r | r <;> (cases h; rfl)) (fun hs v h => by
    unfold VH_laws_eqFNodeS_29 at h
    split at h <;> cases h
    rfl) h
theorem lo_laws_eqFNodeS (n : Nat) : LTok (LT_laws_eqFNodeS n) (runs KP lib n) n K_laws_eqFNodeS.body := mkLT_ok (by
  intro x hx
  have hx : x ∈ ([(29, [0, 1, 5], [(.ret, [4]), ((.exit 0), [])], K_laws_eqFNodeS_L29)] : List (Nat × List Nat × List (Ex × List Nat) × KCode)) := hx
  simp only [List.mem_cons, List.not_mem_nil, or_false] at hx
  rcases hx with rfl
  · exact ⟨LE_laws_eqFNodeS_29 n, fun st => rfl, le_laws_eqFNodeS_29 n⟩)
theorem th_laws_eqFNodeS : ∀ (n : Nat) (x0 : List (List PV)) (x1 : List (List PV)) (r : Bool), F_laws_eqFNodeS n x0 x1 = some r → runs KP lib n 27 (A_laws_eqFNodeS x0 x1) (U_laws_eqFNodeS x0 x1) = some (O_laws_eqFNodeS r)
  | 0, x0, x1, r, h => by cases h
  | n + 1, x0, x1, r, h => fun_step (kf := K_laws_eqFNodeS) rfl (ct_laws_eqFNodeS n) (lo_laws_eqFNodeS n) (ft_laws_eqFNodeS n x0 x1) h
def FH_laws_eqFNodeS (n : Nat) : Cont → Option (Bool)
  | ([[[.r x0]], [[.r x1]]], []) => F_laws_eqFNodeS n x0 x1
  | _ => none
def E_laws_eqFNodeS (n : Nat) (d : List AV → List Go.Eng.Frame → Tr Res) : List AV → List Go.Eng.Frame → Tr Res := cent (A_laws_eqFNodeS ([]) ([])) (U_laws_eqFNodeS ([]) ([])) (FH_laws_eqFNodeS n) O_laws_eqFNodeS d
theorem eo_laws_eqFNodeS (n : Nat) {d : List AV → List Go.Eng.Frame → Tr Res} (hd : ∀ ar up r, (d ar up).run = some r → runs KP lib n 27 ar up = some r) : ∀ ar up r, (E_laws_eqFNodeS n d ar up).run = some r → runs KP lib n 27 ar up = some r :=
  cent_ok (fun hs r h => by
    unfold FH_laws_eqFNodeS at h
    split at h
    · exact ⟨A_laws_eqFNodeS _ _, U_laws_eqFNodeS _ _, rfl, rfl, th_laws_eqFNodeS n _ _ r h⟩
    · cases h) hd
/-! ### laws.FnExactFormulaText -/
def A_laws_FnExactFormulaText (x0 : List (List PV)) : List AV := [(.c (.p (.ls x0)))]
def U_laws_FnExactFormulaText (x0 : List (List PV)) : List Go.Eng.Frame := []
def O_laws_FnExactFormulaText (r : Bool) : Res := ⟨(.c (.p (.b r))), [], []⟩
abbrev CT_laws_FnExactFormulaText (n : Nat) : CTab := mkCT [(23, E_laws_szFNodeS n (noEnt)), (25, E_laws_toFNodeS n (noEnt)), (24, E_spec_FormulaText n (noEnt)), (26, E_impl_FormulaText n (noEnt)), (27, E_laws_eqFNodeS n (noEnt))]
abbrev LT_laws_FnExactFormulaText (n : Nat) : LTab := mkLT []
def T_laws_FnExactFormulaText (n : Nat) (x0 : List (List PV)) : Tr (Bool) := (.opt (F_laws_szFNodeS n x0 (1048576 : Int)) fun r20 => (.ask ((decide (r20 < (0 : Int)))) (.done true) (.opt (F_laws_toFNodeS n x0) fun r39 => (.ask (decide (r39.1 = r39.2.length)) (.opt (F_spec_FormulaText n r39.2) fun r176 => (.ask (apartR (⟨(.c (.p (.s r176))), [], []⟩ : Res)) (.opt (F_laws_toFNodeS n x0) fun r177 => (.ask (decide (r177.1 = r177.2.length)) (.opt (F_impl_FormulaText n r177.2) fun r309 => (.ask (apartR (⟨(.c (.p (.s r309))), [], []⟩ : Res)) (.ask ((!(r309.toList == r176.toList))) (.done false) (.opt (F_laws_toFNodeS n x0) fun r310 => (.ask (decide (r177.1 = r177.2.length)) (.ask (decide (r310.1 = r310.2.length)) (.opt (F_laws_eqFNodeS n r177.2 r310.2) fun r345 => (.ask (apartR (⟨(.c (.p (.b r345))), [], []⟩ : Res)) (.ask ((!r345)) (.done false) (.done true)) .fail)) .fail) .fail))) .fail)) .fail)) .fail)) .fail))))
def F_laws_FnExactFormulaText : Nat → List (List PV) → Option (Bool)
  | 0, _ => none
  | n + 1, x0 => (T_laws_FnExactFormulaText n x0).run
theorem ft_laws_FnExactFormulaText (n : Nat) (x0 : List (List PV)) : funT (CT_laws_FnExactFormulaText n) (LT_laws_FnExactFormulaText n) K_laws_FnExactFormulaText (A_laws_FnExactFormulaText x0) (U_laws_FnExactFormulaText x0) = (T_laws_FnExactFormulaText n x0).bind fun r => .done (O_laws_FnExactFormulaText r) := by kernel_rfl
theorem ct_laws_FnExactFormulaText (n : Nat) : CTok (CT_laws_FnExactFormulaText n) (runs KP lib n) := mkCT_cons (eo_laws_szFNodeS n (noEnt_ok)) (mkCT_cons (eo_laws_toFNodeS n (noEnt_ok)) (mkCT_cons (eo_spec_FormulaText n (noEnt_ok)) (mkCT_cons (eo_impl_FormulaText n (noEnt_ok)) (mkCT_cons (eo_laws_eqFNodeS n (noEnt_ok)) (mkCT_nil)))))
theorem th_laws_FnExactFormulaText : ∀ (n : Nat) (x0 : List (List PV)) (r : Bool), F_laws_FnExactFormulaText n x0 = some r → runs KP lib n 6 (A_laws_FnExactFormulaText x0) (U_laws_FnExactFormulaText x0) = some (O_laws_FnExactFormulaText r)
  | 0, x0, r, h => by cases h
  | n + 1, x0, r, h => fun_step (kf := K_laws_FnExactFormulaText) rfl (ct_laws_FnExactFormulaText n) (noLoops rfl) (ft_laws_FnExactFormulaText n x0) h
def FH_laws_FnExactFormulaText (n : Nat) : Cont → Option (Bool)
  | ([[[.r x0]]], []) => F_laws_FnExactFormulaText n x0
  | _ => none
def E_laws_FnExactFormulaText (n : Nat) (d : List AV → List Go.Eng.Frame → Tr Res) : List AV → List Go.Eng.Frame → Tr Res := cent (A_laws_FnExactFormulaText ([])) (U_laws_FnExactFormulaText ([])) (FH_laws_FnExactFormulaText n) O_laws_FnExactFormulaText d
theorem eo_laws_FnExactFormulaText (n : Nat) {d : List AV → List Go.Eng.Frame → Tr Res} (hd : ∀ ar up r, (d ar up).run = some r → runs KP lib n 6 ar up = some r) : ∀ ar up r, (E_laws_FnExactFormulaText n d ar up).run = some r → runs KP lib n 6 ar up = some r :=
  cent_ok (fun hs r h => by
    unfold FH_laws_FnExactFormulaText at h
    split at h
    · exact ⟨A_laws_FnExactFormulaText _, U_laws_FnExactFormulaText _, rfl, rfl, th_laws_FnExactFormulaText n _ r h⟩
    · cases h) hd
end Go.Proofs.YtaannlnlddbgdabDoor.KFnExactFormulaText
