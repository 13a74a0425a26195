/-
  The trees of what FnExactReadPlace calls: plain functions, and that the engine reckons just these. No condition.
-/
import Derived.Test.YtaannlnlddbgdabDoorKFnExactReadPlace
import Derived.Test.YtaannlnlddbgdabDoorE33
import Derived.KernelRfl
namespace Go.Proofs.YtaannlnlddbgdabDoor.KFnExactReadPlace
open Go.Eng
set_option linter.unusedVariables false
set_option maxRecDepth 100000
def lib : FuncId → List AV → Option AV := libCons 33 Q_strings_CutPrefix (libCons 34 Q_strings_TrimLeft (libCons 35 Q_strconv_ParseInt (libCons 52 Q_strconv_FormatInt (libNil))))
/-! ### spec.l1In -/
def A_spec_l1In (x0 : Int) (x1 : Int) (x2 : Int) : List AV := [(.c (.p (.i .i64 x0))), (.c (.p (.i .i64 x1))), (.c (.p (.i .i64 x2)))]
def U_spec_l1In (x0 : Int) (x1 : Int) (x2 : Int) : List Go.Eng.Frame := []
def O_spec_l1In (r : Bool) : Res := ⟨(.c (.p (.b r))), [], []⟩
abbrev CT_spec_l1In (n : Nat) : CTab := mkCT []
abbrev LT_spec_l1In (n : Nat) : LTab := mkLT []
def T_spec_l1In (n : Nat) (x0 : Int) (x1 : Int) (x2 : Int) : Tr (Bool) := (.ask ((decide (x0 ≥ x1))) (.done (decide (x0 ≤ x2))) (.done false))
def F_spec_l1In : Nat → Int → Int → Int → Option (Bool)
  | 0, _, _, _ => none
  | n + 1, x0, x1, x2 => (T_spec_l1In n x0 x1 x2).run
theorem ft_spec_l1In (n : Nat) (x0 : Int) (x1 : Int) (x2 : Int) : funT (CT_spec_l1In n) (LT_spec_l1In n) K_spec_l1In (A_spec_l1In x0 x1 x2) (U_spec_l1In x0 x1 x2) = (T_spec_l1In n x0 x1 x2).bind fun r => .done (O_spec_l1In r) := by kernel_rfl
theorem ct_spec_l1In (n : Nat) : CTok (CT_spec_l1In n) (runs KP lib n) := mkCT_nil
theorem th_spec_l1In : ∀ (n : Nat) (x0 : Int) (x1 : Int) (x2 : Int) (r : Bool), F_spec_l1In n x0 x1 x2 = some r → runs KP lib n 41 (A_spec_l1In x0 x1 x2) (U_spec_l1In x0 x1 x2) = some (O_spec_l1In r)
  | 0, x0, x1, x2, r, h => by cases h
  | n + 1, x0, x1, x2, r, h => fun_step (kf := K_spec_l1In) rfl (ct_spec_l1In n) (noLoops rfl) (ft_spec_l1In n x0 x1 x2) h
def FH_spec_l1In (n : Nat) : Cont → Option (Bool)
  | ([[[.i x0]], [[.i x1]], [[.i x2]]], []) => F_spec_l1In n x0 x1 x2
  | _ => none
def E_spec_l1In (n : Nat) (d : List AV → List Go.Eng.Frame → Tr Res) : List AV → List Go.Eng.Frame → Tr Res := cent (A_spec_l1In (0) (0) (0)) (U_spec_l1In (0) (0) (0)) (FH_spec_l1In n) O_spec_l1In d
theorem eo_spec_l1In (n : Nat) {d : List AV → List Go.Eng.Frame → Tr Res} (hd : ∀ ar up r, (d ar up).run = some r → runs KP lib n 41 ar up = some r) : ∀ ar up r, (E_spec_l1In n d ar up).run = some r → runs KP lib n 41 ar up = some r :=
  cent_ok (fun hs r h => by
    unfold FH_spec_l1In at h
    split at h
    · exact ⟨A_spec_l1In _ _ _, U_spec_l1In _ _ _, rfl, rfl, th_spec_l1In n _ _ _ r h⟩
    · cases h) hd
/-! ### spec.ColText -/
def A_spec_ColText (x0 : Int) : List AV := [(.c (.p (.i .i64 x0)))]
def U_spec_ColText (x0 : Int) : List Go.Eng.Frame := []
def O_spec_ColText (r : ByteArray) : Res := ⟨(.c (.p (.s r))), [], []⟩
abbrev CT_spec_ColText (n : Nat) : CTab := mkCT [(41, E_spec_l1In n (noEnt))]
def S_spec_ColText_30 (v : Int × ByteArray) : St := ⟨[(0, (.c (.p (.i .i64 v.1)))), (3, (.c (.p (.s v.2))))], [], []⟩
def B_spec_ColText_30 (n : Nat) (v : Int × ByteArray) : Tr ((Int × ByteArray) ⊕ ((ByteArray))) := (.ask ((decide (v.1 > (0 : Int)))) (.ask (decide (1 = ([[(.i .u8 (IntKind.u8.wrap (IntKind.i64.wrap ((65 : Int) + (Int.tmod (IntKind.i64.wrap (v.1 - (1 : Int))) (26 : Int))))))]] : List (List PV)).length)) (.opt (bytesOf ([[(.i .u8 (IntKind.u8.wrap (IntKind.i64.wrap ((65 : Int) + (Int.tmod (IntKind.i64.wrap (v.1 - (1 : Int))) (26 : Int))))))]] : List (List PV))) fun l6 => (.ask (decide ((⟨l6.toArray⟩ : ByteArray).size + v.2.size ≤ 9223372036854775807)) (.done (.inl ((IntKind.i64.wrap (Int.tdiv (IntKind.i64.wrap (v.1 - (1 : Int))) (26 : Int))), ((⟨l6.toArray⟩ : ByteArray) ++ v.2)))) .fail)) .fail) (.done (.inr (v.2))))
def D_spec_ColText_30 : (ByteArray) → Ex × St := fun r => ((.exit 0), ⟨[(3, (.c (.p (.s r))))], [], []⟩)
def DT_spec_ColText_30 : (ByteArray) → Tr (Ex × St) := fun r => .done ((.exit 0), ⟨[(3, (.c (.p (.s r))))], [], []⟩)
def VH_spec_ColText_30 : Cont3 → Option (Int × ByteArray)
  | ([[[.i w0]], [[.s w1]]], [], []) => some (w0, w1)
  | _ => none
abbrev LE_spec_ColText_30 (n : Nat) : St → Tr (Ex × St) := lent (S_spec_ColText_30 (0, ⟨#[]⟩)) VH_spec_ColText_30 (B_spec_ColText_30 n) DT_spec_ColText_30 n
abbrev LT_spec_ColText (n : Nat) : LTab := mkLT [(30, LE_spec_ColText_30 n)]
def T_spec_ColText (n : Nat) (x0 : Int) : Tr (ByteArray) := (.opt (F_spec_l1In n x0 (1 : Int) (52 : Int)) fun r5 => (.ask ((!r5)) (.done (⟨#[]⟩ : ByteArray)) (.opt (loopF (B_spec_ColText_30 n) n (x0, (⟨#[]⟩ : ByteArray))) fun r7 => (.done r7))))
def F_spec_ColText : Nat → Int → Option (ByteArray)
  | 0, _ => none
  | n + 1, x0 => (T_spec_ColText n x0).run
theorem ft_spec_ColText (n : Nat) (x0 : Int) : funT (CT_spec_ColText n) (LT_spec_ColText n) K_spec_ColText (A_spec_ColText x0) (U_spec_ColText x0) = (T_spec_ColText n x0).bind fun r => .done (O_spec_ColText r) := by kernel_rfl
theorem ct_spec_ColText (n : Nat) : CTok (CT_spec_ColText n) (runs KP lib n) := mkCT_cons (eo_spec_l1In n (noEnt_ok)) (mkCT_nil)
theorem lt_spec_ColText_30 (n : Nat) (v : Int × ByteArray) : (evalCT (CT_spec_ColText n) (mkLT []) K_spec_ColText_L30 (S_spec_ColText_30 v) []).bind (ltail [0, 3] [(.ret, [2]), ((.exit 0), [3])]) = (B_spec_ColText_30 n v).bind (lenc S_spec_ColText_30 D_spec_ColText_30) := by
  obtain ⟨w0, w1⟩ := v
  kernel_rfl
theorem le_spec_ColText_30 (n : Nat) : LEok (runs KP lib n) n (30, [0, 3], [(.ret, [2]), ((.exit 0), [3])], K_spec_ColText_L30) (LE_spec_ColText_30 n) := fun st e s h =>
  lent_ok (ct_spec_ColText n) (noLoops rfl) (lt_spec_ColText_30 n) (fun r h => by cases h) (fun r y h => by cases h; rfl) (fun hs v h => by
    unfold VH_spec_ColText_30 at h
    split at h <;> cases h
    rfl) h
theorem lo_spec_ColText (n : Nat) : LTok (LT_spec_ColText n) (runs KP lib n) n K_spec_ColText.body := mkLT_ok (by
  intro x hx
  have hx : x ∈ ([(30, [0, 3], [(.ret, [2]), ((.exit 0), [3])], K_spec_ColText_L30)] : List (Nat × List Nat × List (Ex × List Nat) × KCode)) := hx
  simp only [List.mem_cons, List.not_mem_nil, or_false] at hx
  rcases hx with rfl
  · exact ⟨LE_spec_ColText_30 n, fun st => rfl, le_spec_ColText_30 n⟩)
theorem th_spec_ColText : ∀ (n : Nat) (x0 : Int) (r : ByteArray), F_spec_ColText n x0 = some r → runs KP lib n 17 (A_spec_ColText x0) (U_spec_ColText x0) = some (O_spec_ColText r)
  | 0, x0, r, h => by cases h
  | n + 1, x0, r, h => fun_step (kf := K_spec_ColText) rfl (ct_spec_ColText n) (lo_spec_ColText n) (ft_spec_ColText n x0) h
def FH_spec_ColText (n : Nat) : Cont → Option (ByteArray)
  | ([[[.i x0]]], []) => F_spec_ColText n x0
  | _ => none
def E_spec_ColText (n : Nat) (d : List AV → List Go.Eng.Frame → Tr Res) : List AV → List Go.Eng.Frame → Tr Res := cent (A_spec_ColText (0)) (U_spec_ColText (0)) (FH_spec_ColText n) O_spec_ColText d
theorem eo_spec_ColText (n : Nat) {d : List AV → List Go.Eng.Frame → Tr Res} (hd : ∀ ar up r, (d ar up).run = some r → runs KP lib n 17 ar up = some r) : ∀ ar up r, (E_spec_ColText n d ar up).run = some r → runs KP lib n 17 ar up = some r :=
  cent_ok (fun hs r h => by
    unfold FH_spec_ColText at h
    split at h
    · exact ⟨A_spec_ColText _, U_spec_ColText _, rfl, rfl, th_spec_ColText n _ r h⟩
    · cases h) hd
/-! ### spec.ReadCol -/
def A_spec_ReadCol (x0 : ByteArray) : List AV := [(.c (.p (.s x0)))]
def U_spec_ReadCol (x0 : ByteArray) : List Go.Eng.Frame := []
def O_spec_ReadCol (r : Int) : Res := ⟨(.c (.p (.i .i64 r))), [], []⟩
abbrev CT_spec_ReadCol (n : Nat) : CTab := mkCT [(17, E_spec_ColText n (noEnt))]
def S_spec_ReadCol_13 (v : ByteArray × Int) : St := ⟨[(0, (.c (.p (.s v.1)))), (3, (.c (.p (.i .i64 v.2))))], [], []⟩
def B_spec_ReadCol_13 (n : Nat) (v : ByteArray × Int) : Tr ((ByteArray × Int) ⊕ ((Int) ⊕ (Unit))) := (.ask ((decide (v.2 ≤ (52 : Int)))) (.opt (F_spec_ColText n v.2) fun r5 => (.ask ((r5.toList == v.1.toList)) (.done (.inr (.inl (v.2)))) (.done (.inl (v.1, (IntKind.i64.wrap (v.2 + (1 : Int)))))))) (.done (.inr (.inr (())))))
def D_spec_ReadCol_13 : ((Int) ⊕ (Unit)) → Ex × St := fun | .inl r => (.ret, ⟨[(2, (.c (.p (.i .i64 r))))], [], []⟩) | .inr r => (fun r => ((.exit 0), ⟨[], [], []⟩)) r
def DT_spec_ReadCol_13 : ((Int) ⊕ (Unit)) → Tr (Ex × St) := fun r => .alt r (fun r => .done (.ret, ⟨[(2, (.c (.p (.i .i64 r))))], [], []⟩)) (fun r => .done ((.exit 0), ⟨[], [], []⟩))
def VH_spec_ReadCol_13 : Cont3 → Option (ByteArray × Int)
  | ([[[.s w0]], [[.i w1]]], [], []) => some (w0, w1)
  | _ => none
abbrev LE_spec_ReadCol_13 (n : Nat) : St → Tr (Ex × St) := lent (S_spec_ReadCol_13 (⟨#[]⟩, 0)) VH_spec_ReadCol_13 (B_spec_ReadCol_13 n) DT_spec_ReadCol_13 n
abbrev LT_spec_ReadCol (n : Nat) : LTab := mkLT [(13, LE_spec_ReadCol_13 n)]
def T_spec_ReadCol (n : Nat) (x0 : ByteArray) : Tr (Int) := (.opt (loopF (B_spec_ReadCol_13 n) n (x0, (1 : Int))) fun r6 => (.alt r6 (fun r7 => (.done r7)) (fun r8 => (.done (0 : Int)))))
def F_spec_ReadCol : Nat → ByteArray → Option (Int)
  | 0, _ => none
  | n + 1, x0 => (T_spec_ReadCol n x0).run
theorem ft_spec_ReadCol (n : Nat) (x0 : ByteArray) : funT (CT_spec_ReadCol n) (LT_spec_ReadCol n) K_spec_ReadCol (A_spec_ReadCol x0) (U_spec_ReadCol x0) = (T_spec_ReadCol n x0).bind fun r => .done (O_spec_ReadCol r) := by kernel_rfl
theorem ct_spec_ReadCol (n : Nat) : CTok (CT_spec_ReadCol n) (runs KP lib n) := mkCT_cons (eo_spec_ColText n (noEnt_ok)) (mkCT_nil)
theorem lt_spec_ReadCol_13 (n : Nat) (v : ByteArray × Int) : (evalCT (CT_spec_ReadCol n) (mkLT []) K_spec_ReadCol_L13 (S_spec_ReadCol_13 v) []).bind (ltail [0, 3] [(.ret, [2]), ((.exit 0), [])]) = (B_spec_ReadCol_13 n v).bind (lenc S_spec_ReadCol_13 D_spec_ReadCol_13) := by
  obtain ⟨w0, w1⟩ := v
  kernel_rfl
theorem le_spec_ReadCol_13 (n : Nat) : LEok (runs KP lib n) n (13, [0, 3], [(.ret, [2]), ((.exit 0), [])], K_spec_ReadCol_L13) (LE_spec_ReadCol_13 n) := fun st e s h =>
  lent_ok (ct_spec_ReadCol n) (noLoops rfl) (lt_spec_ReadCol_13 n) (fun r => by
    rcases r with r | r <;> (intro h; cases h)) (fun r y h => by
    rcases r with r | r <;> (cases h; rfl)) (fun hs v h => by
    unfold VH_spec_ReadCol_13 at h
    split at h <;> cases h
    rfl) h
theorem lo_spec_ReadCol (n : Nat) : LTok (LT_spec_ReadCol n) (runs KP lib n) n K_spec_ReadCol.body := mkLT_ok (by
  intro x hx
  have hx : x ∈ ([(13, [0, 3], [(.ret, [2]), ((.exit 0), [])], K_spec_ReadCol_L13)] : List (Nat × List Nat × List (Ex × List Nat) × KCode)) := hx
  simp only [List.mem_cons, List.not_mem_nil, or_false] at hx
  rcases hx with rfl
  · exact ⟨LE_spec_ReadCol_13 n, fun st => rfl, le_spec_ReadCol_13 n⟩)
theorem th_spec_ReadCol : ∀ (n : Nat) (x0 : ByteArray) (r : Int), F_spec_ReadCol n x0 = some r → runs KP lib n 19 (A_spec_ReadCol x0) (U_spec_ReadCol x0) = some (O_spec_ReadCol r)
  | 0, x0, r, h => by cases h
  | n + 1, x0, r, h => fun_step (kf := K_spec_ReadCol) rfl (ct_spec_ReadCol n) (lo_spec_ReadCol n) (ft_spec_ReadCol n x0) h
def FH_spec_ReadCol (n : Nat) : Cont → Option (Int)
  | ([[[.s x0]]], []) => F_spec_ReadCol n x0
  | _ => none
def E_spec_ReadCol (n : Nat) (d : List AV → List Go.Eng.Frame → Tr Res) : List AV → List Go.Eng.Frame → Tr Res := cent (A_spec_ReadCol (⟨#[]⟩)) (U_spec_ReadCol (⟨#[]⟩)) (FH_spec_ReadCol n) O_spec_ReadCol d
theorem eo_spec_ReadCol (n : Nat) {d : List AV → List Go.Eng.Frame → Tr Res} (hd : ∀ ar up r, (d ar up).run = some r → runs KP lib n 19 ar up = some r) : ∀ ar up r, (E_spec_ReadCol n d ar up).run = some r → runs KP lib n 19 ar up = some r :=
  cent_ok (fun hs r h => by
    unfold FH_spec_ReadCol at h
    split at h
    · exact ⟨A_spec_ReadCol _, U_spec_ReadCol _, rfl, rfl, th_spec_ReadCol n _ r h⟩
    · cases h) hd
/-! ### spec.l1Int -/
def A_spec_l1Int (x0 : ByteArray) (x1 : Int) : List AV := [(.c (.p (.s x0))), (.c (.p (.i .i64 x1)))]
def U_spec_l1Int (x0 : ByteArray) (x1 : Int) : List Go.Eng.Frame := []
def O_spec_l1Int (r : Int × Bool) : Res := ⟨(.tup [(false, [(.p (.i .i64 r.1))]), (false, [(.p (.b r.2))])]), [], []⟩
abbrev CT_spec_l1Int (n : Nat) : CTab := mkCT []
def S_spec_l1Int_61 (v : ByteArray × Int × Int) : St := ⟨[(0, (.c (.p (.s v.1)))), (6, (.c (.p (.i .i64 v.2.1)))), (7, (.c (.p (.i .i64 v.2.2))))], [], []⟩
def B_spec_l1Int_61 (n : Nat) (v : ByteArray × Int × Int) : Tr ((ByteArray × Int × Int) ⊕ ((Int × Bool) ⊕ (Int))) := (.ask ((decide (v.2.2 < (v.1.size : Int)))) (.ask (decide (0 ≤ v.2.2)) (.opt (v.1.toList[(v.2.2).toNat]?) fun c12 => (.ask ((decide ((c12.toNat : Int) < (48 : Int)))) (.done (.inr (.inl (((0 : Int), false))))) (.ask (decide (0 ≤ v.2.2)) (.opt (v.1.toList[(v.2.2).toNat]?) fun c13 => (.ask ((decide ((c13.toNat : Int) > (57 : Int)))) (.done (.inr (.inl (((0 : Int), false))))) (.ask (decide (0 ≤ v.2.2)) (.opt (v.1.toList[(v.2.2).toNat]?) fun c14 => (.done (.inl (v.1, (IntKind.i64.wrap ((IntKind.i64.wrap (v.2.1 * (10 : Int))) + (IntKind.i64.wrap (IntKind.u8.wrap ((c14.toNat : Int) - (48 : Int)))))), (IntKind.i64.wrap (v.2.2 + (1 : Int))))))) .fail))) .fail))) .fail) (.done (.inr (.inr (v.2.1)))))
def D_spec_l1Int_61 : ((Int × Bool) ⊕ (Int)) → Ex × St := fun | .inl r => (.ret, ⟨[(4, (.c (.p (.i .i64 r.1)))), (5, (.c (.p (.b r.2))))], [], []⟩) | .inr r => (fun r => ((.exit 0), ⟨[(6, (.c (.p (.i .i64 r))))], [], []⟩)) r
def DT_spec_l1Int_61 : ((Int × Bool) ⊕ (Int)) → Tr (Ex × St) := fun r => .alt r (fun r => .done (.ret, ⟨[(4, (.c (.p (.i .i64 r.1)))), (5, (.c (.p (.b r.2))))], [], []⟩)) (fun r => .done ((.exit 0), ⟨[(6, (.c (.p (.i .i64 r))))], [], []⟩))
def VH_spec_l1Int_61 : Cont3 → Option (ByteArray × Int × Int)
  | ([[[.s w0]], [[.i w1]], [[.i w2]]], [], []) => some (w0, w1, w2)
  | _ => none
abbrev LE_spec_l1Int_61 (n : Nat) : St → Tr (Ex × St) := lent (S_spec_l1Int_61 (⟨#[]⟩, 0, 0)) VH_spec_l1Int_61 (B_spec_l1Int_61 n) DT_spec_l1Int_61 n
abbrev LT_spec_l1Int (n : Nat) : LTab := mkLT [(61, LE_spec_l1Int_61 n)]
def T_spec_l1Int (n : Nat) (x0 : ByteArray) (x1 : Int) : Tr (Int × Bool) := (.ask ((decide ((x0.size : Int) < (1 : Int)))) (.done ((0 : Int), false)) (.ask ((decide ((x0.size : Int) > x1))) (.done ((0 : Int), false)) (.ask (decide (0 ≤ (0 : Int))) (.opt (x0.toList[((0 : Int)).toNat]?) fun c11 => (.ask (((c11.toNat : Int) == (48 : Int))) (.ask ((decide ((x0.size : Int) > (1 : Int)))) (.done ((0 : Int), false)) (.opt (loopF (B_spec_l1Int_61 n) n (x0, (0 : Int), (0 : Int))) fun r15 => (.alt r15 (fun r16 => (.done (r16.1, r16.2))) (fun r17 => (.done (r17, true)))))) (.opt (loopF (B_spec_l1Int_61 n) n (x0, (0 : Int), (0 : Int))) fun r18 => (.alt r18 (fun r19 => (.done (r19.1, r19.2))) (fun r20 => (.done (r20, true))))))) .fail)))
def F_spec_l1Int : Nat → ByteArray → Int → Option (Int × Bool)
  | 0, _, _ => none
  | n + 1, x0, x1 => (T_spec_l1Int n x0 x1).run
theorem ft_spec_l1Int (n : Nat) (x0 : ByteArray) (x1 : Int) : funT (CT_spec_l1Int n) (LT_spec_l1Int n) K_spec_l1Int (A_spec_l1Int x0 x1) (U_spec_l1Int x0 x1) = (T_spec_l1Int n x0 x1).bind fun r => .done (O_spec_l1Int r) := by kernel_rfl
theorem ct_spec_l1Int (n : Nat) : CTok (CT_spec_l1Int n) (runs KP lib n) := mkCT_nil
theorem lt_spec_l1Int_61 (n : Nat) (v : ByteArray × Int × Int) : (evalCT (CT_spec_l1Int n) (mkLT []) K_spec_l1Int_L61 (S_spec_l1Int_61 v) []).bind (ltail [0, 6, 7] [(.ret, [4, 5]), ((.exit 0), [6])]) = (B_spec_l1Int_61 n v).bind (lenc S_spec_l1Int_61 D_spec_l1Int_61) := by
  obtain ⟨w0, w1, w2⟩ := v
  kernel_rfl
theorem le_spec_l1Int_61 (n : Nat) : LEok (runs KP lib n) n (61, [0, 6, 7], [(.ret, [4, 5]), ((.exit 0), [6])], K_spec_l1Int_L61) (LE_spec_l1Int_61 n) := fun st e s h =>
  lent_ok (ct_spec_l1Int n) (noLoops rfl) (lt_spec_l1Int_61 n) (fun r => by
    rcases r with r | r <;> (intro h; cases h)) (fun r y h => by
    rcases r with r | r <;> (cases h; rfl)) (fun hs v h => by
    unfold VH_spec_l1Int_61 at h
    split at h <;> cases h
    rfl) h
theorem lo_spec_l1Int (n : Nat) : LTok (LT_spec_l1Int n) (runs KP lib n) n K_spec_l1Int.body := mkLT_ok (by
  intro x hx
  have hx : x ∈ ([(61, [0, 6, 7], [(.ret, [4, 5]), ((.exit 0), [6])], K_spec_l1Int_L61)] : List (Nat × List Nat × List (Ex × List Nat) × KCode)) := hx
  simp only [List.mem_cons, List.not_mem_nil, or_false] at hx
  rcases hx with rfl
  · exact ⟨LE_spec_l1Int_61 n, fun st => rfl, le_spec_l1Int_61 n⟩)
theorem th_spec_l1Int : ∀ (n : Nat) (x0 : ByteArray) (x1 : Int) (r : Int × Bool), F_spec_l1Int n x0 x1 = some r → runs KP lib n 32 (A_spec_l1Int x0 x1) (U_spec_l1Int x0 x1) = some (O_spec_l1Int r)
  | 0, x0, x1, r, h => by cases h
  | n + 1, x0, x1, r, h => fun_step (kf := K_spec_l1Int) rfl (ct_spec_l1Int n) (lo_spec_l1Int n) (ft_spec_l1Int n x0 x1) h
def FH_spec_l1Int (n : Nat) : Cont → Option (Int × Bool)
  | ([[[.s x0]], [[.i x1]]], []) => F_spec_l1Int n x0 x1
  | _ => none
def E_spec_l1Int (n : Nat) (d : List AV → List Go.Eng.Frame → Tr Res) : List AV → List Go.Eng.Frame → Tr Res := cent (A_spec_l1Int (⟨#[]⟩) (0)) (U_spec_l1Int (⟨#[]⟩) (0)) (FH_spec_l1Int n) O_spec_l1Int d
theorem eo_spec_l1Int (n : Nat) {d : List AV → List Go.Eng.Frame → Tr Res} (hd : ∀ ar up r, (d ar up).run = some r → runs KP lib n 32 ar up = some r) : ∀ ar up r, (E_spec_l1Int n d ar up).run = some r → runs KP lib n 32 ar up = some r :=
  cent_ok (fun hs r h => by
    unfold FH_spec_l1Int at h
    split at h
    · exact ⟨A_spec_l1Int _ _, U_spec_l1Int _ _, rfl, rfl, th_spec_l1Int n _ _ r h⟩
    · cases h) hd
/-! ### spec.RefOk -/
def A_spec_RefOk (x0 : Int) (x1 : Int) : List AV := [(.agg [(.p (.i .i64 x0)), (.p (.i .i64 x1))])]
def U_spec_RefOk (x0 : Int) (x1 : Int) : List Go.Eng.Frame := []
def O_spec_RefOk (r : Bool) : Res := ⟨(.c (.p (.b r))), [], []⟩
abbrev CT_spec_RefOk (n : Nat) : CTab := mkCT [(41, E_spec_l1In n (noEnt))]
abbrev LT_spec_RefOk (n : Nat) : LTab := mkLT []
def T_spec_RefOk (n : Nat) (x0 : Int) (x1 : Int) : Tr (Bool) := (.opt (F_spec_l1In n x0 (1 : Int) (52 : Int)) fun r22 => (.ask (r22) (.opt (F_spec_l1In n x1 (1 : Int) (99 : Int)) fun r23 => (.done r23)) (.done false)))
def F_spec_RefOk : Nat → Int → Int → Option (Bool)
  | 0, _, _ => none
  | n + 1, x0, x1 => (T_spec_RefOk n x0 x1).run
theorem ft_spec_RefOk (n : Nat) (x0 : Int) (x1 : Int) : funT (CT_spec_RefOk n) (LT_spec_RefOk n) K_spec_RefOk (A_spec_RefOk x0 x1) (U_spec_RefOk x0 x1) = (T_spec_RefOk n x0 x1).bind fun r => .done (O_spec_RefOk r) := by kernel_rfl
theorem ct_spec_RefOk (n : Nat) : CTok (CT_spec_RefOk n) (runs KP lib n) := mkCT_cons (eo_spec_l1In n (noEnt_ok)) (mkCT_nil)
theorem th_spec_RefOk : ∀ (n : Nat) (x0 : Int) (x1 : Int) (r : Bool), F_spec_RefOk n x0 x1 = some r → runs KP lib n 28 (A_spec_RefOk x0 x1) (U_spec_RefOk x0 x1) = some (O_spec_RefOk r)
  | 0, x0, x1, r, h => by cases h
  | n + 1, x0, x1, r, h => fun_step (kf := K_spec_RefOk) rfl (ct_spec_RefOk n) (noLoops rfl) (ft_spec_RefOk n x0 x1) h
def FH_spec_RefOk (n : Nat) : Cont → Option (Bool)
  | ([[[.i x0], [.i x1]]], []) => F_spec_RefOk n x0 x1
  | _ => none
def E_spec_RefOk (n : Nat) (d : List AV → List Go.Eng.Frame → Tr Res) : List AV → List Go.Eng.Frame → Tr Res := cent (A_spec_RefOk (0) (0)) (U_spec_RefOk (0) (0)) (FH_spec_RefOk n) O_spec_RefOk d
theorem eo_spec_RefOk (n : Nat) {d : List AV → List Go.Eng.Frame → Tr Res} (hd : ∀ ar up r, (d ar up).run = some r → runs KP lib n 28 ar up = some r) : ∀ ar up r, (E_spec_RefOk n d ar up).run = some r → runs KP lib n 28 ar up = some r :=
  cent_ok (fun hs r h => by
    unfold FH_spec_RefOk at h
    split at h
    · exact ⟨A_spec_RefOk _ _, U_spec_RefOk _ _, rfl, rfl, th_spec_RefOk n _ _ r h⟩
    · cases h) hd
/-! ### spec.ReadPlace -/
def A_spec_ReadPlace (x0 : ByteArray) : List AV := [(.c (.p (.s x0)))]
def U_spec_ReadPlace (x0 : ByteArray) : List Go.Eng.Frame := []
def O_spec_ReadPlace (r : Int × Int × Bool × Bool × Bool) : Res := ⟨(.tup [(true, [(.p (.i .i64 r.1)), (.p (.i .i64 r.2.1)), (.p (.b r.2.2.1)), (.p (.b r.2.2.2.1))]), (false, [(.p (.b r.2.2.2.2))])]), [], []⟩
abbrev CT_spec_ReadPlace (n : Nat) : CTab := mkCT [(19, E_spec_ReadCol n (noEnt)), (32, E_spec_l1Int n (noEnt)), (28, E_spec_RefOk n (noEnt))]
def S_spec_ReadPlace_62 (v : ByteArray × Int × Int × Int × Bool × Bool × Int × Int × Bool × Bool) : St := ⟨[(0, (.c (.p (.s v.1)))), (2, (.c (.ptr 0 128 0 0 0))), (4, (.c (.ptr 0 256 0 0 0))), (5, (.c (.p (.i .i64 v.2.1))))], [(128, ⟨0, 4, 29, (.box [(.p (.i .i64 v.2.2.1)), (.p (.i .i64 v.2.2.2.1)), (.p (.b v.2.2.2.2.1)), (.p (.b v.2.2.2.2.2.1))])⟩), (256, ⟨0, 4, 29, (.box [(.p (.i .i64 v.2.2.2.2.2.2.1)), (.p (.i .i64 v.2.2.2.2.2.2.2.1)), (.p (.b v.2.2.2.2.2.2.2.2.1)), (.p (.b v.2.2.2.2.2.2.2.2.2))])⟩)], []⟩
def B_spec_ReadPlace_62 (n : Nat) (v : ByteArray × Int × Int × Int × Bool × Bool × Int × Int × Bool × Bool) : Tr ((ByteArray × Int × Int × Int × Bool × Bool × Int × Int × Bool × Bool) ⊕ ((ByteArray × Int × Int × Int × Bool × Bool × Int × Int × Bool × Bool))) := (.ask ((decide (v.2.1 < (v.1.size : Int)))) (.ask (decide (0 ≤ v.2.1)) (.opt (v.1.toList[(v.2.1).toNat]?) fun c2 => (.ask ((decide ((c2.toNat : Int) ≥ (65 : Int)))) (.ask (decide (0 ≤ v.2.1)) (.opt (v.1.toList[(v.2.1).toNat]?) fun c3 => (.ask ((decide ((c3.toNat : Int) ≤ (90 : Int)))) (.done (.inl (v.1, (IntKind.i64.wrap (v.2.1 + (1 : Int))), v.2.2.1, v.2.2.2.1, v.2.2.2.2.1, v.2.2.2.2.2.1, v.2.2.2.2.2.2.1, v.2.2.2.2.2.2.2.1, v.2.2.2.2.2.2.2.2.1, v.2.2.2.2.2.2.2.2.2))) (.done (.inr ((v.1, v.2.1, v.2.2.1, v.2.2.2.1, v.2.2.2.2.1, v.2.2.2.2.2.1, v.2.2.2.2.2.2.1, v.2.2.2.2.2.2.2.1, v.2.2.2.2.2.2.2.2.1, v.2.2.2.2.2.2.2.2.2)))))) .fail) (.done (.inr ((v.1, v.2.1, v.2.2.1, v.2.2.2.1, v.2.2.2.2.1, v.2.2.2.2.2.1, v.2.2.2.2.2.2.1, v.2.2.2.2.2.2.2.1, v.2.2.2.2.2.2.2.2.1, v.2.2.2.2.2.2.2.2.2)))))) .fail) (.done (.inr ((v.1, v.2.1, v.2.2.1, v.2.2.2.1, v.2.2.2.2.1, v.2.2.2.2.2.1, v.2.2.2.2.2.2.1, v.2.2.2.2.2.2.2.1, v.2.2.2.2.2.2.2.2.1, v.2.2.2.2.2.2.2.2.2)))))
def D_spec_ReadPlace_62 : (ByteArray × Int × Int × Int × Bool × Bool × Int × Int × Bool × Bool) → Ex × St := fun r => ((.exit 0), ⟨[(0, (.c (.p (.s r.1)))), (2, (.c (.ptr 0 128 0 0 0))), (4, (.c (.ptr 0 256 0 0 0))), (5, (.c (.p (.i .i64 r.2.1))))], [(128, ⟨0, 4, 29, (.box [(.p (.i .i64 r.2.2.1)), (.p (.i .i64 r.2.2.2.1)), (.p (.b r.2.2.2.2.1)), (.p (.b r.2.2.2.2.2.1))])⟩), (256, ⟨0, 4, 29, (.box [(.p (.i .i64 r.2.2.2.2.2.2.1)), (.p (.i .i64 r.2.2.2.2.2.2.2.1)), (.p (.b r.2.2.2.2.2.2.2.2.1)), (.p (.b r.2.2.2.2.2.2.2.2.2))])⟩)], []⟩)
def DT_spec_ReadPlace_62 : (ByteArray × Int × Int × Int × Bool × Bool × Int × Int × Bool × Bool) → Tr (Ex × St) := fun r => .done ((.exit 0), ⟨[(0, (.c (.p (.s r.1)))), (2, (.c (.ptr 0 128 0 0 0))), (4, (.c (.ptr 0 256 0 0 0))), (5, (.c (.p (.i .i64 r.2.1))))], [(128, ⟨0, 4, 29, (.box [(.p (.i .i64 r.2.2.1)), (.p (.i .i64 r.2.2.2.1)), (.p (.b r.2.2.2.2.1)), (.p (.b r.2.2.2.2.2.1))])⟩), (256, ⟨0, 4, 29, (.box [(.p (.i .i64 r.2.2.2.2.2.2.1)), (.p (.i .i64 r.2.2.2.2.2.2.2.1)), (.p (.b r.2.2.2.2.2.2.2.2.1)), (.p (.b r.2.2.2.2.2.2.2.2.2))])⟩)], []⟩)
def VH_spec_ReadPlace_62 : Cont3 → Option (ByteArray × Int × Int × Int × Bool × Bool × Int × Int × Bool × Bool)
  | ([[[.s w0]], [[]], [[]], [[.i w1]]], [[[.i w2], [.i w3], [.b w4], [.b w5]], [[.i w6], [.i w7], [.b w8], [.b w9]]], []) => some (w0, w1, w2, w3, w4, w5, w6, w7, w8, w9)
  | _ => none
abbrev LE_spec_ReadPlace_62 (n : Nat) : St → Tr (Ex × St) := lent (S_spec_ReadPlace_62 (⟨#[]⟩, 0, 0, 0, false, false, 0, 0, false, false)) VH_spec_ReadPlace_62 (B_spec_ReadPlace_62 n) DT_spec_ReadPlace_62 n
abbrev LT_spec_ReadPlace (n : Nat) : LTab := mkLT [(62, LE_spec_ReadPlace_62 n)]
def T_spec_ReadPlace (n : Nat) (x0 : ByteArray) : Tr (Int × Int × Bool × Bool × Bool) := (.ask ((decide ((x0.size : Int) > (0 : Int)))) (.ask (decide (0 ≤ (0 : Int))) (.opt (x0.toList[((0 : Int)).toNat]?) fun c1 => (.ask (((c1.toNat : Int) == (36 : Int))) (.ask (decide (0 ≤ (1 : Int) ∧ (1 : Int) ≤ (x0.size : Int) ∧ (x0.size : Int) ≤ x0.size)) (.opt (loopF (B_spec_ReadPlace_62 n) n ((x0.extract ((1 : Int)).toNat ((x0.size : Int)).toNat), (0 : Int), (0 : Int), (0 : Int), false, false, (0 : Int), (0 : Int), true, false)) fun r4 => (.ask (decide (0 ≤ (0 : Int) ∧ (0 : Int) ≤ r4.2.1 ∧ r4.2.1 ≤ r4.1.size)) (.opt (F_spec_ReadCol n (r4.1.extract ((0 : Int)).toNat (r4.2.1).toNat)) fun r9 => (.ask (decide (0 ≤ r4.2.1 ∧ r4.2.1 ≤ (r4.1.size : Int) ∧ (r4.1.size : Int) ≤ r4.1.size)) (.ask ((decide (((r4.1.extract (r4.2.1).toNat ((r4.1.size : Int)).toNat).size : Int) > (0 : Int)))) (.ask (decide (0 ≤ (0 : Int))) (.opt ((r4.1.extract (r4.2.1).toNat ((r4.1.size : Int)).toNat).toList[((0 : Int)).toNat]?) fun c10 => (.ask (((c10.toNat : Int) == (36 : Int))) (.ask (decide (0 ≤ (1 : Int) ∧ (1 : Int) ≤ ((r4.1.extract (r4.2.1).toNat ((r4.1.size : Int)).toNat).size : Int) ∧ ((r4.1.extract (r4.2.1).toNat ((r4.1.size : Int)).toNat).size : Int) ≤ (r4.1.extract (r4.2.1).toNat ((r4.1.size : Int)).toNat).size)) (.opt (F_spec_l1Int n ((r4.1.extract (r4.2.1).toNat ((r4.1.size : Int)).toNat).extract ((1 : Int)).toNat (((r4.1.extract (r4.2.1).toNat ((r4.1.size : Int)).toNat).size : Int)).toNat) (2 : Int)) fun r21 => (.ask ((!r21.2)) (.done ((0 : Int), (0 : Int), false, false, false)) (.opt (F_spec_RefOk n r9 r21.1) fun r24 => (.ask ((!r24)) (.done ((0 : Int), (0 : Int), false, false, false)) (.done (r9, r21.1, r4.2.2.2.2.2.2.2.2.1, true, true)))))) .fail) (.opt (F_spec_l1Int n (r4.1.extract (r4.2.1).toNat ((r4.1.size : Int)).toNat) (2 : Int)) fun r25 => (.ask ((!r25.2)) (.done ((0 : Int), (0 : Int), false, false, false)) (.opt (F_spec_RefOk n r9 r25.1) fun r26 => (.ask ((!r26)) (.done ((0 : Int), (0 : Int), false, false, false)) (.done (r9, r25.1, r4.2.2.2.2.2.2.2.2.1, r4.2.2.2.2.2.2.2.2.2, true)))))))) .fail) (.opt (F_spec_l1Int n (r4.1.extract (r4.2.1).toNat ((r4.1.size : Int)).toNat) (2 : Int)) fun r27 => (.ask ((!r27.2)) (.done ((0 : Int), (0 : Int), false, false, false)) (.opt (F_spec_RefOk n r9 r27.1) fun r28 => (.ask ((!r28)) (.done ((0 : Int), (0 : Int), false, false, false)) (.done (r9, r27.1, r4.2.2.2.2.2.2.2.2.1, r4.2.2.2.2.2.2.2.2.2, true))))))) .fail)) .fail)) .fail) (.opt (loopF (B_spec_ReadPlace_62 n) n (x0, (0 : Int), (0 : Int), (0 : Int), false, false, (0 : Int), (0 : Int), false, false)) fun r29 => (.ask (decide (0 ≤ (0 : Int) ∧ (0 : Int) ≤ r29.2.1 ∧ r29.2.1 ≤ r29.1.size)) (.opt (F_spec_ReadCol n (r29.1.extract ((0 : Int)).toNat (r29.2.1).toNat)) fun r30 => (.ask (decide (0 ≤ r29.2.1 ∧ r29.2.1 ≤ (r29.1.size : Int) ∧ (r29.1.size : Int) ≤ r29.1.size)) (.ask ((decide (((r29.1.extract (r29.2.1).toNat ((r29.1.size : Int)).toNat).size : Int) > (0 : Int)))) (.ask (decide (0 ≤ (0 : Int))) (.opt ((r29.1.extract (r29.2.1).toNat ((r29.1.size : Int)).toNat).toList[((0 : Int)).toNat]?) fun c31 => (.ask (((c31.toNat : Int) == (36 : Int))) (.ask (decide (0 ≤ (1 : Int) ∧ (1 : Int) ≤ ((r29.1.extract (r29.2.1).toNat ((r29.1.size : Int)).toNat).size : Int) ∧ ((r29.1.extract (r29.2.1).toNat ((r29.1.size : Int)).toNat).size : Int) ≤ (r29.1.extract (r29.2.1).toNat ((r29.1.size : Int)).toNat).size)) (.opt (F_spec_l1Int n ((r29.1.extract (r29.2.1).toNat ((r29.1.size : Int)).toNat).extract ((1 : Int)).toNat (((r29.1.extract (r29.2.1).toNat ((r29.1.size : Int)).toNat).size : Int)).toNat) (2 : Int)) fun r32 => (.ask ((!r32.2)) (.done ((0 : Int), (0 : Int), false, false, false)) (.opt (F_spec_RefOk n r30 r32.1) fun r33 => (.ask ((!r33)) (.done ((0 : Int), (0 : Int), false, false, false)) (.done (r30, r32.1, r29.2.2.2.2.2.2.2.2.1, true, true)))))) .fail) (.opt (F_spec_l1Int n (r29.1.extract (r29.2.1).toNat ((r29.1.size : Int)).toNat) (2 : Int)) fun r34 => (.ask ((!r34.2)) (.done ((0 : Int), (0 : Int), false, false, false)) (.opt (F_spec_RefOk n r30 r34.1) fun r35 => (.ask ((!r35)) (.done ((0 : Int), (0 : Int), false, false, false)) (.done (r30, r34.1, r29.2.2.2.2.2.2.2.2.1, r29.2.2.2.2.2.2.2.2.2, true)))))))) .fail) (.opt (F_spec_l1Int n (r29.1.extract (r29.2.1).toNat ((r29.1.size : Int)).toNat) (2 : Int)) fun r36 => (.ask ((!r36.2)) (.done ((0 : Int), (0 : Int), false, false, false)) (.opt (F_spec_RefOk n r30 r36.1) fun r37 => (.ask ((!r37)) (.done ((0 : Int), (0 : Int), false, false, false)) (.done (r30, r36.1, r29.2.2.2.2.2.2.2.2.1, r29.2.2.2.2.2.2.2.2.2, true))))))) .fail)) .fail)))) .fail) (.opt (loopF (B_spec_ReadPlace_62 n) n (x0, (0 : Int), (0 : Int), (0 : Int), false, false, (0 : Int), (0 : Int), false, false)) fun r38 => (.ask (decide (0 ≤ (0 : Int) ∧ (0 : Int) ≤ r38.2.1 ∧ r38.2.1 ≤ r38.1.size)) (.opt (F_spec_ReadCol n (r38.1.extract ((0 : Int)).toNat (r38.2.1).toNat)) fun r39 => (.ask (decide (0 ≤ r38.2.1 ∧ r38.2.1 ≤ (r38.1.size : Int) ∧ (r38.1.size : Int) ≤ r38.1.size)) (.ask ((decide (((r38.1.extract (r38.2.1).toNat ((r38.1.size : Int)).toNat).size : Int) > (0 : Int)))) (.ask (decide (0 ≤ (0 : Int))) (.opt ((r38.1.extract (r38.2.1).toNat ((r38.1.size : Int)).toNat).toList[((0 : Int)).toNat]?) fun c40 => (.ask (((c40.toNat : Int) == (36 : Int))) (.ask (decide (0 ≤ (1 : Int) ∧ (1 : Int) ≤ ((r38.1.extract (r38.2.1).toNat ((r38.1.size : Int)).toNat).size : Int) ∧ ((r38.1.extract (r38.2.1).toNat ((r38.1.size : Int)).toNat).size : Int) ≤ (r38.1.extract (r38.2.1).toNat ((r38.1.size : Int)).toNat).size)) (.opt (F_spec_l1Int n ((r38.1.extract (r38.2.1).toNat ((r38.1.size : Int)).toNat).extract ((1 : Int)).toNat (((r38.1.extract (r38.2.1).toNat ((r38.1.size : Int)).toNat).size : Int)).toNat) (2 : Int)) fun r41 => (.ask ((!r41.2)) (.done ((0 : Int), (0 : Int), false, false, false)) (.opt (F_spec_RefOk n r39 r41.1) fun r42 => (.ask ((!r42)) (.done ((0 : Int), (0 : Int), false, false, false)) (.done (r39, r41.1, r38.2.2.2.2.2.2.2.2.1, true, true)))))) .fail) (.opt (F_spec_l1Int n (r38.1.extract (r38.2.1).toNat ((r38.1.size : Int)).toNat) (2 : Int)) fun r43 => (.ask ((!r43.2)) (.done ((0 : Int), (0 : Int), false, false, false)) (.opt (F_spec_RefOk n r39 r43.1) fun r44 => (.ask ((!r44)) (.done ((0 : Int), (0 : Int), false, false, false)) (.done (r39, r43.1, r38.2.2.2.2.2.2.2.2.1, r38.2.2.2.2.2.2.2.2.2, true)))))))) .fail) (.opt (F_spec_l1Int n (r38.1.extract (r38.2.1).toNat ((r38.1.size : Int)).toNat) (2 : Int)) fun r45 => (.ask ((!r45.2)) (.done ((0 : Int), (0 : Int), false, false, false)) (.opt (F_spec_RefOk n r39 r45.1) fun r46 => (.ask ((!r46)) (.done ((0 : Int), (0 : Int), false, false, false)) (.done (r39, r45.1, r38.2.2.2.2.2.2.2.2.1, r38.2.2.2.2.2.2.2.2.2, true))))))) .fail)) .fail)))
def F_spec_ReadPlace : Nat → ByteArray → Option (Int × Int × Bool × Bool × Bool)
  | 0, _ => none
  | n + 1, x0 => (T_spec_ReadPlace n x0).run
theorem ft_spec_ReadPlace (n : Nat) (x0 : ByteArray) : funT (CT_spec_ReadPlace n) (LT_spec_ReadPlace n) K_spec_ReadPlace (A_spec_ReadPlace x0) (U_spec_ReadPlace x0) = (T_spec_ReadPlace n x0).bind fun r => .done (O_spec_ReadPlace r) := by kernel_rfl
theorem ct_spec_ReadPlace (n : Nat) : CTok (CT_spec_ReadPlace n) (runs KP lib n) := mkCT_cons (eo_spec_ReadCol n (noEnt_ok)) (mkCT_cons (eo_spec_l1Int n (noEnt_ok)) (mkCT_cons (eo_spec_RefOk n (noEnt_ok)) (mkCT_nil)))
theorem lt_spec_ReadPlace_62 (n : Nat) (v : ByteArray × Int × Int × Int × Bool × Bool × Int × Int × Bool × Bool) : (evalCT (CT_spec_ReadPlace n) (mkLT []) K_spec_ReadPlace_L62 (S_spec_ReadPlace_62 v) []).bind (ltail [0, 2, 4, 5] [(.ret, [2, 3]), ((.exit 0), [0, 2, 4, 5])]) = (B_spec_ReadPlace_62 n v).bind (lenc S_spec_ReadPlace_62 D_spec_ReadPlace_62) := by
  obtain ⟨w0, w1, w2, w3, w4, w5, w6, w7, w8, w9⟩ := v
  kernel_rfl
theorem le_spec_ReadPlace_62 (n : Nat) : LEok (runs KP lib n) n (62, [0, 2, 4, 5], [(.ret, [2, 3]), ((.exit 0), [0, 2, 4, 5])], K_spec_ReadPlace_L62) (LE_spec_ReadPlace_62 n) := fun st e s h =>
  lent_ok (ct_spec_ReadPlace n) (noLoops rfl) (lt_spec_ReadPlace_62 n) (fun r h => by cases h) (fun r y h => by cases h; rfl) (fun hs v h => by
    unfold VH_spec_ReadPlace_62 at h
    split at h <;> cases h
    rfl) h
theorem lo_spec_ReadPlace (n : Nat) : LTok (LT_spec_ReadPlace n) (runs KP lib n) n K_spec_ReadPlace.body := mkLT_ok (by
  intro x hx
  have hx : x ∈ ([(62, [0, 2, 4, 5], [(.ret, [2, 3]), ((.exit 0), [0, 2, 4, 5])], K_spec_ReadPlace_L62)] : List (Nat × List Nat × List (Ex × List Nat) × KCode)) := hx
  simp only [List.mem_cons, List.not_mem_nil, or_false] at hx
  rcases hx with rfl
  · exact ⟨LE_spec_ReadPlace_62 n, fun st => rfl, le_spec_ReadPlace_62 n⟩)
theorem th_spec_ReadPlace : ∀ (n : Nat) (x0 : ByteArray) (r : Int × Int × Bool × Bool × Bool), F_spec_ReadPlace n x0 = some r → runs KP lib n 10 (A_spec_ReadPlace x0) (U_spec_ReadPlace x0) = some (O_spec_ReadPlace r)
  | 0, x0, r, h => by cases h
  | n + 1, x0, r, h => fun_step (kf := K_spec_ReadPlace) rfl (ct_spec_ReadPlace n) (lo_spec_ReadPlace n) (ft_spec_ReadPlace n x0) h
def FH_spec_ReadPlace (n : Nat) : Cont → Option (Int × Int × Bool × Bool × Bool)
  | ([[[.s x0]]], []) => F_spec_ReadPlace n x0
  | _ => none
def E_spec_ReadPlace (n : Nat) (d : List AV → List Go.Eng.Frame → Tr Res) : List AV → List Go.Eng.Frame → Tr Res := cent (A_spec_ReadPlace (⟨#[]⟩)) (U_spec_ReadPlace (⟨#[]⟩)) (FH_spec_ReadPlace n) O_spec_ReadPlace d
theorem eo_spec_ReadPlace (n : Nat) {d : List AV → List Go.Eng.Frame → Tr Res} (hd : ∀ ar up r, (d ar up).run = some r → runs KP lib n 10 ar up = some r) : ∀ ar up r, (E_spec_ReadPlace n d ar up).run = some r → runs KP lib n 10 ar up = some r :=
  cent_ok (fun hs r h => by
    unfold FH_spec_ReadPlace at h
    split at h
    · exact ⟨A_spec_ReadPlace _, U_spec_ReadPlace _, rfl, rfl, th_spec_ReadPlace n _ r h⟩
    · cases h) hd
/-! ### strings.CutPrefix -/
def A_strings_CutPrefix (x0 : ByteArray) (x1 : ByteArray) : List AV := [(.c (.p (.s x0))), (.c (.p (.s x1)))]
def U_strings_CutPrefix (x0 : ByteArray) (x1 : ByteArray) : List Go.Eng.Frame := []
def O_strings_CutPrefix (r : (ByteArray × Bool)) : Res := ⟨(.tup [(false, [(.p (.s r.1))]), (false, [(.p (.b r.2))])]), [], []⟩
def F_strings_CutPrefix : Nat → ByteArray → ByteArray → Option ((ByteArray × Bool))
  | 0, _, _ => none
  | n + 1, x0, x1 => L_strings_CutPrefix x0 x1
theorem th_strings_CutPrefix : ∀ (n : Nat) (x0 : ByteArray) (x1 : ByteArray) (r : (ByteArray × Bool)), F_strings_CutPrefix n x0 x1 = some r → runs KP lib n 33 (A_strings_CutPrefix x0 x1) (U_strings_CutPrefix x0 x1) = some (O_strings_CutPrefix r)
  | 0, x0, x1, r, h => by cases h
  | n + 1, x0, x1, r, h => by
    have h : L_strings_CutPrefix x0 x1 = some r := h
    exact lib_step rfl (congrArg (Option.map fun r : (ByteArray × Bool) => ((.tup [(false, [(.p (.s r.1))]), (false, [(.p (.b r.2))])]) : AV)) h)
def FH_strings_CutPrefix (n : Nat) : Cont → Option ((ByteArray × Bool))
  | ([[[.s x0]], [[.s x1]]], []) => F_strings_CutPrefix n x0 x1
  | _ => none
def E_strings_CutPrefix (n : Nat) (d : List AV → List Go.Eng.Frame → Tr Res) : List AV → List Go.Eng.Frame → Tr Res := cent (A_strings_CutPrefix (⟨#[]⟩) (⟨#[]⟩)) (U_strings_CutPrefix (⟨#[]⟩) (⟨#[]⟩)) (FH_strings_CutPrefix n) O_strings_CutPrefix d
theorem eo_strings_CutPrefix (n : Nat) {d : List AV → List Go.Eng.Frame → Tr Res} (hd : ∀ ar up r, (d ar up).run = some r → runs KP lib n 33 ar up = some r) : ∀ ar up r, (E_strings_CutPrefix n d ar up).run = some r → runs KP lib n 33 ar up = some r :=
  cent_ok (fun hs r h => by
    unfold FH_strings_CutPrefix at h
    split at h
    · exact ⟨A_strings_CutPrefix _ _, U_strings_CutPrefix _ _, rfl, rfl, th_strings_CutPrefix n _ _ r h⟩
    · cases h) hd
/-! ### strings.TrimLeft -/
def A_strings_TrimLeft (x0 : ByteArray) (x1 : ByteArray) : List AV := [(.c (.p (.s x0))), (.c (.p (.s x1)))]
def U_strings_TrimLeft (x0 : ByteArray) (x1 : ByteArray) : List Go.Eng.Frame := []
def O_strings_TrimLeft (r : (ByteArray)) : Res := ⟨(.c (.p (.s r))), [], []⟩
def F_strings_TrimLeft : Nat → ByteArray → ByteArray → Option ((ByteArray))
  | 0, _, _ => none
  | n + 1, x0, x1 => L_strings_TrimLeft x0 x1
theorem th_strings_TrimLeft : ∀ (n : Nat) (x0 : ByteArray) (x1 : ByteArray) (r : (ByteArray)), F_strings_TrimLeft n x0 x1 = some r → runs KP lib n 34 (A_strings_TrimLeft x0 x1) (U_strings_TrimLeft x0 x1) = some (O_strings_TrimLeft r)
  | 0, x0, x1, r, h => by cases h
  | n + 1, x0, x1, r, h => by
    have h : L_strings_TrimLeft x0 x1 = some r := h
    exact lib_step rfl (congrArg (Option.map fun r : (ByteArray) => ((.c (.p (.s r))) : AV)) h)
def FH_strings_TrimLeft (n : Nat) : Cont → Option ((ByteArray))
  | ([[[.s x0]], [[.s x1]]], []) => F_strings_TrimLeft n x0 x1
  | _ => none
def E_strings_TrimLeft (n : Nat) (d : List AV → List Go.Eng.Frame → Tr Res) : List AV → List Go.Eng.Frame → Tr Res := cent (A_strings_TrimLeft (⟨#[]⟩) (⟨#[]⟩)) (U_strings_TrimLeft (⟨#[]⟩) (⟨#[]⟩)) (FH_strings_TrimLeft n) O_strings_TrimLeft d
theorem eo_strings_TrimLeft (n : Nat) {d : List AV → List Go.Eng.Frame → Tr Res} (hd : ∀ ar up r, (d ar up).run = some r → runs KP lib n 34 ar up = some r) : ∀ ar up r, (E_strings_TrimLeft n d ar up).run = some r → runs KP lib n 34 ar up = some r :=
  cent_ok (fun hs r h => by
    unfold FH_strings_TrimLeft at h
    split at h
    · exact ⟨A_strings_TrimLeft _ _, U_strings_TrimLeft _ _, rfl, rfl, th_strings_TrimLeft n _ _ r h⟩
    · cases h) hd
/-! ### impl.within -/
def A_impl_within (x0 : Int) (x1 : Int) (x2 : Int) : List AV := [(.c (.p (.i .i64 x0))), (.c (.p (.i .i64 x1))), (.c (.p (.i .i64 x2)))]
def U_impl_within (x0 : Int) (x1 : Int) (x2 : Int) : List Go.Eng.Frame := []
def O_impl_within (r : Bool) : Res := ⟨(.c (.p (.b r))), [], []⟩
abbrev CT_impl_within (n : Nat) : CTab := mkCT []
abbrev LT_impl_within (n : Nat) : LTab := mkLT []
def T_impl_within (n : Nat) (x0 : Int) (x1 : Int) (x2 : Int) : Tr (Bool) := (.ask ((decide (x0 ≥ x1))) (.done (decide (x0 ≤ x2))) (.done false))
def F_impl_within : Nat → Int → Int → Int → Option (Bool)
  | 0, _, _, _ => none
  | n + 1, x0, x1, x2 => (T_impl_within n x0 x1 x2).run
theorem ft_impl_within (n : Nat) (x0 : Int) (x1 : Int) (x2 : Int) : funT (CT_impl_within n) (LT_impl_within n) K_impl_within (A_impl_within x0 x1 x2) (U_impl_within x0 x1 x2) = (T_impl_within n x0 x1 x2).bind fun r => .done (O_impl_within r) := by kernel_rfl
theorem ct_impl_within (n : Nat) : CTok (CT_impl_within n) (runs KP lib n) := mkCT_nil
theorem th_impl_within : ∀ (n : Nat) (x0 : Int) (x1 : Int) (x2 : Int) (r : Bool), F_impl_within n x0 x1 x2 = some r → runs KP lib n 39 (A_impl_within x0 x1 x2) (U_impl_within x0 x1 x2) = some (O_impl_within r)
  | 0, x0, x1, x2, r, h => by cases h
  | n + 1, x0, x1, x2, r, h => fun_step (kf := K_impl_within) rfl (ct_impl_within n) (noLoops rfl) (ft_impl_within n x0 x1 x2) h
def FH_impl_within (n : Nat) : Cont → Option (Bool)
  | ([[[.i x0]], [[.i x1]], [[.i x2]]], []) => F_impl_within n x0 x1 x2
  | _ => none
def E_impl_within (n : Nat) (d : List AV → List Go.Eng.Frame → Tr Res) : List AV → List Go.Eng.Frame → Tr Res := cent (A_impl_within (0) (0) (0)) (U_impl_within (0) (0) (0)) (FH_impl_within n) O_impl_within d
theorem eo_impl_within (n : Nat) {d : List AV → List Go.Eng.Frame → Tr Res} (hd : ∀ ar up r, (d ar up).run = some r → runs KP lib n 39 ar up = some r) : ∀ ar up r, (E_impl_within n d ar up).run = some r → runs KP lib n 39 ar up = some r :=
  cent_ok (fun hs r h => by
    unfold FH_impl_within at h
    split at h
    · exact ⟨A_impl_within _ _ _, U_impl_within _ _ _, rfl, rfl, th_impl_within n _ _ _ r h⟩
    · cases h) hd
/-! ### impl.ColText -/
def A_impl_ColText (x0 : Int) : List AV := [(.c (.p (.i .i64 x0)))]
def U_impl_ColText (x0 : Int) : List Go.Eng.Frame := []
def O_impl_ColText (r : ByteArray) : Res := ⟨(.c (.p (.s r))), [], []⟩
abbrev CT_impl_ColText (n : Nat) : CTab := mkCT [(39, E_impl_within n (noEnt))]
abbrev LT_impl_ColText (n : Nat) : LTab := mkLT []
def T_impl_ColText (n : Nat) (x0 : Int) : Tr (ByteArray) := (.opt (F_impl_within n x0 (1 : Int) (52 : Int)) fun r50 => (.ask ((!r50)) (.done (⟨#[]⟩ : ByteArray)) (.ask ((decide (x0 ≤ (26 : Int)))) (.ask (decide (1 = ([[(.i .u8 (IntKind.u8.wrap (IntKind.i64.wrap ((IntKind.i64.wrap ((65 : Int) + x0)) - (1 : Int)))))]] : List (List PV)).length)) (.opt (bytesOf ([[(.i .u8 (IntKind.u8.wrap (IntKind.i64.wrap ((IntKind.i64.wrap ((65 : Int) + x0)) - (1 : Int)))))]] : List (List PV))) fun l51 => (.done (⟨l51.toArray⟩ : ByteArray))) .fail) (.ask (decide (2 = ([[(.i .u8 (IntKind.u8.wrap (IntKind.i64.wrap ((IntKind.i64.wrap ((65 : Int) + (IntKind.i64.wrap (Int.tdiv (IntKind.i64.wrap (x0 - (1 : Int))) (26 : Int))))) - (1 : Int)))))], [(.i .u8 (IntKind.u8.wrap (IntKind.i64.wrap ((65 : Int) + (Int.tmod (IntKind.i64.wrap (x0 - (1 : Int))) (26 : Int))))))]] : List (List PV)).length)) (.opt (bytesOf ([[(.i .u8 (IntKind.u8.wrap (IntKind.i64.wrap ((IntKind.i64.wrap ((65 : Int) + (IntKind.i64.wrap (Int.tdiv (IntKind.i64.wrap (x0 - (1 : Int))) (26 : Int))))) - (1 : Int)))))], [(.i .u8 (IntKind.u8.wrap (IntKind.i64.wrap ((65 : Int) + (Int.tmod (IntKind.i64.wrap (x0 - (1 : Int))) (26 : Int))))))]] : List (List PV))) fun l52 => (.done (⟨l52.toArray⟩ : ByteArray))) .fail))))
def F_impl_ColText : Nat → Int → Option (ByteArray)
  | 0, _ => none
  | n + 1, x0 => (T_impl_ColText n x0).run
theorem ft_impl_ColText (n : Nat) (x0 : Int) : funT (CT_impl_ColText n) (LT_impl_ColText n) K_impl_ColText (A_impl_ColText x0) (U_impl_ColText x0) = (T_impl_ColText n x0).bind fun r => .done (O_impl_ColText r) := by kernel_rfl
theorem ct_impl_ColText (n : Nat) : CTok (CT_impl_ColText n) (runs KP lib n) := mkCT_cons (eo_impl_within n (noEnt_ok)) (mkCT_nil)
theorem th_impl_ColText : ∀ (n : Nat) (x0 : Int) (r : ByteArray), F_impl_ColText n x0 = some r → runs KP lib n 15 (A_impl_ColText x0) (U_impl_ColText x0) = some (O_impl_ColText r)
  | 0, x0, r, h => by cases h
  | n + 1, x0, r, h => fun_step (kf := K_impl_ColText) rfl (ct_impl_ColText n) (noLoops rfl) (ft_impl_ColText n x0) h
def FH_impl_ColText (n : Nat) : Cont → Option (ByteArray)
  | ([[[.i x0]]], []) => F_impl_ColText n x0
  | _ => none
def E_impl_ColText (n : Nat) (d : List AV → List Go.Eng.Frame → Tr Res) : List AV → List Go.Eng.Frame → Tr Res := cent (A_impl_ColText (0)) (U_impl_ColText (0)) (FH_impl_ColText n) O_impl_ColText d
theorem eo_impl_ColText (n : Nat) {d : List AV → List Go.Eng.Frame → Tr Res} (hd : ∀ ar up r, (d ar up).run = some r → runs KP lib n 15 ar up = some r) : ∀ ar up r, (E_impl_ColText n d ar up).run = some r → runs KP lib n 15 ar up = some r :=
  cent_ok (fun hs r h => by
    unfold FH_impl_ColText at h
    split at h
    · exact ⟨A_impl_ColText _, U_impl_ColText _, rfl, rfl, th_impl_ColText n _ r h⟩
    · cases h) hd
/-! ### impl.ReadCol -/
def A_impl_ReadCol (x0 : ByteArray) : List AV := [(.c (.p (.s x0)))]
def U_impl_ReadCol (x0 : ByteArray) : List Go.Eng.Frame := []
def O_impl_ReadCol (r : Int) : Res := ⟨(.c (.p (.i .i64 r))), [], []⟩
abbrev CT_impl_ReadCol (n : Nat) : CTab := mkCT [(15, E_impl_ColText n (noEnt))]
def S_impl_ReadCol_13 (v : ByteArray × Int) : St := ⟨[(0, (.c (.p (.s v.1)))), (3, (.c (.p (.i .i64 v.2))))], [], []⟩
def B_impl_ReadCol_13 (n : Nat) (v : ByteArray × Int) : Tr ((ByteArray × Int) ⊕ ((Int) ⊕ (Unit))) := (.ask ((decide (v.2 ≤ (52 : Int)))) (.opt (F_impl_ColText n v.2) fun r50 => (.ask ((r50.toList == v.1.toList)) (.done (.inr (.inl (v.2)))) (.done (.inl (v.1, (IntKind.i64.wrap (v.2 + (1 : Int)))))))) (.done (.inr (.inr (())))))
def D_impl_ReadCol_13 : ((Int) ⊕ (Unit)) → Ex × St := fun | .inl r => (.ret, ⟨[(2, (.c (.p (.i .i64 r))))], [], []⟩) | .inr r => (fun r => ((.exit 0), ⟨[], [], []⟩)) r
def DT_impl_ReadCol_13 : ((Int) ⊕ (Unit)) → Tr (Ex × St) := fun r => .alt r (fun r => .done (.ret, ⟨[(2, (.c (.p (.i .i64 r))))], [], []⟩)) (fun r => .done ((.exit 0), ⟨[], [], []⟩))
def VH_impl_ReadCol_13 : Cont3 → Option (ByteArray × Int)
  | ([[[.s w0]], [[.i w1]]], [], []) => some (w0, w1)
  | _ => none
abbrev LE_impl_ReadCol_13 (n : Nat) : St → Tr (Ex × St) := lent (S_impl_ReadCol_13 (⟨#[]⟩, 0)) VH_impl_ReadCol_13 (B_impl_ReadCol_13 n) DT_impl_ReadCol_13 n
abbrev LT_impl_ReadCol (n : Nat) : LTab := mkLT [(13, LE_impl_ReadCol_13 n)]
def T_impl_ReadCol (n : Nat) (x0 : ByteArray) : Tr (Int) := (.opt (loopF (B_impl_ReadCol_13 n) n (x0, (1 : Int))) fun r51 => (.alt r51 (fun r52 => (.done r52)) (fun r53 => (.done (0 : Int)))))
def F_impl_ReadCol : Nat → ByteArray → Option (Int)
  | 0, _ => none
  | n + 1, x0 => (T_impl_ReadCol n x0).run
theorem ft_impl_ReadCol (n : Nat) (x0 : ByteArray) : funT (CT_impl_ReadCol n) (LT_impl_ReadCol n) K_impl_ReadCol (A_impl_ReadCol x0) (U_impl_ReadCol x0) = (T_impl_ReadCol n x0).bind fun r => .done (O_impl_ReadCol r) := by kernel_rfl
theorem ct_impl_ReadCol (n : Nat) : CTok (CT_impl_ReadCol n) (runs KP lib n) := mkCT_cons (eo_impl_ColText n (noEnt_ok)) (mkCT_nil)
theorem lt_impl_ReadCol_13 (n : Nat) (v : ByteArray × Int) : (evalCT (CT_impl_ReadCol n) (mkLT []) K_impl_ReadCol_L13 (S_impl_ReadCol_13 v) []).bind (ltail [0, 3] [(.ret, [2]), ((.exit 0), [])]) = (B_impl_ReadCol_13 n v).bind (lenc S_impl_ReadCol_13 D_impl_ReadCol_13) := by
  obtain ⟨w0, w1⟩ := v
  kernel_rfl
theorem le_impl_ReadCol_13 (n : Nat) : LEok (runs KP lib n) n (13, [0, 3], [(.ret, [2]), ((.exit 0), [])], K_impl_ReadCol_L13) (LE_impl_ReadCol_13 n) := fun st e s h =>
  lent_ok (ct_impl_ReadCol n) (noLoops rfl) (lt_impl_ReadCol_13 n) (fun r => by
    rcases r with r | r <;> (intro h; cases h)) (fun r y h => by
    rcases r with r | r <;> (cases h; rfl)) (fun hs v h => by
    unfold VH_impl_ReadCol_13 at h
    split at h <;> cases h
    rfl) h
theorem lo_impl_ReadCol (n : Nat) : LTok (LT_impl_ReadCol n) (runs KP lib n) n K_impl_ReadCol.body := mkLT_ok (by
  intro x hx
  have hx : x ∈ ([(13, [0, 3], [(.ret, [2]), ((.exit 0), [])], K_impl_ReadCol_L13)] : List (Nat × List Nat × List (Ex × List Nat) × KCode)) := hx
  simp only [List.mem_cons, List.not_mem_nil, or_false] at hx
  rcases hx with rfl
  · exact ⟨LE_impl_ReadCol_13 n, fun st => rfl, le_impl_ReadCol_13 n⟩)
theorem th_impl_ReadCol : ∀ (n : Nat) (x0 : ByteArray) (r : Int), F_impl_ReadCol n x0 = some r → runs KP lib n 18 (A_impl_ReadCol x0) (U_impl_ReadCol x0) = some (O_impl_ReadCol r)
  | 0, x0, r, h => by cases h
  | n + 1, x0, r, h => fun_step (kf := K_impl_ReadCol) rfl (ct_impl_ReadCol n) (lo_impl_ReadCol n) (ft_impl_ReadCol n x0) h
def FH_impl_ReadCol (n : Nat) : Cont → Option (Int)
  | ([[[.s x0]]], []) => F_impl_ReadCol n x0
  | _ => none
def E_impl_ReadCol (n : Nat) (d : List AV → List Go.Eng.Frame → Tr Res) : List AV → List Go.Eng.Frame → Tr Res := cent (A_impl_ReadCol (⟨#[]⟩)) (U_impl_ReadCol (⟨#[]⟩)) (FH_impl_ReadCol n) O_impl_ReadCol d
theorem eo_impl_ReadCol (n : Nat) {d : List AV → List Go.Eng.Frame → Tr Res} (hd : ∀ ar up r, (d ar up).run = some r → runs KP lib n 18 ar up = some r) : ∀ ar up r, (E_impl_ReadCol n d ar up).run = some r → runs KP lib n 18 ar up = some r :=
  cent_ok (fun hs r h => by
    unfold FH_impl_ReadCol at h
    split at h
    · exact ⟨A_impl_ReadCol _, U_impl_ReadCol _, rfl, rfl, th_impl_ReadCol n _ r h⟩
    · cases h) hd
/-! ### strconv.ParseInt -/
def A_strconv_ParseInt (x0 : ByteArray) (x1 : Int) (x2 : Int) : List AV := [(.c (.p (.s x0))), (.c (.p (.i .i64 x1))), (.c (.p (.i .i64 x2)))]
def U_strconv_ParseInt (x0 : ByteArray) (x1 : Int) (x2 : Int) : List Go.Eng.Frame := []
def O_strconv_ParseInt : (Int) ⊕ (Int) → Res := fun | .inl r => ⟨(.tup [(false, [(.p (.i .i64 r))]), (false, [(.p .nif)])]), [], []⟩ | .inr r => ⟨(.tup [(false, [(.p (.i .i64 r))]), (false, [(.p .ifc)])]), [], []⟩
def F_strconv_ParseInt : Nat → ByteArray → Int → Int → Option ((Int) ⊕ (Int))
  | 0, _, _, _ => none
  | n + 1, x0, x1, x2 => L_strconv_ParseInt x0 x1 x2
theorem th_strconv_ParseInt : ∀ (n : Nat) (x0 : ByteArray) (x1 : Int) (x2 : Int) (r : (Int) ⊕ (Int)), F_strconv_ParseInt n x0 x1 x2 = some r → runs KP lib n 35 (A_strconv_ParseInt x0 x1 x2) (U_strconv_ParseInt x0 x1 x2) = some (O_strconv_ParseInt r)
  | 0, x0, x1, x2, r, h => by cases h
  | n + 1, x0, x1, x2, r, h => by
    have h : L_strconv_ParseInt x0 x1 x2 = some r := h
    rcases r with r | r
    · exact lib_step rfl (congrArg (Option.map Q_strconv_ParseInt_av) h)
    · exact lib_step rfl (congrArg (Option.map Q_strconv_ParseInt_av) h)
def FH_strconv_ParseInt (n : Nat) : Cont → Option ((Int) ⊕ (Int))
  | ([[[.s x0]], [[.i x1]], [[.i x2]]], []) => F_strconv_ParseInt n x0 x1 x2
  | _ => none
def E_strconv_ParseInt (n : Nat) (d : List AV → List Go.Eng.Frame → Tr Res) : List AV → List Go.Eng.Frame → Tr Res := cent2 (A_strconv_ParseInt (⟨#[]⟩) (0) (0)) (U_strconv_ParseInt (⟨#[]⟩) (0) (0)) (FH_strconv_ParseInt n) O_strconv_ParseInt d
theorem eo_strconv_ParseInt (n : Nat) {d : List AV → List Go.Eng.Frame → Tr Res} (hd : ∀ ar up r, (d ar up).run = some r → runs KP lib n 35 ar up = some r) : ∀ ar up r, (E_strconv_ParseInt n d ar up).run = some r → runs KP lib n 35 ar up = some r :=
  cent2_ok (fun hs r h => by
    unfold FH_strconv_ParseInt at h
    split at h
    · exact ⟨A_strconv_ParseInt _ _ _, U_strconv_ParseInt _ _ _, rfl, rfl, th_strconv_ParseInt n _ _ _ r h⟩
    · cases h) hd
/-! ### impl.RefOk -/
def A_impl_RefOk (x0 : Int) (x1 : Int) : List AV := [(.agg [(.p (.i .i64 x0)), (.p (.i .i64 x1))])]
def U_impl_RefOk (x0 : Int) (x1 : Int) : List Go.Eng.Frame := []
def O_impl_RefOk (r : Bool) : Res := ⟨(.c (.p (.b r))), [], []⟩
abbrev CT_impl_RefOk (n : Nat) : CTab := mkCT [(39, E_impl_within n (noEnt))]
abbrev LT_impl_RefOk (n : Nat) : LTab := mkLT []
def T_impl_RefOk (n : Nat) (x0 : Int) (x1 : Int) : Tr (Bool) := (.opt (F_impl_within n x0 (1 : Int) (52 : Int)) fun r59 => (.ask (r59) (.opt (F_impl_within n x1 (1 : Int) (99 : Int)) fun r60 => (.done r60)) (.done false)))
def F_impl_RefOk : Nat → Int → Int → Option (Bool)
  | 0, _, _ => none
  | n + 1, x0, x1 => (T_impl_RefOk n x0 x1).run
theorem ft_impl_RefOk (n : Nat) (x0 : Int) (x1 : Int) : funT (CT_impl_RefOk n) (LT_impl_RefOk n) K_impl_RefOk (A_impl_RefOk x0 x1) (U_impl_RefOk x0 x1) = (T_impl_RefOk n x0 x1).bind fun r => .done (O_impl_RefOk r) := by kernel_rfl
theorem ct_impl_RefOk (n : Nat) : CTok (CT_impl_RefOk n) (runs KP lib n) := mkCT_cons (eo_impl_within n (noEnt_ok)) (mkCT_nil)
theorem th_impl_RefOk : ∀ (n : Nat) (x0 : Int) (x1 : Int) (r : Bool), F_impl_RefOk n x0 x1 = some r → runs KP lib n 21 (A_impl_RefOk x0 x1) (U_impl_RefOk x0 x1) = some (O_impl_RefOk r)
  | 0, x0, x1, r, h => by cases h
  | n + 1, x0, x1, r, h => fun_step (kf := K_impl_RefOk) rfl (ct_impl_RefOk n) (noLoops rfl) (ft_impl_RefOk n x0 x1) h
def FH_impl_RefOk (n : Nat) : Cont → Option (Bool)
  | ([[[.i x0], [.i x1]]], []) => F_impl_RefOk n x0 x1
  | _ => none
def E_impl_RefOk (n : Nat) (d : List AV → List Go.Eng.Frame → Tr Res) : List AV → List Go.Eng.Frame → Tr Res := cent (A_impl_RefOk (0) (0)) (U_impl_RefOk (0) (0)) (FH_impl_RefOk n) O_impl_RefOk d
theorem eo_impl_RefOk (n : Nat) {d : List AV → List Go.Eng.Frame → Tr Res} (hd : ∀ ar up r, (d ar up).run = some r → runs KP lib n 21 ar up = some r) : ∀ ar up r, (E_impl_RefOk n d ar up).run = some r → runs KP lib n 21 ar up = some r :=
  cent_ok (fun hs r h => by
    unfold FH_impl_RefOk at h
    split at h
    · exact ⟨A_impl_RefOk _ _, U_impl_RefOk _ _, rfl, rfl, th_impl_RefOk n _ _ r h⟩
    · cases h) hd
/-! ### strconv.FormatInt -/
def A_strconv_FormatInt (x0 : Int) (x1 : Int) : List AV := [(.c (.p (.i .i64 x0))), (.c (.p (.i .i64 x1)))]
def U_strconv_FormatInt (x0 : Int) (x1 : Int) : List Go.Eng.Frame := []
def O_strconv_FormatInt (r : (ByteArray)) : Res := ⟨(.c (.p (.s r))), [], []⟩
def F_strconv_FormatInt : Nat → Int → Int → Option ((ByteArray))
  | 0, _, _ => none
  | n + 1, x0, x1 => L_strconv_FormatInt x0 x1
theorem th_strconv_FormatInt : ∀ (n : Nat) (x0 : Int) (x1 : Int) (r : (ByteArray)), F_strconv_FormatInt n x0 x1 = some r → runs KP lib n 52 (A_strconv_FormatInt x0 x1) (U_strconv_FormatInt x0 x1) = some (O_strconv_FormatInt r)
  | 0, x0, x1, r, h => by cases h
  | n + 1, x0, x1, r, h => by
    have h : L_strconv_FormatInt x0 x1 = some r := h
    exact lib_step rfl (congrArg (Option.map fun r : (ByteArray) => ((.c (.p (.s r))) : AV)) h)
def FH_strconv_FormatInt (n : Nat) : Cont → Option ((ByteArray))
  | ([[[.i x0]], [[.i x1]]], []) => F_strconv_FormatInt n x0 x1
  | _ => none
def E_strconv_FormatInt (n : Nat) (d : List AV → List Go.Eng.Frame → Tr Res) : List AV → List Go.Eng.Frame → Tr Res := cent (A_strconv_FormatInt (0) (0)) (U_strconv_FormatInt (0) (0)) (FH_strconv_FormatInt n) O_strconv_FormatInt d
theorem eo_strconv_FormatInt (n : Nat) {d : List AV → List Go.Eng.Frame → Tr Res} (hd : ∀ ar up r, (d ar up).run = some r → runs KP lib n 52 ar up = some r) : ∀ ar up r, (E_strconv_FormatInt n d ar up).run = some r → runs KP lib n 52 ar up = some r :=
  cent_ok (fun hs r h => by
    unfold FH_strconv_FormatInt at h
    split at h
    · exact ⟨A_strconv_FormatInt _ _, U_strconv_FormatInt _ _, rfl, rfl, th_strconv_FormatInt n _ _ r h⟩
    · cases h) hd
/-! ### impl.decimal -/
def A_impl_decimal (x0 : Int) : List AV := [(.c (.p (.i .i64 x0)))]
def U_impl_decimal (x0 : Int) : List Go.Eng.Frame := []
def O_impl_decimal (r : ByteArray) : Res := ⟨(.c (.p (.s r))), [], []⟩
abbrev CT_impl_decimal (n : Nat) : CTab := mkCT [(52, E_strconv_FormatInt n (noEnt))]
abbrev LT_impl_decimal (n : Nat) : LTab := mkLT []
def T_impl_decimal (n : Nat) (x0 : Int) : Tr (ByteArray) := (.opt (F_strconv_FormatInt n x0 (10 : Int)) fun r64 => (.done r64))
def F_impl_decimal : Nat → Int → Option (ByteArray)
  | 0, _ => none
  | n + 1, x0 => (T_impl_decimal n x0).run
theorem ft_impl_decimal (n : Nat) (x0 : Int) : funT (CT_impl_decimal n) (LT_impl_decimal n) K_impl_decimal (A_impl_decimal x0) (U_impl_decimal x0) = (T_impl_decimal n x0).bind fun r => .done (O_impl_decimal r) := by kernel_rfl
theorem ct_impl_decimal (n : Nat) : CTok (CT_impl_decimal n) (runs KP lib n) := mkCT_cons (eo_strconv_FormatInt n (noEnt_ok)) (mkCT_nil)
theorem th_impl_decimal : ∀ (n : Nat) (x0 : Int) (r : ByteArray), F_impl_decimal n x0 = some r → runs KP lib n 31 (A_impl_decimal x0) (U_impl_decimal x0) = some (O_impl_decimal r)
  | 0, x0, r, h => by cases h
  | n + 1, x0, r, h => fun_step (kf := K_impl_decimal) rfl (ct_impl_decimal n) (noLoops rfl) (ft_impl_decimal n x0) h
def FH_impl_decimal (n : Nat) : Cont → Option (ByteArray)
  | ([[[.i x0]]], []) => F_impl_decimal n x0
  | _ => none
def E_impl_decimal (n : Nat) (d : List AV → List Go.Eng.Frame → Tr Res) : List AV → List Go.Eng.Frame → Tr Res := cent (A_impl_decimal (0)) (U_impl_decimal (0)) (FH_impl_decimal n) O_impl_decimal d
theorem eo_impl_decimal (n : Nat) {d : List AV → List Go.Eng.Frame → Tr Res} (hd : ∀ ar up r, (d ar up).run = some r → runs KP lib n 31 ar up = some r) : ∀ ar up r, (E_impl_decimal n d ar up).run = some r → runs KP lib n 31 ar up = some r :=
  cent_ok (fun hs r h => by
    unfold FH_impl_decimal at h
    split at h
    · exact ⟨A_impl_decimal _, U_impl_decimal _, rfl, rfl, th_impl_decimal n _ r h⟩
    · cases h) hd
/-! ### impl.PlaceText -/
def A_impl_PlaceText (x0 : Int) (x1 : Int) (x2 : Bool) (x3 : Bool) : List AV := [(.agg [(.p (.i .i64 x0)), (.p (.i .i64 x1)), (.p (.b x2)), (.p (.b x3))])]
def U_impl_PlaceText (x0 : Int) (x1 : Int) (x2 : Bool) (x3 : Bool) : List Go.Eng.Frame := []
def O_impl_PlaceText (r : ByteArray) : Res := ⟨(.c (.p (.s r))), [], []⟩
abbrev CT_impl_PlaceText (n : Nat) : CTab := mkCT [(21, E_impl_RefOk n (noEnt)), (15, E_impl_ColText n (noEnt)), (31, E_impl_decimal n (noEnt))]
abbrev LT_impl_PlaceText (n : Nat) : LTab := mkLT []
def T_impl_PlaceText (n : Nat) (x0 : Int) (x1 : Int) (x2 : Bool) (x3 : Bool) : Tr (ByteArray) := (.opt (F_impl_RefOk n x0 x1) fun r62 => (.ask ((!r62)) (.done (⟨#[]⟩ : ByteArray)) (.ask (x2) (.opt (F_impl_ColText n x0) fun r63 => (.ask (decide ((⟨#[36]⟩ : ByteArray).size + r63.size ≤ 9223372036854775807)) (.ask (x3) (.ask (decide (((⟨#[36]⟩ : ByteArray) ++ r63).size + (⟨#[36]⟩ : ByteArray).size ≤ 9223372036854775807)) (.opt (F_impl_decimal n x1) fun r65 => (.ask (decide ((((⟨#[36]⟩ : ByteArray) ++ r63) ++ (⟨#[36]⟩ : ByteArray)).size + r65.size ≤ 9223372036854775807)) (.done ((((⟨#[36]⟩ : ByteArray) ++ r63) ++ (⟨#[36]⟩ : ByteArray)) ++ r65)) .fail)) .fail) (.opt (F_impl_decimal n x1) fun r66 => (.ask (decide (((⟨#[36]⟩ : ByteArray) ++ r63).size + r66.size ≤ 9223372036854775807)) (.done (((⟨#[36]⟩ : ByteArray) ++ r63) ++ r66)) .fail))) .fail)) (.opt (F_impl_ColText n x0) fun r67 => (.ask (decide ((⟨#[]⟩ : ByteArray).size + r67.size ≤ 9223372036854775807)) (.ask (x3) (.ask (decide (((⟨#[]⟩ : ByteArray) ++ r67).size + (⟨#[36]⟩ : ByteArray).size ≤ 9223372036854775807)) (.opt (F_impl_decimal n x1) fun r68 => (.ask (decide ((((⟨#[]⟩ : ByteArray) ++ r67) ++ (⟨#[36]⟩ : ByteArray)).size + r68.size ≤ 9223372036854775807)) (.done ((((⟨#[]⟩ : ByteArray) ++ r67) ++ (⟨#[36]⟩ : ByteArray)) ++ r68)) .fail)) .fail) (.opt (F_impl_decimal n x1) fun r69 => (.ask (decide (((⟨#[]⟩ : ByteArray) ++ r67).size + r69.size ≤ 9223372036854775807)) (.done (((⟨#[]⟩ : ByteArray) ++ r67) ++ r69)) .fail))) .fail)))))
def F_impl_PlaceText : Nat → Int → Int → Bool → Bool → Option (ByteArray)
  | 0, _, _, _, _ => none
  | n + 1, x0, x1, x2, x3 => (T_impl_PlaceText n x0 x1 x2 x3).run
theorem ft_impl_PlaceText (n : Nat) (x0 : Int) (x1 : Int) (x2 : Bool) (x3 : Bool) : funT (CT_impl_PlaceText n) (LT_impl_PlaceText n) K_impl_PlaceText (A_impl_PlaceText x0 x1 x2 x3) (U_impl_PlaceText x0 x1 x2 x3) = (T_impl_PlaceText n x0 x1 x2 x3).bind fun r => .done (O_impl_PlaceText r) := by kernel_rfl
theorem ct_impl_PlaceText (n : Nat) : CTok (CT_impl_PlaceText n) (runs KP lib n) := mkCT_cons (eo_impl_RefOk n (noEnt_ok)) (mkCT_cons (eo_impl_ColText n (noEnt_ok)) (mkCT_cons (eo_impl_decimal n (noEnt_ok)) (mkCT_nil)))
theorem th_impl_PlaceText : ∀ (n : Nat) (x0 : Int) (x1 : Int) (x2 : Bool) (x3 : Bool) (r : ByteArray), F_impl_PlaceText n x0 x1 x2 x3 = some r → runs KP lib n 9 (A_impl_PlaceText x0 x1 x2 x3) (U_impl_PlaceText x0 x1 x2 x3) = some (O_impl_PlaceText r)
  | 0, x0, x1, x2, x3, r, h => by cases h
  | n + 1, x0, x1, x2, x3, r, h => fun_step (kf := K_impl_PlaceText) rfl (ct_impl_PlaceText n) (noLoops rfl) (ft_impl_PlaceText n x0 x1 x2 x3) h
def FH_impl_PlaceText (n : Nat) : Cont → Option (ByteArray)
  | ([[[.i x0], [.i x1], [.b x2], [.b x3]]], []) => F_impl_PlaceText n x0 x1 x2 x3
  | _ => none
def E_impl_PlaceText (n : Nat) (d : List AV → List Go.Eng.Frame → Tr Res) : List AV → List Go.Eng.Frame → Tr Res := cent (A_impl_PlaceText (0) (0) (false) (false)) (U_impl_PlaceText (0) (0) (false) (false)) (FH_impl_PlaceText n) O_impl_PlaceText d
theorem eo_impl_PlaceText (n : Nat) {d : List AV → List Go.Eng.Frame → Tr Res} (hd : ∀ ar up r, (d ar up).run = some r → runs KP lib n 9 ar up = some r) : ∀ ar up r, (E_impl_PlaceText n d ar up).run = some r → runs KP lib n 9 ar up = some r :=
  cent_ok (fun hs r h => by
    unfold FH_impl_PlaceText at h
    split at h
    · exact ⟨A_impl_PlaceText _ _ _ _, U_impl_PlaceText _ _ _ _, rfl, rfl, th_impl_PlaceText n _ _ _ _ r h⟩
    · cases h) hd
/-! ### impl.ReadPlace -/
def A_impl_ReadPlace (x0 : ByteArray) : List AV := [(.c (.p (.s x0)))]
def U_impl_ReadPlace (x0 : ByteArray) : List Go.Eng.Frame := []
def O_impl_ReadPlace (r : Int × Int × Bool × Bool × Bool) : Res := ⟨(.tup [(true, [(.p (.i .i64 r.1)), (.p (.i .i64 r.2.1)), (.p (.b r.2.2.1)), (.p (.b r.2.2.2.1))]), (false, [(.p (.b r.2.2.2.2))])]), [], []⟩
abbrev CT_impl_ReadPlace (n : Nat) : CTab := mkCT [(33, E_strings_CutPrefix n (noEnt)), (34, E_strings_TrimLeft n (noEnt)), (18, E_impl_ReadCol n (noEnt)), (35, E_strconv_ParseInt n (noEnt)), (21, E_impl_RefOk n (noEnt)), (9, E_impl_PlaceText n (noEnt))]
abbrev LT_impl_ReadPlace (n : Nat) : LTab := mkLT []
def T_impl_ReadPlace (n : Nat) (x0 : ByteArray) : Tr (Int × Int × Bool × Bool × Bool) := (.opt (F_strings_CutPrefix n x0 (⟨#[36]⟩ : ByteArray)) fun r48 => (.opt (F_strings_TrimLeft n r48.1 (⟨#[65, 66, 67, 68, 69, 70, 71, 72, 73, 74, 75, 76, 77, 78, 79, 80, 81, 82, 83, 84, 85, 86, 87, 88, 89, 90]⟩ : ByteArray)) fun r49 => (.ask (decide (0 ≤ (0 : Int) ∧ (0 : Int) ≤ (IntKind.i64.wrap ((r48.1.size : Int) - (r49.size : Int))) ∧ (IntKind.i64.wrap ((r48.1.size : Int) - (r49.size : Int))) ≤ r48.1.size)) (.opt (F_impl_ReadCol n (r48.1.extract ((0 : Int)).toNat ((IntKind.i64.wrap ((r48.1.size : Int) - (r49.size : Int)))).toNat)) fun r54 => (.ask (decide (0 ≤ (IntKind.i64.wrap ((r48.1.size : Int) - (r49.size : Int))) ∧ (IntKind.i64.wrap ((r48.1.size : Int) - (r49.size : Int))) ≤ (r48.1.size : Int) ∧ (r48.1.size : Int) ≤ r48.1.size)) (.opt (F_strings_CutPrefix n (r48.1.extract ((IntKind.i64.wrap ((r48.1.size : Int) - (r49.size : Int)))).toNat ((r48.1.size : Int)).toNat) (⟨#[36]⟩ : ByteArray)) fun r55 => (.opt (F_strconv_ParseInt n r55.1 (10 : Int) (64 : Int)) fun r56 => (.alt r56 (fun r57 => (.opt (F_impl_RefOk n r54 r57) fun r61 => (.ask ((!r61)) (.done ((0 : Int), (0 : Int), false, false, false)) (.opt (F_impl_PlaceText n r54 r57 r48.2 r55.2) fun r70 => (.ask ((!(r70.toList == x0.toList))) (.done ((0 : Int), (0 : Int), false, false, false)) (.done (r54, r57, r48.2, r55.2, true))))))) (fun r58 => (.opt (F_impl_RefOk n r54 r58) fun r71 => (.ask ((!r71)) (.done ((0 : Int), (0 : Int), false, false, false)) (.opt (F_impl_PlaceText n r54 r58 r48.2 r55.2) fun r72 => (.ask ((!(r72.toList == x0.toList))) (.done ((0 : Int), (0 : Int), false, false, false)) (.done (r54, r58, r48.2, r55.2, true)))))))))) .fail)) .fail)))
def F_impl_ReadPlace : Nat → ByteArray → Option (Int × Int × Bool × Bool × Bool)
  | 0, _ => none
  | n + 1, x0 => (T_impl_ReadPlace n x0).run
theorem ft_impl_ReadPlace (n : Nat) (x0 : ByteArray) : funT (CT_impl_ReadPlace n) (LT_impl_ReadPlace n) K_impl_ReadPlace (A_impl_ReadPlace x0) (U_impl_ReadPlace x0) = (T_impl_ReadPlace n x0).bind fun r => .done (O_impl_ReadPlace r) := by kernel_rfl
theorem ct_impl_ReadPlace (n : Nat) : CTok (CT_impl_ReadPlace n) (runs KP lib n) := mkCT_cons (eo_strings_CutPrefix n (noEnt_ok)) (mkCT_cons (eo_strings_TrimLeft n (noEnt_ok)) (mkCT_cons (eo_impl_ReadCol n (noEnt_ok)) (mkCT_cons (eo_strconv_ParseInt n (noEnt_ok)) (mkCT_cons (eo_impl_RefOk n (noEnt_ok)) (mkCT_cons (eo_impl_PlaceText n (noEnt_ok)) (mkCT_nil))))))
theorem th_impl_ReadPlace : ∀ (n : Nat) (x0 : ByteArray) (r : Int × Int × Bool × Bool × Bool), F_impl_ReadPlace n x0 = some r → runs KP lib n 11 (A_impl_ReadPlace x0) (U_impl_ReadPlace x0) = some (O_impl_ReadPlace r)
  | 0, x0, r, h => by cases h
  | n + 1, x0, r, h => fun_step (kf := K_impl_ReadPlace) rfl (ct_impl_ReadPlace n) (noLoops rfl) (ft_impl_ReadPlace n x0) h
def FH_impl_ReadPlace (n : Nat) : Cont → Option (Int × Int × Bool × Bool × Bool)
  | ([[[.s x0]]], []) => F_impl_ReadPlace n x0
  | _ => none
def E_impl_ReadPlace (n : Nat) (d : List AV → List Go.Eng.Frame → Tr Res) : List AV → List Go.Eng.Frame → Tr Res := cent (A_impl_ReadPlace (⟨#[]⟩)) (U_impl_ReadPlace (⟨#[]⟩)) (FH_impl_ReadPlace n) O_impl_ReadPlace d
theorem eo_impl_ReadPlace (n : Nat) {d : List AV → List Go.Eng.Frame → Tr Res} (hd : ∀ ar up r, (d ar up).run = some r → runs KP lib n 11 ar up = some r) : ∀ ar up r, (E_impl_ReadPlace n d ar up).run = some r → runs KP lib n 11 ar up = some r :=
  cent_ok (fun hs r h => by
    unfold FH_impl_ReadPlace at h
    split at h
    · exact ⟨A_impl_ReadPlace _, U_impl_ReadPlace _, rfl, rfl, th_impl_ReadPlace n _ r h⟩
    · cases h) hd
/-! ### laws.eqRef -/
def A_laws_eqRef (x0 : Int) (x1 : Int) (x2 : Int) (x3 : Int) : List AV := [(.agg [(.p (.i .i64 x0)), (.p (.i .i64 x1))]), (.agg [(.p (.i .i64 x2)), (.p (.i .i64 x3))])]
def U_laws_eqRef (x0 : Int) (x1 : Int) (x2 : Int) (x3 : Int) : List Go.Eng.Frame := []
def O_laws_eqRef (r : Bool) : Res := ⟨(.c (.p (.b r))), [], []⟩
abbrev CT_laws_eqRef (n : Nat) : CTab := mkCT []
abbrev LT_laws_eqRef (n : Nat) : LTab := mkLT []
def T_laws_eqRef (n : Nat) (x0 : Int) (x1 : Int) (x2 : Int) (x3 : Int) : Tr (Bool) := (.ask ((x0 != x2)) (.done false) (.ask ((x1 != x3)) (.done false) (.done true)))
def F_laws_eqRef : Nat → Int → Int → Int → Int → Option (Bool)
  | 0, _, _, _, _ => none
  | n + 1, x0, x1, x2, x3 => (T_laws_eqRef n x0 x1 x2 x3).run
theorem ft_laws_eqRef (n : Nat) (x0 : Int) (x1 : Int) (x2 : Int) (x3 : Int) : funT (CT_laws_eqRef n) (LT_laws_eqRef n) K_laws_eqRef (A_laws_eqRef x0 x1 x2 x3) (U_laws_eqRef x0 x1 x2 x3) = (T_laws_eqRef n x0 x1 x2 x3).bind fun r => .done (O_laws_eqRef r) := by kernel_rfl
theorem ct_laws_eqRef (n : Nat) : CTok (CT_laws_eqRef n) (runs KP lib n) := mkCT_nil
theorem th_laws_eqRef : ∀ (n : Nat) (x0 : Int) (x1 : Int) (x2 : Int) (x3 : Int) (r : Bool), F_laws_eqRef n x0 x1 x2 x3 = some r → runs KP lib n 36 (A_laws_eqRef x0 x1 x2 x3) (U_laws_eqRef x0 x1 x2 x3) = some (O_laws_eqRef r)
  | 0, x0, x1, x2, x3, r, h => by cases h
  | n + 1, x0, x1, x2, x3, r, h => fun_step (kf := K_laws_eqRef) rfl (ct_laws_eqRef n) (noLoops rfl) (ft_laws_eqRef n x0 x1 x2 x3) h
def FH_laws_eqRef (n : Nat) : Cont → Option (Bool)
  | ([[[.i x0], [.i x1]], [[.i x2], [.i x3]]], []) => F_laws_eqRef n x0 x1 x2 x3
  | _ => none
def E_laws_eqRef (n : Nat) (d : List AV → List Go.Eng.Frame → Tr Res) : List AV → List Go.Eng.Frame → Tr Res := cent (A_laws_eqRef (0) (0) (0) (0)) (U_laws_eqRef (0) (0) (0) (0)) (FH_laws_eqRef n) O_laws_eqRef d
theorem eo_laws_eqRef (n : Nat) {d : List AV → List Go.Eng.Frame → Tr Res} (hd : ∀ ar up r, (d ar up).run = some r → runs KP lib n 36 ar up = some r) : ∀ ar up r, (E_laws_eqRef n d ar up).run = some r → runs KP lib n 36 ar up = some r :=
  cent_ok (fun hs r h => by
    unfold FH_laws_eqRef at h
    split at h
    · exact ⟨A_laws_eqRef _ _ _ _, U_laws_eqRef _ _ _ _, rfl, rfl, th_laws_eqRef n _ _ _ _ r h⟩
    · cases h) hd
/-! ### laws.eqPlace -/
def A_laws_eqPlace (x0 : Int) (x1 : Int) (x2 : Bool) (x3 : Bool) (x4 : Int) (x5 : Int) (x6 : Bool) (x7 : Bool) : List AV := [(.agg [(.p (.i .i64 x0)), (.p (.i .i64 x1)), (.p (.b x2)), (.p (.b x3))]), (.agg [(.p (.i .i64 x4)), (.p (.i .i64 x5)), (.p (.b x6)), (.p (.b x7))])]
def U_laws_eqPlace (x0 : Int) (x1 : Int) (x2 : Bool) (x3 : Bool) (x4 : Int) (x5 : Int) (x6 : Bool) (x7 : Bool) : List Go.Eng.Frame := []
def O_laws_eqPlace (r : Bool) : Res := ⟨(.c (.p (.b r))), [], []⟩
abbrev CT_laws_eqPlace (n : Nat) : CTab := mkCT [(36, E_laws_eqRef n (noEnt))]
abbrev LT_laws_eqPlace (n : Nat) : LTab := mkLT []
def T_laws_eqPlace (n : Nat) (x0 : Int) (x1 : Int) (x2 : Bool) (x3 : Bool) (x4 : Int) (x5 : Int) (x6 : Bool) (x7 : Bool) : Tr (Bool) := (.opt (F_laws_eqRef n x0 x1 x4 x5) fun r74 => (.ask ((!r74)) (.done false) (.ask ((!(x2 == x6))) (.done false) (.ask ((!(x3 == x7))) (.done false) (.done true)))))
def F_laws_eqPlace : Nat → Int → Int → Bool → Bool → Int → Int → Bool → Bool → Option (Bool)
  | 0, _, _, _, _, _, _, _, _ => none
  | n + 1, x0, x1, x2, x3, x4, x5, x6, x7 => (T_laws_eqPlace n x0 x1 x2 x3 x4 x5 x6 x7).run
theorem ft_laws_eqPlace (n : Nat) (x0 : Int) (x1 : Int) (x2 : Bool) (x3 : Bool) (x4 : Int) (x5 : Int) (x6 : Bool) (x7 : Bool) : funT (CT_laws_eqPlace n) (LT_laws_eqPlace n) K_laws_eqPlace (A_laws_eqPlace x0 x1 x2 x3 x4 x5 x6 x7) (U_laws_eqPlace x0 x1 x2 x3 x4 x5 x6 x7) = (T_laws_eqPlace n x0 x1 x2 x3 x4 x5 x6 x7).bind fun r => .done (O_laws_eqPlace r) := by kernel_rfl
theorem ct_laws_eqPlace (n : Nat) : CTok (CT_laws_eqPlace n) (runs KP lib n) := mkCT_cons (eo_laws_eqRef n (noEnt_ok)) (mkCT_nil)
theorem th_laws_eqPlace : ∀ (n : Nat) (x0 : Int) (x1 : Int) (x2 : Bool) (x3 : Bool) (x4 : Int) (x5 : Int) (x6 : Bool) (x7 : Bool) (r : Bool), F_laws_eqPlace n x0 x1 x2 x3 x4 x5 x6 x7 = some r → runs KP lib n 12 (A_laws_eqPlace x0 x1 x2 x3 x4 x5 x6 x7) (U_laws_eqPlace x0 x1 x2 x3 x4 x5 x6 x7) = some (O_laws_eqPlace r)
  | 0, x0, x1, x2, x3, x4, x5, x6, x7, r, h => by cases h
  | n + 1, x0, x1, x2, x3, x4, x5, x6, x7, r, h => fun_step (kf := K_laws_eqPlace) rfl (ct_laws_eqPlace n) (noLoops rfl) (ft_laws_eqPlace n x0 x1 x2 x3 x4 x5 x6 x7) h
def FH_laws_eqPlace (n : Nat) : Cont → Option (Bool)
  | ([[[.i x0], [.i x1], [.b x2], [.b x3]], [[.i x4], [.i x5], [.b x6], [.b x7]]], []) => F_laws_eqPlace n x0 x1 x2 x3 x4 x5 x6 x7
  | _ => none
def E_laws_eqPlace (n : Nat) (d : List AV → List Go.Eng.Frame → Tr Res) : List AV → List Go.Eng.Frame → Tr Res := cent (A_laws_eqPlace (0) (0) (false) (false) (0) (0) (false) (false)) (U_laws_eqPlace (0) (0) (false) (false) (0) (0) (false) (false)) (FH_laws_eqPlace n) O_laws_eqPlace d
theorem eo_laws_eqPlace (n : Nat) {d : List AV → List Go.Eng.Frame → Tr Res} (hd : ∀ ar up r, (d ar up).run = some r → runs KP lib n 12 ar up = some r) : ∀ ar up r, (E_laws_eqPlace n d ar up).run = some r → runs KP lib n 12 ar up = some r :=
  cent_ok (fun hs r h => by
    unfold FH_laws_eqPlace at h
    split at h
    · exact ⟨A_laws_eqPlace _ _ _ _ _ _ _ _, U_laws_eqPlace _ _ _ _ _ _ _ _, rfl, rfl, th_laws_eqPlace n _ _ _ _ _ _ _ _ r h⟩
    · cases h) hd
/-! ### laws.FnExactReadPlace -/
def A_laws_FnExactReadPlace (x0 : ByteArray) : List AV := [(.c (.p (.s x0)))]
def U_laws_FnExactReadPlace (x0 : ByteArray) : List Go.Eng.Frame := []
def O_laws_FnExactReadPlace (r : Bool) : Res := ⟨(.c (.p (.b r))), [], []⟩
abbrev CT_laws_FnExactReadPlace (n : Nat) : CTab := mkCT [(10, E_spec_ReadPlace n (noEnt)), (11, E_impl_ReadPlace n (noEnt)), (12, E_laws_eqPlace n (noEnt))]
abbrev LT_laws_FnExactReadPlace (n : Nat) : LTab := mkLT []
def T_laws_FnExactReadPlace (n : Nat) (x0 : ByteArray) : Tr (Bool) := (.ask ((decide ((x0.size : Int) > (1048576 : Int)))) (.done true) (.opt (F_spec_ReadPlace n x0) fun r47 => (.opt (F_impl_ReadPlace n x0) fun r73 => (.opt (F_laws_eqPlace n r73.1 r73.2.1 r73.2.2.1 r73.2.2.2.1 r47.1 r47.2.1 r47.2.2.1 r47.2.2.2.1) fun r75 => (.ask ((!r75)) (.done false) (.ask ((!(r73.2.2.2.2 == r47.2.2.2.2))) (.done false) (.done true)))))))
def F_laws_FnExactReadPlace : Nat → ByteArray → Option (Bool)
  | 0, _ => none
  | n + 1, x0 => (T_laws_FnExactReadPlace n x0).run
theorem ft_laws_FnExactReadPlace (n : Nat) (x0 : ByteArray) : funT (CT_laws_FnExactReadPlace n) (LT_laws_FnExactReadPlace n) K_laws_FnExactReadPlace (A_laws_FnExactReadPlace x0) (U_laws_FnExactReadPlace x0) = (T_laws_FnExactReadPlace n x0).bind fun r => .done (O_laws_FnExactReadPlace r) := by kernel_rfl
theorem ct_laws_FnExactReadPlace (n : Nat) : CTok (CT_laws_FnExactReadPlace n) (runs KP lib n) := mkCT_cons (eo_spec_ReadPlace n (noEnt_ok)) (mkCT_cons (eo_impl_ReadPlace n (noEnt_ok)) (mkCT_cons (eo_laws_eqPlace n (noEnt_ok)) (mkCT_nil)))
theorem th_laws_FnExactReadPlace : ∀ (n : Nat) (x0 : ByteArray) (r : Bool), F_laws_FnExactReadPlace n x0 = some r → runs KP lib n 4 (A_laws_FnExactReadPlace x0) (U_laws_FnExactReadPlace x0) = some (O_laws_FnExactReadPlace r)
  | 0, x0, r, h => by cases h
  | n + 1, x0, r, h => fun_step (kf := K_laws_FnExactReadPlace) rfl (ct_laws_FnExactReadPlace n) (noLoops rfl) (ft_laws_FnExactReadPlace n x0) h
def FH_laws_FnExactReadPlace (n : Nat) : Cont → Option (Bool)
  | ([[[.s x0]]], []) => F_laws_FnExactReadPlace n x0
  | _ => none
def E_laws_FnExactReadPlace (n : Nat) (d : List AV → List Go.Eng.Frame → Tr Res) : List AV → List Go.Eng.Frame → Tr Res := cent (A_laws_FnExactReadPlace (⟨#[]⟩)) (U_laws_FnExactReadPlace (⟨#[]⟩)) (FH_laws_FnExactReadPlace n) O_laws_FnExactReadPlace d
theorem eo_laws_FnExactReadPlace (n : Nat) {d : List AV → List Go.Eng.Frame → Tr Res} (hd : ∀ ar up r, (d ar up).run = some r → runs KP lib n 4 ar up = some r) : ∀ ar up r, (E_laws_FnExactReadPlace n d ar up).run = some r → runs KP lib n 4 ar up = some r :=
  cent_ok (fun hs r h => by
    unfold FH_laws_FnExactReadPlace at h
    split at h
    · exact ⟨A_laws_FnExactReadPlace _, U_laws_FnExactReadPlace _, rfl, rfl, th_laws_FnExactReadPlace n _ r h⟩
    · cases h) hd
end Go.Proofs.YtaannlnlddbgdabDoor.KFnExactReadPlace
