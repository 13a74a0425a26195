/-
  The trees of what FnExactValueText calls: plain functions, and that the engine reckons just these. No condition.
-/
import Derived.Test.YtaannlnlddbgdaaDoorKFnExactValueText
import Derived.Test.YtaannlnlddbgdaaDoorE33
import Derived.KernelRfl
namespace Go.Proofs.YtaannlnlddbgdaaDoor.KFnExactValueText
open Go.Eng
set_option linter.unusedVariables false
set_option maxRecDepth 100000
def lib : FuncId → List AV → Option AV := libCons 56 Q_strconv_FormatInt (libNil)
/-! ### laws.szValue -/
def A_laws_szValue (x0 : Int) (x1 : Int) (x2 : ByteArray) (x3 : Int) : List AV := [(.agg [(.p (.i .i64 x0)), (.p (.i .i64 x1)), (.p (.s x2))]), (.c (.p (.i .i64 x3)))]
def U_laws_szValue (x0 : Int) (x1 : Int) (x2 : ByteArray) (x3 : Int) : List Go.Eng.Frame := []
def O_laws_szValue (r : Int) : Res := ⟨(.c (.p (.i .i64 r))), [], []⟩
abbrev CT_laws_szValue (n : Nat) : CTab := mkCT []
abbrev LT_laws_szValue (n : Nat) : LTab := mkLT []
def T_laws_szValue (n : Nat) (x0 : Int) (x1 : Int) (x2 : ByteArray) (x3 : Int) : Tr (Int) := (.ask ((decide ((IntKind.i64.wrap (x3 - (x2.size : Int))) < (0 : Int)))) (.done (-1 : Int)) (.done (IntKind.i64.wrap (x3 - (x2.size : Int)))))
def F_laws_szValue : Nat → Int → Int → ByteArray → Int → Option (Int)
  | 0, _, _, _, _ => none
  | n + 1, x0, x1, x2, x3 => (T_laws_szValue n x0 x1 x2 x3).run
theorem ft_laws_szValue (n : Nat) (x0 : Int) (x1 : Int) (x2 : ByteArray) (x3 : Int) : funT (CT_laws_szValue n) (LT_laws_szValue n) K_laws_szValue (A_laws_szValue x0 x1 x2 x3) (U_laws_szValue x0 x1 x2 x3) = (T_laws_szValue n x0 x1 x2 x3).bind fun r => .done (O_laws_szValue r) := by kernel_rfl
theorem ct_laws_szValue (n : Nat) : CTok (CT_laws_szValue n) (runs KP lib n) := mkCT_nil
theorem th_laws_szValue : ∀ (n : Nat) (x0 : Int) (x1 : Int) (x2 : ByteArray) (x3 : Int) (r : Int), F_laws_szValue n x0 x1 x2 x3 = some r → runs KP lib n 8 (A_laws_szValue x0 x1 x2 x3) (U_laws_szValue x0 x1 x2 x3) = some (O_laws_szValue r)
  | 0, x0, x1, x2, x3, r, h => by cases h
  | n + 1, x0, x1, x2, x3, r, h => fun_step (kf := K_laws_szValue) rfl (ct_laws_szValue n) (noLoops rfl) (ft_laws_szValue n x0 x1 x2 x3) h
def FH_laws_szValue (n : Nat) : Cont → Option (Int)
  | ([[[.i x0], [.i x1], [.s x2]], [[.i x3]]], []) => F_laws_szValue n x0 x1 x2 x3
  | _ => none
def E_laws_szValue (n : Nat) (d : List AV → List Go.Eng.Frame → Tr Res) : List AV → List Go.Eng.Frame → Tr Res := cent (A_laws_szValue (0) (0) (⟨#[]⟩) (0)) (U_laws_szValue (0) (0) (⟨#[]⟩) (0)) (FH_laws_szValue n) O_laws_szValue d
theorem eo_laws_szValue (n : Nat) {d : List AV → List Go.Eng.Frame → Tr Res} (hd : ∀ ar up r, (d ar up).run = some r → runs KP lib n 8 ar up = some r) : ∀ ar up r, (E_laws_szValue n d ar up).run = some r → runs KP lib n 8 ar up = some r :=
  cent_ok (fun hs r h => by
    unfold FH_laws_szValue at h
    split at h
    · exact ⟨A_laws_szValue _ _ _ _, U_laws_szValue _ _ _ _, rfl, rfl, th_laws_szValue n _ _ _ _ r h⟩
    · cases h) hd
/-! ### laws.toValue -/
def A_laws_toValue (x0 : Int) (x1 : Int) (x2 : ByteArray) : List AV := [(.agg [(.p (.i .i64 x0)), (.p (.i .i64 x1)), (.p (.s x2))])]
def U_laws_toValue (x0 : Int) (x1 : Int) (x2 : ByteArray) : List Go.Eng.Frame := []
def O_laws_toValue (r : Int × Int × ByteArray) : Res := ⟨(.agg [(.p (.i .i64 r.1)), (.p (.i .i64 r.2.1)), (.p (.s r.2.2))]), [], []⟩
abbrev CT_laws_toValue (n : Nat) : CTab := mkCT []
abbrev LT_laws_toValue (n : Nat) : LTab := mkLT []
def T_laws_toValue (n : Nat) (x0 : Int) (x1 : Int) (x2 : ByteArray) : Tr (Int × Int × ByteArray) := (.done (x0, x1, x2))
def F_laws_toValue : Nat → Int → Int → ByteArray → Option (Int × Int × ByteArray)
  | 0, _, _, _ => none
  | n + 1, x0, x1, x2 => (T_laws_toValue n x0 x1 x2).run
theorem ft_laws_toValue (n : Nat) (x0 : Int) (x1 : Int) (x2 : ByteArray) : funT (CT_laws_toValue n) (LT_laws_toValue n) K_laws_toValue (A_laws_toValue x0 x1 x2) (U_laws_toValue x0 x1 x2) = (T_laws_toValue n x0 x1 x2).bind fun r => .done (O_laws_toValue r) := by kernel_rfl
theorem ct_laws_toValue (n : Nat) : CTok (CT_laws_toValue n) (runs KP lib n) := mkCT_nil
theorem th_laws_toValue : ∀ (n : Nat) (x0 : Int) (x1 : Int) (x2 : ByteArray) (r : Int × Int × ByteArray), F_laws_toValue n x0 x1 x2 = some r → runs KP lib n 10 (A_laws_toValue x0 x1 x2) (U_laws_toValue x0 x1 x2) = some (O_laws_toValue r)
  | 0, x0, x1, x2, r, h => by cases h
  | n + 1, x0, x1, x2, r, h => fun_step (kf := K_laws_toValue) rfl (ct_laws_toValue n) (noLoops rfl) (ft_laws_toValue n x0 x1 x2) h
def FH_laws_toValue (n : Nat) : Cont → Option (Int × Int × ByteArray)
  | ([[[.i x0], [.i x1], [.s x2]]], []) => F_laws_toValue n x0 x1 x2
  | _ => none
def E_laws_toValue (n : Nat) (d : List AV → List Go.Eng.Frame → Tr Res) : List AV → List Go.Eng.Frame → Tr Res := cent (A_laws_toValue (0) (0) (⟨#[]⟩)) (U_laws_toValue (0) (0) (⟨#[]⟩)) (FH_laws_toValue n) O_laws_toValue d
theorem eo_laws_toValue (n : Nat) {d : List AV → List Go.Eng.Frame → Tr Res} (hd : ∀ ar up r, (d ar up).run = some r → runs KP lib n 10 ar up = some r) : ∀ ar up r, (E_laws_toValue n d ar up).run = some r → runs KP lib n 10 ar up = some r :=
  cent_ok (fun hs r h => by
    unfold FH_laws_toValue at h
    split at h
    · exact ⟨A_laws_toValue _ _ _, U_laws_toValue _ _ _, rfl, rfl, th_laws_toValue n _ _ _ r h⟩
    · cases h) hd
/-! ### spec.l1In -/
def A_spec_l1In (x0 : Int) (x1 : Int) (x2 : Int) : List AV := [(.c (.p (.i .i64 x0))), (.c (.p (.i .i64 x1))), (.c (.p (.i .i64 x2)))]
def U_spec_l1In (x0 : Int) (x1 : Int) (x2 : Int) : List Go.Eng.Frame := []
def O_spec_l1In (r : Bool) : Res := ⟨(.c (.p (.b r))), [], []⟩
abbrev CT_spec_l1In (n : Nat) : CTab := mkCT []
abbrev LT_spec_l1In (n : Nat) : LTab := mkLT []
def T_spec_l1In (n : Nat) (x0 : Int) (x1 : Int) (x2 : Int) : Tr (Bool) := (.ask ((decide (x0 ≥ x1))) (.done (decide (x0 ≤ x2))) (.done false))
def F_spec_l1In : Nat → Int → Int → Int → Option (Bool)
  | 0, _, _, _ => none
  | n + 1, x0, x1, x2 => (T_spec_l1In n x0 x1 x2).run
theorem ft_spec_l1In (n : Nat) (x0 : Int) (x1 : Int) (x2 : Int) : funT (CT_spec_l1In n) (LT_spec_l1In n) K_spec_l1In (A_spec_l1In x0 x1 x2) (U_spec_l1In x0 x1 x2) = (T_spec_l1In n x0 x1 x2).bind fun r => .done (O_spec_l1In r) := by kernel_rfl
theorem ct_spec_l1In (n : Nat) : CTok (CT_spec_l1In n) (runs KP lib n) := mkCT_nil
theorem th_spec_l1In : ∀ (n : Nat) (x0 : Int) (x1 : Int) (x2 : Int) (r : Bool), F_spec_l1In n x0 x1 x2 = some r → runs KP lib n 44 (A_spec_l1In x0 x1 x2) (U_spec_l1In x0 x1 x2) = some (O_spec_l1In r)
  | 0, x0, x1, x2, r, h => by cases h
  | n + 1, x0, x1, x2, r, h => fun_step (kf := K_spec_l1In) rfl (ct_spec_l1In n) (noLoops rfl) (ft_spec_l1In n x0 x1 x2) h
def FH_spec_l1In (n : Nat) : Cont → Option (Bool)
  | ([[[.i x0]], [[.i x1]], [[.i x2]]], []) => F_spec_l1In n x0 x1 x2
  | _ => none
def E_spec_l1In (n : Nat) (d : List AV → List Go.Eng.Frame → Tr Res) : List AV → List Go.Eng.Frame → Tr Res := cent (A_spec_l1In (0) (0) (0)) (U_spec_l1In (0) (0) (0)) (FH_spec_l1In n) O_spec_l1In d
theorem eo_spec_l1In (n : Nat) {d : List AV → List Go.Eng.Frame → Tr Res} (hd : ∀ ar up r, (d ar up).run = some r → runs KP lib n 44 ar up = some r) : ∀ ar up r, (E_spec_l1In n d ar up).run = some r → runs KP lib n 44 ar up = some r :=
  cent_ok (fun hs r h => by
    unfold FH_spec_l1In at h
    split at h
    · exact ⟨A_spec_l1In _ _ _, U_spec_l1In _ _ _, rfl, rfl, th_spec_l1In n _ _ _ r h⟩
    · cases h) hd
/-! ### spec.l2Plain -/
def A_spec_l2Plain (x0 : ByteArray) : List AV := [(.c (.p (.s x0)))]
def U_spec_l2Plain (x0 : ByteArray) : List Go.Eng.Frame := []
def O_spec_l2Plain (r : Bool) : Res := ⟨(.c (.p (.b r))), [], []⟩
abbrev CT_spec_l2Plain (n : Nat) : CTab := mkCT []
def S_spec_l2Plain_13 (v : ByteArray × Int) : St := ⟨[(0, (.c (.p (.s v.1)))), (3, (.c (.p (.i .i64 v.2))))], [], []⟩
def B_spec_l2Plain_13 (n : Nat) (v : ByteArray × Int) : Tr ((ByteArray × Int) ⊕ ((Bool) ⊕ (ByteArray))) := (.ask ((decide (v.2 < (v.1.size : Int)))) (.ask (decide (0 ≤ v.2)) (.opt (v.1.toList[(v.2).toNat]?) fun c4 => (.ask ((decide ((c4.toNat : Int) < (32 : Int)))) (.done (.inr (.inl (false)))) (.ask (decide (0 ≤ v.2)) (.opt (v.1.toList[(v.2).toNat]?) fun c5 => (.ask ((decide ((c5.toNat : Int) > (126 : Int)))) (.done (.inr (.inl (false)))) (.done (.inl (v.1, (IntKind.i64.wrap (v.2 + (1 : Int)))))))) .fail))) .fail) (.done (.inr (.inr (v.1)))))
def D_spec_l2Plain_13 : ((Bool) ⊕ (ByteArray)) → Ex × St := fun | .inl r => (.ret, ⟨[(2, (.c (.p (.b r))))], [], []⟩) | .inr r => (fun r => ((.exit 0), ⟨[(0, (.c (.p (.s r))))], [], []⟩)) r
def DT_spec_l2Plain_13 : ((Bool) ⊕ (ByteArray)) → Tr (Ex × St) := fun r => .alt r (fun r => .done (.ret, ⟨[(2, (.c (.p (.b r))))], [], []⟩)) (fun r => .done ((.exit 0), ⟨[(0, (.c (.p (.s r))))], [], []⟩))
def VH_spec_l2Plain_13 : Cont3 → Option (ByteArray × Int)
  | ([[[.s w0]], [[.i w1]]], [], []) => some (w0, w1)
  | _ => none
abbrev LE_spec_l2Plain_13 (n : Nat) : St → Tr (Ex × St) := lent (S_spec_l2Plain_13 (⟨#[]⟩, 0)) VH_spec_l2Plain_13 (B_spec_l2Plain_13 n) DT_spec_l2Plain_13 n
abbrev LT_spec_l2Plain (n : Nat) : LTab := mkLT [(13, LE_spec_l2Plain_13 n)]
def T_spec_l2Plain (n : Nat) (x0 : ByteArray) : Tr (Bool) := (.opt (loopF (B_spec_l2Plain_13 n) n (x0, (0 : Int))) fun r6 => (.alt r6 (fun r7 => (.done r7)) (fun r8 => (.done (decide ((r8.size : Int) ≤ (200 : Int)))))))
def F_spec_l2Plain : Nat → ByteArray → Option (Bool)
  | 0, _ => none
  | n + 1, x0 => (T_spec_l2Plain n x0).run
theorem ft_spec_l2Plain (n : Nat) (x0 : ByteArray) : funT (CT_spec_l2Plain n) (LT_spec_l2Plain n) K_spec_l2Plain (A_spec_l2Plain x0) (U_spec_l2Plain x0) = (T_spec_l2Plain n x0).bind fun r => .done (O_spec_l2Plain r) := by kernel_rfl
theorem ct_spec_l2Plain (n : Nat) : CTok (CT_spec_l2Plain n) (runs KP lib n) := mkCT_nil
theorem lt_spec_l2Plain_13 (n : Nat) (v : ByteArray × Int) : (evalCT (CT_spec_l2Plain n) (mkLT []) K_spec_l2Plain_L13 (S_spec_l2Plain_13 v) []).bind (ltail [0, 3] [(.ret, [2]), ((.exit 0), [0])]) = (B_spec_l2Plain_13 n v).bind (lenc S_spec_l2Plain_13 D_spec_l2Plain_13) := by
  obtain ⟨w0, w1⟩ := v
  kernel_rfl
theorem le_spec_l2Plain_13 (n : Nat) : LEok (runs KP lib n) n (13, [0, 3], [(.ret, [2]), ((.exit 0), [0])], K_spec_l2Plain_L13) (LE_spec_l2Plain_13 n) := fun st e s h =>
  lent_ok (ct_spec_l2Plain n) (noLoops rfl) (lt_spec_l2Plain_13 n) (fun r => by
    rcases r with r | r <;> (intro h; cases h)) (fun r y h => by
    rcases r with r | r <;> (cases h; rfl)) (fun hs v h => by
    unfold VH_spec_l2Plain_13 at h
    split at h <;> cases h
    rfl) h
theorem lo_spec_l2Plain (n : Nat) : LTok (LT_spec_l2Plain n) (runs KP lib n) n K_spec_l2Plain.body := mkLT_ok (by
  intro x hx
  have hx : x ∈ ([(13, [0, 3], [(.ret, [2]), ((.exit 0), [0])], K_spec_l2Plain_L13)] : List (Nat × List Nat × List (Ex × List Nat) × KCode)) := hx
  simp only [List.mem_cons, List.not_mem_nil, or_false] at hx
  rcases hx with rfl
  · exact ⟨LE_spec_l2Plain_13 n, fun st => rfl, le_spec_l2Plain_13 n⟩)
theorem th_spec_l2Plain : ∀ (n : Nat) (x0 : ByteArray) (r : Bool), F_spec_l2Plain n x0 = some r → runs KP lib n 45 (A_spec_l2Plain x0) (U_spec_l2Plain x0) = some (O_spec_l2Plain r)
  | 0, x0, r, h => by cases h
  | n + 1, x0, r, h => fun_step (kf := K_spec_l2Plain) rfl (ct_spec_l2Plain n) (lo_spec_l2Plain n) (ft_spec_l2Plain n x0) h
def FH_spec_l2Plain (n : Nat) : Cont → Option (Bool)
  | ([[[.s x0]]], []) => F_spec_l2Plain n x0
  | _ => none
def E_spec_l2Plain (n : Nat) (d : List AV → List Go.Eng.Frame → Tr Res) : List AV → List Go.Eng.Frame → Tr Res := cent (A_spec_l2Plain (⟨#[]⟩)) (U_spec_l2Plain (⟨#[]⟩)) (FH_spec_l2Plain n) O_spec_l2Plain d
theorem eo_spec_l2Plain (n : Nat) {d : List AV → List Go.Eng.Frame → Tr Res} (hd : ∀ ar up r, (d ar up).run = some r → runs KP lib n 45 ar up = some r) : ∀ ar up r, (E_spec_l2Plain n d ar up).run = some r → runs KP lib n 45 ar up = some r :=
  cent_ok (fun hs r h => by
    unfold FH_spec_l2Plain at h
    split at h
    · exact ⟨A_spec_l2Plain _, U_spec_l2Plain _, rfl, rfl, th_spec_l2Plain n _ r h⟩
    · cases h) hd
/-! ### spec.ValueOk -/
def A_spec_ValueOk (x0 : Int) (x1 : Int) (x2 : ByteArray) : List AV := [(.agg [(.p (.i .i64 x0)), (.p (.i .i64 x1)), (.p (.s x2))])]
def U_spec_ValueOk (x0 : Int) (x1 : Int) (x2 : ByteArray) : List Go.Eng.Frame := []
def O_spec_ValueOk (r : Bool) : Res := ⟨(.c (.p (.b r))), [], []⟩
abbrev CT_spec_ValueOk (n : Nat) : CTab := mkCT [(44, E_spec_l1In n (noEnt)), (45, E_spec_l2Plain n (noEnt))]
abbrev LT_spec_ValueOk (n : Nat) : LTab := mkLT []
def T_spec_ValueOk (n : Nat) (x0 : Int) (x1 : Int) (x2 : ByteArray) : Tr (Bool) := (.ask ((x0 == (0 : Int))) (.ask ((x1 == (0 : Int))) (.done (x2.toList == (⟨#[]⟩ : ByteArray).toList)) (.done false)) (.ask ((x0 == (1 : Int))) (.opt (F_spec_l1In n x1 (-1000000000000000 : Int) (1000000000000000 : Int)) fun r3 => (.ask (r3) (.done (x2.toList == (⟨#[]⟩ : ByteArray).toList)) (.done false))) (.ask ((x0 == (2 : Int))) (.ask ((x1 == (0 : Int))) (.opt (F_spec_l2Plain n x2) fun r9 => (.done r9)) (.done false)) (.ask ((x0 == (3 : Int))) (.opt (F_spec_l1In n x1 (0 : Int) (1 : Int)) fun r10 => (.ask (r10) (.done (x2.toList == (⟨#[]⟩ : ByteArray).toList)) (.done false))) (.ask ((x0 == (4 : Int))) (.opt (F_spec_l1In n x1 (1 : Int) (5 : Int)) fun r11 => (.ask (r11) (.done (x2.toList == (⟨#[]⟩ : ByteArray).toList)) (.done false))) (.done false))))))
def F_spec_ValueOk : Nat → Int → Int → ByteArray → Option (Bool)
  | 0, _, _, _ => none
  | n + 1, x0, x1, x2 => (T_spec_ValueOk n x0 x1 x2).run
theorem ft_spec_ValueOk (n : Nat) (x0 : Int) (x1 : Int) (x2 : ByteArray) : funT (CT_spec_ValueOk n) (LT_spec_ValueOk n) K_spec_ValueOk (A_spec_ValueOk x0 x1 x2) (U_spec_ValueOk x0 x1 x2) = (T_spec_ValueOk n x0 x1 x2).bind fun r => .done (O_spec_ValueOk r) := by kernel_rfl
theorem ct_spec_ValueOk (n : Nat) : CTok (CT_spec_ValueOk n) (runs KP lib n) := mkCT_cons (eo_spec_l1In n (noEnt_ok)) (mkCT_cons (eo_spec_l2Plain n (noEnt_ok)) (mkCT_nil))
theorem th_spec_ValueOk : ∀ (n : Nat) (x0 : Int) (x1 : Int) (x2 : ByteArray) (r : Bool), F_spec_ValueOk n x0 x1 x2 = some r → runs KP lib n 21 (A_spec_ValueOk x0 x1 x2) (U_spec_ValueOk x0 x1 x2) = some (O_spec_ValueOk r)
  | 0, x0, x1, x2, r, h => by cases h
  | n + 1, x0, x1, x2, r, h => fun_step (kf := K_spec_ValueOk) rfl (ct_spec_ValueOk n) (noLoops rfl) (ft_spec_ValueOk n x0 x1 x2) h
def FH_spec_ValueOk (n : Nat) : Cont → Option (Bool)
  | ([[[.i x0], [.i x1], [.s x2]]], []) => F_spec_ValueOk n x0 x1 x2
  | _ => none
def E_spec_ValueOk (n : Nat) (d : List AV → List Go.Eng.Frame → Tr Res) : List AV → List Go.Eng.Frame → Tr Res := cent (A_spec_ValueOk (0) (0) (⟨#[]⟩)) (U_spec_ValueOk (0) (0) (⟨#[]⟩)) (FH_spec_ValueOk n) O_spec_ValueOk d
theorem eo_spec_ValueOk (n : Nat) {d : List AV → List Go.Eng.Frame → Tr Res} (hd : ∀ ar up r, (d ar up).run = some r → runs KP lib n 21 ar up = some r) : ∀ ar up r, (E_spec_ValueOk n d ar up).run = some r → runs KP lib n 21 ar up = some r :=
  cent_ok (fun hs r h => by
    unfold FH_spec_ValueOk at h
    split at h
    · exact ⟨A_spec_ValueOk _ _ _, U_spec_ValueOk _ _ _, rfl, rfl, th_spec_ValueOk n _ _ _ r h⟩
    · cases h) hd
/-! ### spec.l1Dec -/
def A_spec_l1Dec (x0 : Int) : List AV := [(.c (.p (.i .i64 x0)))]
def U_spec_l1Dec (x0 : Int) : List Go.Eng.Frame := []
def O_spec_l1Dec (r : ByteArray) : Res := ⟨(.c (.p (.s r))), [], []⟩
def FHr_spec_l1Dec (rec : Int → Option (ByteArray)) : Cont → Option (ByteArray)
  | ([[[.i x0]]], []) => rec x0
  | _ => none
abbrev CT_spec_l1Dec (rec : Int → Option (ByteArray)) (n : Nat) : CTab := mkCT [(29, cent (A_spec_l1Dec (0)) (U_spec_l1Dec (0)) (fun hs => FHr_spec_l1Dec rec hs) O_spec_l1Dec (noEnt))]
def S_spec_l1Dec_30 (v : Int × ByteArray) : St := ⟨[(0, (.c (.p (.i .i64 v.1)))), (3, (.c (.p (.s v.2))))], [], []⟩
def B_spec_l1Dec_30 (n : Nat) (v : Int × ByteArray) : Tr ((Int × ByteArray) ⊕ ((Int × ByteArray))) := (.ask ((decide (v.1 ≥ (10 : Int)))) (.ask (decide (1 = ([[(.i .u8 (IntKind.u8.wrap (IntKind.i64.wrap ((48 : Int) + (Int.tmod v.1 (10 : Int))))))]] : List (List PV)).length)) (.opt (bytesOf ([[(.i .u8 (IntKind.u8.wrap (IntKind.i64.wrap ((48 : Int) + (Int.tmod v.1 (10 : Int))))))]] : List (List PV))) fun l15 => (.ask (decide ((⟨l15.toArray⟩ : ByteArray).size + v.2.size ≤ 9223372036854775807)) (.done (.inl ((IntKind.i64.wrap (Int.tdiv v.1 (10 : Int))), ((⟨l15.toArray⟩ : ByteArray) ++ v.2)))) .fail)) .fail) (.done (.inr ((v.1, v.2)))))
def D_spec_l1Dec_30 : (Int × ByteArray) → Ex × St := fun r => ((.exit 0), ⟨[(0, (.c (.p (.i .i64 r.1)))), (3, (.c (.p (.s r.2))))], [], []⟩)
def DT_spec_l1Dec_30 : (Int × ByteArray) → Tr (Ex × St) := fun r => .done ((.exit 0), ⟨[(0, (.c (.p (.i .i64 r.1)))), (3, (.c (.p (.s r.2))))], [], []⟩)
def VH_spec_l1Dec_30 : Cont3 → Option (Int × ByteArray)
  | ([[[.i w0]], [[.s w1]]], [], []) => some (w0, w1)
  | _ => none
abbrev LE_spec_l1Dec_30 (n : Nat) : St → Tr (Ex × St) := lent (S_spec_l1Dec_30 (0, ⟨#[]⟩)) VH_spec_l1Dec_30 (B_spec_l1Dec_30 n) DT_spec_l1Dec_30 n
abbrev LT_spec_l1Dec (rec : Int → Option (ByteArray)) (n : Nat) : LTab := mkLT [(30, LE_spec_l1Dec_30 n)]
def T_spec_l1Dec (rec : Int → Option (ByteArray)) (n : Nat) (x0 : Int) : Tr (ByteArray) := (.ask ((decide (x0 < (0 : Int)))) (.opt (rec (IntKind.i64.wrap (0 - x0))) fun r14 => (.ask (decide ((⟨#[45]⟩ : ByteArray).size + r14.size ≤ 9223372036854775807)) (.done ((⟨#[45]⟩ : ByteArray) ++ r14)) .fail)) (.opt (loopF (B_spec_l1Dec_30 n) n (x0, (⟨#[]⟩ : ByteArray))) fun r16 => (.ask (decide (1 = ([[(.i .u8 (IntKind.u8.wrap (IntKind.i64.wrap ((48 : Int) + r16.1))))]] : List (List PV)).length)) (.opt (bytesOf ([[(.i .u8 (IntKind.u8.wrap (IntKind.i64.wrap ((48 : Int) + r16.1))))]] : List (List PV))) fun l17 => (.ask (decide ((⟨l17.toArray⟩ : ByteArray).size + r16.2.size ≤ 9223372036854775807)) (.done ((⟨l17.toArray⟩ : ByteArray) ++ r16.2)) .fail)) .fail)))
def F_spec_l1Dec : Nat → Int → Option (ByteArray)
  | 0, _ => none
  | n + 1, x0 => (T_spec_l1Dec (F_spec_l1Dec n) n x0).run
theorem ft_spec_l1Dec (rec : Int → Option (ByteArray)) (n : Nat) (x0 : Int) : funT (CT_spec_l1Dec rec n) (LT_spec_l1Dec rec n) K_spec_l1Dec (A_spec_l1Dec x0) (U_spec_l1Dec x0) = (T_spec_l1Dec rec n x0).bind fun r => .done (O_spec_l1Dec r) := by kernel_rfl
theorem ct_spec_l1Dec (n : Nat) (ih : ∀ (x0 : Int) r, F_spec_l1Dec n x0 = some r → runs KP lib n 29 (A_spec_l1Dec x0) (U_spec_l1Dec x0) = some (O_spec_l1Dec r)) : CTok (CT_spec_l1Dec (F_spec_l1Dec n) n) (runs KP lib n) := mkCT_cons (cent_ok (fun hs r h => by
    unfold FHr_spec_l1Dec at h
    split at h
    · exact ⟨A_spec_l1Dec _, U_spec_l1Dec _, rfl, rfl, ih _ r h⟩
    · cases h) (noEnt_ok)) (mkCT_nil)
theorem lt_spec_l1Dec_30 (n : Nat) (v : Int × ByteArray) : (evalCT (CT_spec_l1Dec (F_spec_l1Dec n) n) (mkLT []) K_spec_l1Dec_L30 (S_spec_l1Dec_30 v) []).bind (ltail [0, 3] [(.ret, [2]), ((.exit 0), [0, 3])]) = (B_spec_l1Dec_30 n v).bind (lenc S_spec_l1Dec_30 D_spec_l1Dec_30) := by
  obtain ⟨w0, w1⟩ := v
  kernel_rfl
theorem le_spec_l1Dec_30 (n : Nat) (ih : ∀ (x0 : Int) r, F_spec_l1Dec n x0 = some r → runs KP lib n 29 (A_spec_l1Dec x0) (U_spec_l1Dec x0) = some (O_spec_l1Dec r)) : LEok (runs KP lib n) n (30, [0, 3], [(.ret, [2]), ((.exit 0), [0, 3])], K_spec_l1Dec_L30) (LE_spec_l1Dec_30 n) := fun st e s h =>
  lent_ok (ct_spec_l1Dec n ih) (noLoops rfl) (lt_spec_l1Dec_30 n) (fun r h => by cases h) (fun r y h => by cases h; rfl) (fun hs v h => by
    unfold VH_spec_l1Dec_30 at h
    split at h <;> cases h
    rfl) h
theorem lo_spec_l1Dec (n : Nat) (ih : ∀ (x0 : Int) r, F_spec_l1Dec n x0 = some r → runs KP lib n 29 (A_spec_l1Dec x0) (U_spec_l1Dec x0) = some (O_spec_l1Dec r)) : LTok (LT_spec_l1Dec (F_spec_l1Dec n) n) (runs KP lib n) n K_spec_l1Dec.body := mkLT_ok (by
  intro x hx
  have hx : x ∈ ([(30, [0, 3], [(.ret, [2]), ((.exit 0), [0, 3])], K_spec_l1Dec_L30)] : List (Nat × List Nat × List (Ex × List Nat) × KCode)) := hx
  simp only [List.mem_cons, List.not_mem_nil, or_false] at hx
  rcases hx with rfl
  · exact ⟨LE_spec_l1Dec_30 n, fun st => rfl, le_spec_l1Dec_30 n ih⟩)
theorem th_spec_l1Dec : ∀ (n : Nat) (x0 : Int) (r : ByteArray), F_spec_l1Dec n x0 = some r → runs KP lib n 29 (A_spec_l1Dec x0) (U_spec_l1Dec x0) = some (O_spec_l1Dec r)
  | 0, x0, r, h => by cases h
  | n + 1, x0, r, h => fun_step (kf := K_spec_l1Dec) rfl (ct_spec_l1Dec n (th_spec_l1Dec n)) (lo_spec_l1Dec n (th_spec_l1Dec n)) (ft_spec_l1Dec (F_spec_l1Dec n) n x0) h
def FH_spec_l1Dec (n : Nat) : Cont → Option (ByteArray)
  | ([[[.i x0]]], []) => F_spec_l1Dec n x0
  | _ => none
def E_spec_l1Dec (n : Nat) (d : List AV → List Go.Eng.Frame → Tr Res) : List AV → List Go.Eng.Frame → Tr Res := cent (A_spec_l1Dec (0)) (U_spec_l1Dec (0)) (FH_spec_l1Dec n) O_spec_l1Dec d
theorem eo_spec_l1Dec (n : Nat) {d : List AV → List Go.Eng.Frame → Tr Res} (hd : ∀ ar up r, (d ar up).run = some r → runs KP lib n 29 ar up = some r) : ∀ ar up r, (E_spec_l1Dec n d ar up).run = some r → runs KP lib n 29 ar up = some r :=
  cent_ok (fun hs r h => by
    unfold FH_spec_l1Dec at h
    split at h
    · exact ⟨A_spec_l1Dec _, U_spec_l1Dec _, rfl, rfl, th_spec_l1Dec n _ r h⟩
    · cases h) hd
/-! ### spec.l2Bool -/
def A_spec_l2Bool (x0 : Int) : List AV := [(.c (.p (.i .i64 x0)))]
def U_spec_l2Bool (x0 : Int) : List Go.Eng.Frame := []
def O_spec_l2Bool (r : ByteArray) : Res := ⟨(.c (.p (.s r))), [], []⟩
abbrev CT_spec_l2Bool (n : Nat) : CTab := mkCT []
abbrev LT_spec_l2Bool (n : Nat) : LTab := mkLT []
def T_spec_l2Bool (n : Nat) (x0 : Int) : Tr (ByteArray) := (.ask ((x0 == (1 : Int))) (.done (⟨#[84, 82, 85, 69]⟩ : ByteArray)) (.done (⟨#[70, 65, 76, 83, 69]⟩ : ByteArray)))
def F_spec_l2Bool : Nat → Int → Option (ByteArray)
  | 0, _ => none
  | n + 1, x0 => (T_spec_l2Bool n x0).run
theorem ft_spec_l2Bool (n : Nat) (x0 : Int) : funT (CT_spec_l2Bool n) (LT_spec_l2Bool n) K_spec_l2Bool (A_spec_l2Bool x0) (U_spec_l2Bool x0) = (T_spec_l2Bool n x0).bind fun r => .done (O_spec_l2Bool r) := by kernel_rfl
theorem ct_spec_l2Bool (n : Nat) : CTok (CT_spec_l2Bool n) (runs KP lib n) := mkCT_nil
theorem th_spec_l2Bool : ∀ (n : Nat) (x0 : Int) (r : ByteArray), F_spec_l2Bool n x0 = some r → runs KP lib n 30 (A_spec_l2Bool x0) (U_spec_l2Bool x0) = some (O_spec_l2Bool r)
  | 0, x0, r, h => by cases h
  | n + 1, x0, r, h => fun_step (kf := K_spec_l2Bool) rfl (ct_spec_l2Bool n) (noLoops rfl) (ft_spec_l2Bool n x0) h
def FH_spec_l2Bool (n : Nat) : Cont → Option (ByteArray)
  | ([[[.i x0]]], []) => F_spec_l2Bool n x0
  | _ => none
def E_spec_l2Bool (n : Nat) (d : List AV → List Go.Eng.Frame → Tr Res) : List AV → List Go.Eng.Frame → Tr Res := cent (A_spec_l2Bool (0)) (U_spec_l2Bool (0)) (FH_spec_l2Bool n) O_spec_l2Bool d
theorem eo_spec_l2Bool (n : Nat) {d : List AV → List Go.Eng.Frame → Tr Res} (hd : ∀ ar up r, (d ar up).run = some r → runs KP lib n 30 ar up = some r) : ∀ ar up r, (E_spec_l2Bool n d ar up).run = some r → runs KP lib n 30 ar up = some r :=
  cent_ok (fun hs r h => by
    unfold FH_spec_l2Bool at h
    split at h
    · exact ⟨A_spec_l2Bool _, U_spec_l2Bool _, rfl, rfl, th_spec_l2Bool n _ r h⟩
    · cases h) hd
/-! ### spec.l2Name -/
def A_spec_l2Name (x0 : Int) : List AV := [(.c (.p (.i .i64 x0)))]
def U_spec_l2Name (x0 : Int) : List Go.Eng.Frame := []
def O_spec_l2Name (r : ByteArray) : Res := ⟨(.c (.p (.s r))), [], []⟩
abbrev CT_spec_l2Name (n : Nat) : CTab := mkCT []
abbrev LT_spec_l2Name (n : Nat) : LTab := mkLT []
def T_spec_l2Name (n : Nat) (x0 : Int) : Tr (ByteArray) := (.ask (decide (6 = ([[(.s (⟨#[]⟩ : ByteArray))], [(.s (⟨#[35, 68, 73, 86, 33]⟩ : ByteArray))], [(.s (⟨#[35, 84, 89, 80, 69, 33]⟩ : ByteArray))], [(.s (⟨#[35, 82, 69, 70, 33]⟩ : ByteArray))], [(.s (⟨#[35, 79, 86, 69, 82, 33]⟩ : ByteArray))], [(.s (⟨#[35, 67, 89, 67, 76, 69, 33]⟩ : ByteArray))]] : List (List PV)).length ∧ 0 ≤ x0 ∧ x0 < ((6 : Nat) : Int))) (.opt (([[(.s (⟨#[]⟩ : ByteArray))], [(.s (⟨#[35, 68, 73, 86, 33]⟩ : ByteArray))], [(.s (⟨#[35, 84, 89, 80, 69, 33]⟩ : ByteArray))], [(.s (⟨#[35, 82, 69, 70, 33]⟩ : ByteArray))], [(.s (⟨#[35, 79, 86, 69, 82, 33]⟩ : ByteArray))], [(.s (⟨#[35, 67, 89, 67, 76, 69, 33]⟩ : ByteArray))]] : List (List PV))[(x0).toNat]?) fun e20 => (.opt (cellS e20 0) fun y21 => (.done y21))) .fail)
def F_spec_l2Name : Nat → Int → Option (ByteArray)
  | 0, _ => none
  | n + 1, x0 => (T_spec_l2Name n x0).run
theorem ft_spec_l2Name (n : Nat) (x0 : Int) : funT (CT_spec_l2Name n) (LT_spec_l2Name n) K_spec_l2Name (A_spec_l2Name x0) (U_spec_l2Name x0) = (T_spec_l2Name n x0).bind fun r => .done (O_spec_l2Name r) := by kernel_rfl
theorem ct_spec_l2Name (n : Nat) : CTok (CT_spec_l2Name n) (runs KP lib n) := mkCT_nil
theorem th_spec_l2Name : ∀ (n : Nat) (x0 : Int) (r : ByteArray), F_spec_l2Name n x0 = some r → runs KP lib n 31 (A_spec_l2Name x0) (U_spec_l2Name x0) = some (O_spec_l2Name r)
  | 0, x0, r, h => by cases h
  | n + 1, x0, r, h => fun_step (kf := K_spec_l2Name) rfl (ct_spec_l2Name n) (noLoops rfl) (ft_spec_l2Name n x0) h
def FH_spec_l2Name (n : Nat) : Cont → Option (ByteArray)
  | ([[[.i x0]]], []) => F_spec_l2Name n x0
  | _ => none
def E_spec_l2Name (n : Nat) (d : List AV → List Go.Eng.Frame → Tr Res) : List AV → List Go.Eng.Frame → Tr Res := cent (A_spec_l2Name (0)) (U_spec_l2Name (0)) (FH_spec_l2Name n) O_spec_l2Name d
theorem eo_spec_l2Name (n : Nat) {d : List AV → List Go.Eng.Frame → Tr Res} (hd : ∀ ar up r, (d ar up).run = some r → runs KP lib n 31 ar up = some r) : ∀ ar up r, (E_spec_l2Name n d ar up).run = some r → runs KP lib n 31 ar up = some r :=
  cent_ok (fun hs r h => by
    unfold FH_spec_l2Name at h
    split at h
    · exact ⟨A_spec_l2Name _, U_spec_l2Name _, rfl, rfl, th_spec_l2Name n _ r h⟩
    · cases h) hd
/-! ### spec.ValueText -/
def A_spec_ValueText (x0 : Int) (x1 : Int) (x2 : ByteArray) : List AV := [(.agg [(.p (.i .i64 x0)), (.p (.i .i64 x1)), (.p (.s x2))])]
def U_spec_ValueText (x0 : Int) (x1 : Int) (x2 : ByteArray) : List Go.Eng.Frame := []
def O_spec_ValueText (r : ByteArray) : Res := ⟨(.c (.p (.s r))), [], []⟩
abbrev CT_spec_ValueText (n : Nat) : CTab := mkCT [(21, E_spec_ValueOk n (noEnt)), (29, E_spec_l1Dec n (noEnt)), (30, E_spec_l2Bool n (noEnt)), (31, E_spec_l2Name n (noEnt))]
abbrev LT_spec_ValueText (n : Nat) : LTab := mkLT []
def T_spec_ValueText (n : Nat) (x0 : Int) (x1 : Int) (x2 : ByteArray) : Tr (ByteArray) := (.opt (F_spec_ValueOk n x0 x1 x2) fun r12 => (.ask ((!r12)) (.done (⟨#[]⟩ : ByteArray)) (.ask ((x0 == (1 : Int))) (.opt (F_spec_l1Dec n x1) fun r18 => (.done r18)) (.ask ((x0 == (2 : Int))) (.ask (decide ((⟨#[39]⟩ : ByteArray).size + x2.size ≤ 9223372036854775807)) (.done ((⟨#[39]⟩ : ByteArray) ++ x2)) .fail) (.ask ((x0 == (3 : Int))) (.opt (F_spec_l2Bool n x1) fun r19 => (.done r19)) (.ask ((x0 == (4 : Int))) (.opt (F_spec_l2Name n x1) fun r22 => (.done r22)) (.done (⟨#[]⟩ : ByteArray))))))))
def F_spec_ValueText : Nat → Int → Int → ByteArray → Option (ByteArray)
  | 0, _, _, _ => none
  | n + 1, x0, x1, x2 => (T_spec_ValueText n x0 x1 x2).run
theorem ft_spec_ValueText (n : Nat) (x0 : Int) (x1 : Int) (x2 : ByteArray) : funT (CT_spec_ValueText n) (LT_spec_ValueText n) K_spec_ValueText (A_spec_ValueText x0 x1 x2) (U_spec_ValueText x0 x1 x2) = (T_spec_ValueText n x0 x1 x2).bind fun r => .done (O_spec_ValueText r) := by kernel_rfl
theorem ct_spec_ValueText (n : Nat) : CTok (CT_spec_ValueText n) (runs KP lib n) := mkCT_cons (eo_spec_ValueOk n (noEnt_ok)) (mkCT_cons (eo_spec_l1Dec n (noEnt_ok)) (mkCT_cons (eo_spec_l2Bool n (noEnt_ok)) (mkCT_cons (eo_spec_l2Name n (noEnt_ok)) (mkCT_nil))))
theorem th_spec_ValueText : ∀ (n : Nat) (x0 : Int) (x1 : Int) (x2 : ByteArray) (r : ByteArray), F_spec_ValueText n x0 x1 x2 = some r → runs KP lib n 15 (A_spec_ValueText x0 x1 x2) (U_spec_ValueText x0 x1 x2) = some (O_spec_ValueText r)
  | 0, x0, x1, x2, r, h => by cases h
  | n + 1, x0, x1, x2, r, h => fun_step (kf := K_spec_ValueText) rfl (ct_spec_ValueText n) (noLoops rfl) (ft_spec_ValueText n x0 x1 x2) h
def FH_spec_ValueText (n : Nat) : Cont → Option (ByteArray)
  | ([[[.i x0], [.i x1], [.s x2]]], []) => F_spec_ValueText n x0 x1 x2
  | _ => none
def E_spec_ValueText (n : Nat) (d : List AV → List Go.Eng.Frame → Tr Res) : List AV → List Go.Eng.Frame → Tr Res := cent (A_spec_ValueText (0) (0) (⟨#[]⟩)) (U_spec_ValueText (0) (0) (⟨#[]⟩)) (FH_spec_ValueText n) O_spec_ValueText d
theorem eo_spec_ValueText (n : Nat) {d : List AV → List Go.Eng.Frame → Tr Res} (hd : ∀ ar up r, (d ar up).run = some r → runs KP lib n 15 ar up = some r) : ∀ ar up r, (E_spec_ValueText n d ar up).run = some r → runs KP lib n 15 ar up = some r :=
  cent_ok (fun hs r h => by
    unfold FH_spec_ValueText at h
    split at h
    · exact ⟨A_spec_ValueText _ _ _, U_spec_ValueText _ _ _, rfl, rfl, th_spec_ValueText n _ _ _ r h⟩
    · cases h) hd
/-! ### impl.isText -/
def A_impl_isText (x0 : ByteArray) (x1 : Int) : List AV := [(.c (.p (.s x0))), (.c (.p (.i .i64 x1)))]
def U_impl_isText (x0 : ByteArray) (x1 : Int) : List Go.Eng.Frame := []
def O_impl_isText (r : Bool) : Res := ⟨(.c (.p (.b r))), [], []⟩
abbrev CT_impl_isText (n : Nat) : CTab := mkCT []
def S_impl_isText_13 (v : ByteArray × Int × Int × Int) : St := ⟨[(0, (.c (.p (.s v.1)))), (1, (.c (.p (.i .i64 v.2.1)))), (7, (.c (.p (.i .i64 v.2.2.1)))), (8, (.c (.p (.i .i64 v.2.2.2))))], [], []⟩
def B_impl_isText_13 (n : Nat) (v : ByteArray × Int × Int × Int) : Tr ((ByteArray × Int × Int × Int) ⊕ ((Bool) ⊕ (ByteArray × Int))) := (.ask ((decide (v.2.2.2 < v.2.2.1))) (.ask (decide (0 ≤ v.2.2.2)) (.opt (v.1.toList[(v.2.2.2).toNat]?) fun c25 => (.ask ((decide ((c25.toNat : Int) < (32 : Int)))) (.done (.inr (.inl (false)))) (.ask (decide (0 ≤ v.2.2.2)) (.opt (v.1.toList[(v.2.2.2).toNat]?) fun c26 => (.ask ((decide ((c26.toNat : Int) > (126 : Int)))) (.done (.inr (.inl (false)))) (.done (.inl (v.1, v.2.1, v.2.2.1, (IntKind.i64.wrap (v.2.2.2 + (1 : Int)))))))) .fail))) .fail) (.done (.inr (.inr ((v.1, v.2.1))))))
def D_impl_isText_13 : ((Bool) ⊕ (ByteArray × Int)) → Ex × St := fun | .inl r => (.ret, ⟨[(4, (.c (.p (.b r))))], [], []⟩) | .inr r => (fun r => ((.exit 0), ⟨[(0, (.c (.p (.s r.1)))), (1, (.c (.p (.i .i64 r.2))))], [], []⟩)) r
def DT_impl_isText_13 : ((Bool) ⊕ (ByteArray × Int)) → Tr (Ex × St) := fun r => .alt r (fun r => .done (.ret, ⟨[(4, (.c (.p (.b r))))], [], []⟩)) (fun r => .done ((.exit 0), ⟨[(0, (.c (.p (.s r.1)))), (1, (.c (.p (.i .i64 r.2))))], [], []⟩))
def VH_impl_isText_13 : Cont3 → Option (ByteArray × Int × Int × Int)
  | ([[[.s w0]], [[.i w1]], [[.i w2]], [[.i w3]]], [], []) => some (w0, w1, w2, w3)
  | _ => none
abbrev LE_impl_isText_13 (n : Nat) : St → Tr (Ex × St) := lent (S_impl_isText_13 (⟨#[]⟩, 0, 0, 0)) VH_impl_isText_13 (B_impl_isText_13 n) DT_impl_isText_13 n
abbrev LT_impl_isText (n : Nat) : LTab := mkLT [(13, LE_impl_isText_13 n)]
def T_impl_isText (n : Nat) (x0 : ByteArray) (x1 : Int) : Tr (Bool) := (.opt (loopF (B_impl_isText_13 n) n (x0, x1, (x0.size : Int), (0 : Int))) fun r27 => (.alt r27 (fun r28 => (.done r28)) (fun r29 => (.done (decide ((r29.1.size : Int) ≤ r29.2))))))
def F_impl_isText : Nat → ByteArray → Int → Option (Bool)
  | 0, _, _ => none
  | n + 1, x0, x1 => (T_impl_isText n x0 x1).run
theorem ft_impl_isText (n : Nat) (x0 : ByteArray) (x1 : Int) : funT (CT_impl_isText n) (LT_impl_isText n) K_impl_isText (A_impl_isText x0 x1) (U_impl_isText x0 x1) = (T_impl_isText n x0 x1).bind fun r => .done (O_impl_isText r) := by kernel_rfl
theorem ct_impl_isText (n : Nat) : CTok (CT_impl_isText n) (runs KP lib n) := mkCT_nil
theorem lt_impl_isText_13 (n : Nat) (v : ByteArray × Int × Int × Int) : (evalCT (CT_impl_isText n) (mkLT []) K_impl_isText_L13 (S_impl_isText_13 v) []).bind (ltail [0, 1, 7, 8] [(.ret, [4]), ((.exit 0), [0, 1])]) = (B_impl_isText_13 n v).bind (lenc S_impl_isText_13 D_impl_isText_13) := by
  obtain ⟨w0, w1, w2, w3⟩ := v
  kernel_rfl
theorem le_impl_isText_13 (n : Nat) : LEok (runs KP lib n) n (13, [0, 1, 7, 8], [(.ret, [4]), ((.exit 0), [0, 1])], K_impl_isText_L13) (LE_impl_isText_13 n) := fun st e s h =>
  lent_ok (ct_impl_isText n) (noLoops rfl) (lt_impl_isText_13 n) (fun r => by
    rcases r with r | r <;> (intro h; cases h)) (fun r y h => by
    rcases r with r | r <;> (cases h; rfl)) (fun hs v h => by
    unfold VH_impl_isText_13 at h
    split at h <;> cases h
    rfl) h
theorem lo_impl_isText (n : Nat) : LTok (LT_impl_isText n) (runs KP lib n) n K_impl_isText.body := mkLT_ok (by
  intro x hx
  have hx : x ∈ ([(13, [0, 1, 7, 8], [(.ret, [4]), ((.exit 0), [0, 1])], K_impl_isText_L13)] : List (Nat × List Nat × List (Ex × List Nat) × KCode)) := hx
  simp only [List.mem_cons, List.not_mem_nil, or_false] at hx
  rcases hx with rfl
  · exact ⟨LE_impl_isText_13 n, fun st => rfl, le_impl_isText_13 n⟩)
theorem th_impl_isText : ∀ (n : Nat) (x0 : ByteArray) (x1 : Int) (r : Bool), F_impl_isText n x0 x1 = some r → runs KP lib n 42 (A_impl_isText x0 x1) (U_impl_isText x0 x1) = some (O_impl_isText r)
  | 0, x0, x1, r, h => by cases h
  | n + 1, x0, x1, r, h => fun_step (kf := K_impl_isText) rfl (ct_impl_isText n) (lo_impl_isText n) (ft_impl_isText n x0 x1) h
def FH_impl_isText (n : Nat) : Cont → Option (Bool)
  | ([[[.s x0]], [[.i x1]]], []) => F_impl_isText n x0 x1
  | _ => none
def E_impl_isText (n : Nat) (d : List AV → List Go.Eng.Frame → Tr Res) : List AV → List Go.Eng.Frame → Tr Res := cent (A_impl_isText (⟨#[]⟩) (0)) (U_impl_isText (⟨#[]⟩) (0)) (FH_impl_isText n) O_impl_isText d
theorem eo_impl_isText (n : Nat) {d : List AV → List Go.Eng.Frame → Tr Res} (hd : ∀ ar up r, (d ar up).run = some r → runs KP lib n 42 ar up = some r) : ∀ ar up r, (E_impl_isText n d ar up).run = some r → runs KP lib n 42 ar up = some r :=
  cent_ok (fun hs r h => by
    unfold FH_impl_isText at h
    split at h
    · exact ⟨A_impl_isText _ _, U_impl_isText _ _, rfl, rfl, th_impl_isText n _ _ r h⟩
    · cases h) hd
/-! ### impl.within -/
def A_impl_within (x0 : Int) (x1 : Int) (x2 : Int) : List AV := [(.c (.p (.i .i64 x0))), (.c (.p (.i .i64 x1))), (.c (.p (.i .i64 x2)))]
def U_impl_within (x0 : Int) (x1 : Int) (x2 : Int) : List Go.Eng.Frame := []
def O_impl_within (r : Bool) : Res := ⟨(.c (.p (.b r))), [], []⟩
abbrev CT_impl_within (n : Nat) : CTab := mkCT []
abbrev LT_impl_within (n : Nat) : LTab := mkLT []
def T_impl_within (n : Nat) (x0 : Int) (x1 : Int) (x2 : Int) : Tr (Bool) := (.ask ((decide (x0 ≥ x1))) (.done (decide (x0 ≤ x2))) (.done false))
def F_impl_within : Nat → Int → Int → Int → Option (Bool)
  | 0, _, _, _ => none
  | n + 1, x0, x1, x2 => (T_impl_within n x0 x1 x2).run
theorem ft_impl_within (n : Nat) (x0 : Int) (x1 : Int) (x2 : Int) : funT (CT_impl_within n) (LT_impl_within n) K_impl_within (A_impl_within x0 x1 x2) (U_impl_within x0 x1 x2) = (T_impl_within n x0 x1 x2).bind fun r => .done (O_impl_within r) := by kernel_rfl
theorem ct_impl_within (n : Nat) : CTok (CT_impl_within n) (runs KP lib n) := mkCT_nil
theorem th_impl_within : ∀ (n : Nat) (x0 : Int) (x1 : Int) (x2 : Int) (r : Bool), F_impl_within n x0 x1 x2 = some r → runs KP lib n 43 (A_impl_within x0 x1 x2) (U_impl_within x0 x1 x2) = some (O_impl_within r)
  | 0, x0, x1, x2, r, h => by cases h
  | n + 1, x0, x1, x2, r, h => fun_step (kf := K_impl_within) rfl (ct_impl_within n) (noLoops rfl) (ft_impl_within n x0 x1 x2) h
def FH_impl_within (n : Nat) : Cont → Option (Bool)
  | ([[[.i x0]], [[.i x1]], [[.i x2]]], []) => F_impl_within n x0 x1 x2
  | _ => none
def E_impl_within (n : Nat) (d : List AV → List Go.Eng.Frame → Tr Res) : List AV → List Go.Eng.Frame → Tr Res := cent (A_impl_within (0) (0) (0)) (U_impl_within (0) (0) (0)) (FH_impl_within n) O_impl_within d
theorem eo_impl_within (n : Nat) {d : List AV → List Go.Eng.Frame → Tr Res} (hd : ∀ ar up r, (d ar up).run = some r → runs KP lib n 43 ar up = some r) : ∀ ar up r, (E_impl_within n d ar up).run = some r → runs KP lib n 43 ar up = some r :=
  cent_ok (fun hs r h => by
    unfold FH_impl_within at h
    split at h
    · exact ⟨A_impl_within _ _ _, U_impl_within _ _ _, rfl, rfl, th_impl_within n _ _ _ r h⟩
    · cases h) hd
/-! ### impl.ValueOk -/
def A_impl_ValueOk (x0 : Int) (x1 : Int) (x2 : ByteArray) : List AV := [(.agg [(.p (.i .i64 x0)), (.p (.i .i64 x1)), (.p (.s x2))])]
def U_impl_ValueOk (x0 : Int) (x1 : Int) (x2 : ByteArray) : List Go.Eng.Frame := []
def O_impl_ValueOk (r : Bool) : Res := ⟨(.c (.p (.b r))), [], []⟩
abbrev CT_impl_ValueOk (n : Nat) : CTab := mkCT [(42, E_impl_isText n (noEnt)), (43, E_impl_within n (noEnt))]
abbrev LT_impl_ValueOk (n : Nat) : LTab := mkLT []
def T_impl_ValueOk (n : Nat) (x0 : Int) (x1 : Int) (x2 : ByteArray) : Tr (Bool) := (.ask ((x0 == (2 : Int))) (.ask ((x1 == (0 : Int))) (.opt (F_impl_isText n x2 (200 : Int)) fun r30 => (.done r30)) (.done false)) (.ask ((!(x2.toList == (⟨#[]⟩ : ByteArray).toList))) (.done false) (.ask ((x0 == (0 : Int))) (.done (x1 == (0 : Int))) (.ask ((x0 == (1 : Int))) (.opt (F_impl_within n x1 (-1000000000000000 : Int) (1000000000000000 : Int)) fun r31 => (.done r31)) (.ask ((x0 == (3 : Int))) (.opt (F_impl_within n x1 (0 : Int) (1 : Int)) fun r32 => (.done r32)) (.ask ((x0 == (4 : Int))) (.opt (F_impl_within n x1 (1 : Int) (5 : Int)) fun r33 => (.done r33)) (.done false)))))))
def F_impl_ValueOk : Nat → Int → Int → ByteArray → Option (Bool)
  | 0, _, _, _ => none
  | n + 1, x0, x1, x2 => (T_impl_ValueOk n x0 x1 x2).run
theorem ft_impl_ValueOk (n : Nat) (x0 : Int) (x1 : Int) (x2 : ByteArray) : funT (CT_impl_ValueOk n) (LT_impl_ValueOk n) K_impl_ValueOk (A_impl_ValueOk x0 x1 x2) (U_impl_ValueOk x0 x1 x2) = (T_impl_ValueOk n x0 x1 x2).bind fun r => .done (O_impl_ValueOk r) := by kernel_rfl
theorem ct_impl_ValueOk (n : Nat) : CTok (CT_impl_ValueOk n) (runs KP lib n) := mkCT_cons (eo_impl_isText n (noEnt_ok)) (mkCT_cons (eo_impl_within n (noEnt_ok)) (mkCT_nil))
theorem th_impl_ValueOk : ∀ (n : Nat) (x0 : Int) (x1 : Int) (x2 : ByteArray) (r : Bool), F_impl_ValueOk n x0 x1 x2 = some r → runs KP lib n 20 (A_impl_ValueOk x0 x1 x2) (U_impl_ValueOk x0 x1 x2) = some (O_impl_ValueOk r)
  | 0, x0, x1, x2, r, h => by cases h
  | n + 1, x0, x1, x2, r, h => fun_step (kf := K_impl_ValueOk) rfl (ct_impl_ValueOk n) (noLoops rfl) (ft_impl_ValueOk n x0 x1 x2) h
def FH_impl_ValueOk (n : Nat) : Cont → Option (Bool)
  | ([[[.i x0], [.i x1], [.s x2]]], []) => F_impl_ValueOk n x0 x1 x2
  | _ => none
def E_impl_ValueOk (n : Nat) (d : List AV → List Go.Eng.Frame → Tr Res) : List AV → List Go.Eng.Frame → Tr Res := cent (A_impl_ValueOk (0) (0) (⟨#[]⟩)) (U_impl_ValueOk (0) (0) (⟨#[]⟩)) (FH_impl_ValueOk n) O_impl_ValueOk d
theorem eo_impl_ValueOk (n : Nat) {d : List AV → List Go.Eng.Frame → Tr Res} (hd : ∀ ar up r, (d ar up).run = some r → runs KP lib n 20 ar up = some r) : ∀ ar up r, (E_impl_ValueOk n d ar up).run = some r → runs KP lib n 20 ar up = some r :=
  cent_ok (fun hs r h => by
    unfold FH_impl_ValueOk at h
    split at h
    · exact ⟨A_impl_ValueOk _ _ _, U_impl_ValueOk _ _ _, rfl, rfl, th_impl_ValueOk n _ _ _ r h⟩
    · cases h) hd
/-! ### strconv.FormatInt -/
def A_strconv_FormatInt (x0 : Int) (x1 : Int) : List AV := [(.c (.p (.i .i64 x0))), (.c (.p (.i .i64 x1)))]
def U_strconv_FormatInt (x0 : Int) (x1 : Int) : List Go.Eng.Frame := []
def O_strconv_FormatInt (r : (ByteArray)) : Res := ⟨(.c (.p (.s r))), [], []⟩
def F_strconv_FormatInt : Nat → Int → Int → Option ((ByteArray))
  | 0, _, _ => none
  | n + 1, x0, x1 => L_strconv_FormatInt x0 x1
theorem th_strconv_FormatInt : ∀ (n : Nat) (x0 : Int) (x1 : Int) (r : (ByteArray)), F_strconv_FormatInt n x0 x1 = some r → runs KP lib n 56 (A_strconv_FormatInt x0 x1) (U_strconv_FormatInt x0 x1) = some (O_strconv_FormatInt r)
  | 0, x0, x1, r, h => by cases h
  | n + 1, x0, x1, r, h => by
    have h : L_strconv_FormatInt x0 x1 = some r := h
    exact lib_step rfl (congrArg (Option.map fun r : (ByteArray) => ((.c (.p (.s r))) : AV)) h)
def FH_strconv_FormatInt (n : Nat) : Cont → Option ((ByteArray))
  | ([[[.i x0]], [[.i x1]]], []) => F_strconv_FormatInt n x0 x1
  | _ => none
def E_strconv_FormatInt (n : Nat) (d : List AV → List Go.Eng.Frame → Tr Res) : List AV → List Go.Eng.Frame → Tr Res := cent (A_strconv_FormatInt (0) (0)) (U_strconv_FormatInt (0) (0)) (FH_strconv_FormatInt n) O_strconv_FormatInt d
theorem eo_strconv_FormatInt (n : Nat) {d : List AV → List Go.Eng.Frame → Tr Res} (hd : ∀ ar up r, (d ar up).run = some r → runs KP lib n 56 ar up = some r) : ∀ ar up r, (E_strconv_FormatInt n d ar up).run = some r → runs KP lib n 56 ar up = some r :=
  cent_ok (fun hs r h => by
    unfold FH_strconv_FormatInt at h
    split at h
    · exact ⟨A_strconv_FormatInt _ _, U_strconv_FormatInt _ _, rfl, rfl, th_strconv_FormatInt n _ _ r h⟩
    · cases h) hd
/-! ### impl.decimal -/
def A_impl_decimal (x0 : Int) : List AV := [(.c (.p (.i .i64 x0)))]
def U_impl_decimal (x0 : Int) : List Go.Eng.Frame := []
def O_impl_decimal (r : ByteArray) : Res := ⟨(.c (.p (.s r))), [], []⟩
abbrev CT_impl_decimal (n : Nat) : CTab := mkCT [(56, E_strconv_FormatInt n (noEnt))]
abbrev LT_impl_decimal (n : Nat) : LTab := mkLT []
def T_impl_decimal (n : Nat) (x0 : Int) : Tr (ByteArray) := (.opt (F_strconv_FormatInt n x0 (10 : Int)) fun r35 => (.done r35))
def F_impl_decimal : Nat → Int → Option (ByteArray)
  | 0, _ => none
  | n + 1, x0 => (T_impl_decimal n x0).run
theorem ft_impl_decimal (n : Nat) (x0 : Int) : funT (CT_impl_decimal n) (LT_impl_decimal n) K_impl_decimal (A_impl_decimal x0) (U_impl_decimal x0) = (T_impl_decimal n x0).bind fun r => .done (O_impl_decimal r) := by kernel_rfl
theorem ct_impl_decimal (n : Nat) : CTok (CT_impl_decimal n) (runs KP lib n) := mkCT_cons (eo_strconv_FormatInt n (noEnt_ok)) (mkCT_nil)
theorem th_impl_decimal : ∀ (n : Nat) (x0 : Int) (r : ByteArray), F_impl_decimal n x0 = some r → runs KP lib n 48 (A_impl_decimal x0) (U_impl_decimal x0) = some (O_impl_decimal r)
  | 0, x0, r, h => by cases h
  | n + 1, x0, r, h => fun_step (kf := K_impl_decimal) rfl (ct_impl_decimal n) (noLoops rfl) (ft_impl_decimal n x0) h
def FH_impl_decimal (n : Nat) : Cont → Option (ByteArray)
  | ([[[.i x0]]], []) => F_impl_decimal n x0
  | _ => none
def E_impl_decimal (n : Nat) (d : List AV → List Go.Eng.Frame → Tr Res) : List AV → List Go.Eng.Frame → Tr Res := cent (A_impl_decimal (0)) (U_impl_decimal (0)) (FH_impl_decimal n) O_impl_decimal d
theorem eo_impl_decimal (n : Nat) {d : List AV → List Go.Eng.Frame → Tr Res} (hd : ∀ ar up r, (d ar up).run = some r → runs KP lib n 48 ar up = some r) : ∀ ar up r, (E_impl_decimal n d ar up).run = some r → runs KP lib n 48 ar up = some r :=
  cent_ok (fun hs r h => by
    unfold FH_impl_decimal at h
    split at h
    · exact ⟨A_impl_decimal _, U_impl_decimal _, rfl, rfl, th_impl_decimal n _ r h⟩
    · cases h) hd
/-! ### impl.errorText -/
def A_impl_errorText (x0 : Int) : List AV := [(.c (.p (.i .i64 x0)))]
def U_impl_errorText (x0 : Int) : List Go.Eng.Frame := []
def O_impl_errorText (r : ByteArray) : Res := ⟨(.c (.p (.s r))), [], []⟩
abbrev CT_impl_errorText (n : Nat) : CTab := mkCT []
abbrev LT_impl_errorText (n : Nat) : LTab := mkLT []
def T_impl_errorText (n : Nat) (x0 : Int) : Tr (ByteArray) := (.ask (decide (6 = ([[(.s (⟨#[]⟩ : ByteArray))], [(.s (⟨#[35, 68, 73, 86, 33]⟩ : ByteArray))], [(.s (⟨#[35, 84, 89, 80, 69, 33]⟩ : ByteArray))], [(.s (⟨#[35, 82, 69, 70, 33]⟩ : ByteArray))], [(.s (⟨#[35, 79, 86, 69, 82, 33]⟩ : ByteArray))], [(.s (⟨#[35, 67, 89, 67, 76, 69, 33]⟩ : ByteArray))]] : List (List PV)).length ∧ 0 ≤ x0 ∧ x0 < ((6 : Nat) : Int))) (.opt (([[(.s (⟨#[]⟩ : ByteArray))], [(.s (⟨#[35, 68, 73, 86, 33]⟩ : ByteArray))], [(.s (⟨#[35, 84, 89, 80, 69, 33]⟩ : ByteArray))], [(.s (⟨#[35, 82, 69, 70, 33]⟩ : ByteArray))], [(.s (⟨#[35, 79, 86, 69, 82, 33]⟩ : ByteArray))], [(.s (⟨#[35, 67, 89, 67, 76, 69, 33]⟩ : ByteArray))]] : List (List PV))[(x0).toNat]?) fun e39 => (.opt (cellS e39 0) fun y40 => (.done y40))) .fail)
def F_impl_errorText : Nat → Int → Option (ByteArray)
  | 0, _ => none
  | n + 1, x0 => (T_impl_errorText n x0).run
theorem ft_impl_errorText (n : Nat) (x0 : Int) : funT (CT_impl_errorText n) (LT_impl_errorText n) K_impl_errorText (A_impl_errorText x0) (U_impl_errorText x0) = (T_impl_errorText n x0).bind fun r => .done (O_impl_errorText r) := by kernel_rfl
theorem ct_impl_errorText (n : Nat) : CTok (CT_impl_errorText n) (runs KP lib n) := mkCT_nil
theorem th_impl_errorText : ∀ (n : Nat) (x0 : Int) (r : ByteArray), F_impl_errorText n x0 = some r → runs KP lib n 37 (A_impl_errorText x0) (U_impl_errorText x0) = some (O_impl_errorText r)
  | 0, x0, r, h => by cases h
  | n + 1, x0, r, h => fun_step (kf := K_impl_errorText) rfl (ct_impl_errorText n) (noLoops rfl) (ft_impl_errorText n x0) h
def FH_impl_errorText (n : Nat) : Cont → Option (ByteArray)
  | ([[[.i x0]]], []) => F_impl_errorText n x0
  | _ => none
def E_impl_errorText (n : Nat) (d : List AV → List Go.Eng.Frame → Tr Res) : List AV → List Go.Eng.Frame → Tr Res := cent (A_impl_errorText (0)) (U_impl_errorText (0)) (FH_impl_errorText n) O_impl_errorText d
theorem eo_impl_errorText (n : Nat) {d : List AV → List Go.Eng.Frame → Tr Res} (hd : ∀ ar up r, (d ar up).run = some r → runs KP lib n 37 ar up = some r) : ∀ ar up r, (E_impl_errorText n d ar up).run = some r → runs KP lib n 37 ar up = some r :=
  cent_ok (fun hs r h => by
    unfold FH_impl_errorText at h
    split at h
    · exact ⟨A_impl_errorText _, U_impl_errorText _, rfl, rfl, th_impl_errorText n _ r h⟩
    · cases h) hd
/-! ### impl.valueText -/
def A_impl_valueText (x0 : Int) (x1 : Int) (x2 : ByteArray) : List AV := [(.agg [(.p (.i .i64 x0)), (.p (.i .i64 x1)), (.p (.s x2))])]
def U_impl_valueText (x0 : Int) (x1 : Int) (x2 : ByteArray) : List Go.Eng.Frame := []
def O_impl_valueText (r : ByteArray) : Res := ⟨(.c (.p (.s r))), [], []⟩
abbrev CT_impl_valueText (n : Nat) : CTab := mkCT [(48, E_impl_decimal n (noEnt)), (37, E_impl_errorText n (noEnt))]
abbrev LT_impl_valueText (n : Nat) : LTab := mkLT []
def T_impl_valueText (n : Nat) (x0 : Int) (x1 : Int) (x2 : ByteArray) : Tr (ByteArray) := (.ask ((x0 == (1 : Int))) (.opt (F_impl_decimal n x1) fun r36 => (.done r36)) (.ask ((x0 == (2 : Int))) (.ask (decide ((⟨#[39]⟩ : ByteArray).size + x2.size ≤ 9223372036854775807)) (.done ((⟨#[39]⟩ : ByteArray) ++ x2)) .fail) (.ask ((x0 == (3 : Int))) (.ask (decide (2 = ([[(.s (⟨#[70, 65, 76, 83, 69]⟩ : ByteArray))], [(.s (⟨#[84, 82, 85, 69]⟩ : ByteArray))]] : List (List PV)).length ∧ 0 ≤ x1 ∧ x1 < ((2 : Nat) : Int))) (.opt (([[(.s (⟨#[70, 65, 76, 83, 69]⟩ : ByteArray))], [(.s (⟨#[84, 82, 85, 69]⟩ : ByteArray))]] : List (List PV))[(x1).toNat]?) fun e37 => (.opt (cellS e37 0) fun y38 => (.done y38))) .fail) (.ask ((x0 == (4 : Int))) (.opt (F_impl_errorText n x1) fun r41 => (.done r41)) (.done (⟨#[]⟩ : ByteArray))))))
def F_impl_valueText : Nat → Int → Int → ByteArray → Option (ByteArray)
  | 0, _, _, _ => none
  | n + 1, x0, x1, x2 => (T_impl_valueText n x0 x1 x2).run
theorem ft_impl_valueText (n : Nat) (x0 : Int) (x1 : Int) (x2 : ByteArray) : funT (CT_impl_valueText n) (LT_impl_valueText n) K_impl_valueText (A_impl_valueText x0 x1 x2) (U_impl_valueText x0 x1 x2) = (T_impl_valueText n x0 x1 x2).bind fun r => .done (O_impl_valueText r) := by kernel_rfl
theorem ct_impl_valueText (n : Nat) : CTok (CT_impl_valueText n) (runs KP lib n) := mkCT_cons (eo_impl_decimal n (noEnt_ok)) (mkCT_cons (eo_impl_errorText n (noEnt_ok)) (mkCT_nil))
theorem th_impl_valueText : ∀ (n : Nat) (x0 : Int) (x1 : Int) (x2 : ByteArray) (r : ByteArray), F_impl_valueText n x0 x1 x2 = some r → runs KP lib n 32 (A_impl_valueText x0 x1 x2) (U_impl_valueText x0 x1 x2) = some (O_impl_valueText r)
  | 0, x0, x1, x2, r, h => by cases h
  | n + 1, x0, x1, x2, r, h => fun_step (kf := K_impl_valueText) rfl (ct_impl_valueText n) (noLoops rfl) (ft_impl_valueText n x0 x1 x2) h
def FH_impl_valueText (n : Nat) : Cont → Option (ByteArray)
  | ([[[.i x0], [.i x1], [.s x2]]], []) => F_impl_valueText n x0 x1 x2
  | _ => none
def E_impl_valueText (n : Nat) (d : List AV → List Go.Eng.Frame → Tr Res) : List AV → List Go.Eng.Frame → Tr Res := cent (A_impl_valueText (0) (0) (⟨#[]⟩)) (U_impl_valueText (0) (0) (⟨#[]⟩)) (FH_impl_valueText n) O_impl_valueText d
theorem eo_impl_valueText (n : Nat) {d : List AV → List Go.Eng.Frame → Tr Res} (hd : ∀ ar up r, (d ar up).run = some r → runs KP lib n 32 ar up = some r) : ∀ ar up r, (E_impl_valueText n d ar up).run = some r → runs KP lib n 32 ar up = some r :=
  cent_ok (fun hs r h => by
    unfold FH_impl_valueText at h
    split at h
    · exact ⟨A_impl_valueText _ _ _, U_impl_valueText _ _ _, rfl, rfl, th_impl_valueText n _ _ _ r h⟩
    · cases h) hd
/-! ### impl.ValueText -/
def A_impl_ValueText (x0 : Int) (x1 : Int) (x2 : ByteArray) : List AV := [(.agg [(.p (.i .i64 x0)), (.p (.i .i64 x1)), (.p (.s x2))])]
def U_impl_ValueText (x0 : Int) (x1 : Int) (x2 : ByteArray) : List Go.Eng.Frame := []
def O_impl_ValueText (r : ByteArray) : Res := ⟨(.c (.p (.s r))), [], []⟩
abbrev CT_impl_ValueText (n : Nat) : CTab := mkCT [(20, E_impl_ValueOk n (noEnt)), (32, E_impl_valueText n (noEnt))]
abbrev LT_impl_ValueText (n : Nat) : LTab := mkLT []
def T_impl_ValueText (n : Nat) (x0 : Int) (x1 : Int) (x2 : ByteArray) : Tr (ByteArray) := (.opt (F_impl_ValueOk n x0 x1 x2) fun r34 => (.ask ((!r34)) (.done (⟨#[]⟩ : ByteArray)) (.opt (F_impl_valueText n x0 x1 x2) fun r42 => (.done r42))))
def F_impl_ValueText : Nat → Int → Int → ByteArray → Option (ByteArray)
  | 0, _, _, _ => none
  | n + 1, x0, x1, x2 => (T_impl_ValueText n x0 x1 x2).run
theorem ft_impl_ValueText (n : Nat) (x0 : Int) (x1 : Int) (x2 : ByteArray) : funT (CT_impl_ValueText n) (LT_impl_ValueText n) K_impl_ValueText (A_impl_ValueText x0 x1 x2) (U_impl_ValueText x0 x1 x2) = (T_impl_ValueText n x0 x1 x2).bind fun r => .done (O_impl_ValueText r) := by kernel_rfl
theorem ct_impl_ValueText (n : Nat) : CTok (CT_impl_ValueText n) (runs KP lib n) := mkCT_cons (eo_impl_ValueOk n (noEnt_ok)) (mkCT_cons (eo_impl_valueText n (noEnt_ok)) (mkCT_nil))
theorem th_impl_ValueText : ∀ (n : Nat) (x0 : Int) (x1 : Int) (x2 : ByteArray) (r : ByteArray), F_impl_ValueText n x0 x1 x2 = some r → runs KP lib n 16 (A_impl_ValueText x0 x1 x2) (U_impl_ValueText x0 x1 x2) = some (O_impl_ValueText r)
  | 0, x0, x1, x2, r, h => by cases h
  | n + 1, x0, x1, x2, r, h => fun_step (kf := K_impl_ValueText) rfl (ct_impl_ValueText n) (noLoops rfl) (ft_impl_ValueText n x0 x1 x2) h
def FH_impl_ValueText (n : Nat) : Cont → Option (ByteArray)
  | ([[[.i x0], [.i x1], [.s x2]]], []) => F_impl_ValueText n x0 x1 x2
  | _ => none
def E_impl_ValueText (n : Nat) (d : List AV → List Go.Eng.Frame → Tr Res) : List AV → List Go.Eng.Frame → Tr Res := cent (A_impl_ValueText (0) (0) (⟨#[]⟩)) (U_impl_ValueText (0) (0) (⟨#[]⟩)) (FH_impl_ValueText n) O_impl_ValueText d
theorem eo_impl_ValueText (n : Nat) {d : List AV → List Go.Eng.Frame → Tr Res} (hd : ∀ ar up r, (d ar up).run = some r → runs KP lib n 16 ar up = some r) : ∀ ar up r, (E_impl_ValueText n d ar up).run = some r → runs KP lib n 16 ar up = some r :=
  cent_ok (fun hs r h => by
    unfold FH_impl_ValueText at h
    split at h
    · exact ⟨A_impl_ValueText _ _ _, U_impl_ValueText _ _ _, rfl, rfl, th_impl_ValueText n _ _ _ r h⟩
    · cases h) hd
/-! ### laws.FnExactValueText -/
def A_laws_FnExactValueText (x0 : Int) (x1 : Int) (x2 : ByteArray) : List AV := [(.agg [(.p (.i .i64 x0)), (.p (.i .i64 x1)), (.p (.s x2))])]
def U_laws_FnExactValueText (x0 : Int) (x1 : Int) (x2 : ByteArray) : List Go.Eng.Frame := []
def O_laws_FnExactValueText (r : Bool) : Res := ⟨(.c (.p (.b r))), [], []⟩
abbrev CT_laws_FnExactValueText (n : Nat) : CTab := mkCT [(8, E_laws_szValue n (noEnt)), (10, E_laws_toValue n (noEnt)), (15, E_spec_ValueText n (noEnt)), (16, E_impl_ValueText n (noEnt))]
abbrev LT_laws_FnExactValueText (n : Nat) : LTab := mkLT []
def T_laws_FnExactValueText (n : Nat) (x0 : Int) (x1 : Int) (x2 : ByteArray) : Tr (Bool) := (.opt (F_laws_szValue n x0 x1 x2 (1048576 : Int)) fun r1 => (.ask ((decide (r1 < (0 : Int)))) (.done true) (.opt (F_laws_toValue n x0 x1 x2) fun r2 => (.opt (F_spec_ValueText n r2.1 r2.2.1 r2.2.2) fun r23 => (.opt (F_laws_toValue n x0 x1 x2) fun r24 => (.opt (F_impl_ValueText n r24.1 r24.2.1 r24.2.2) fun r43 => (.ask ((!(r43.toList == r23.toList))) (.done false) (.done true))))))))
def F_laws_FnExactValueText : Nat → Int → Int → ByteArray → Option (Bool)
  | 0, _, _, _ => none
  | n + 1, x0, x1, x2 => (T_laws_FnExactValueText n x0 x1 x2).run
theorem ft_laws_FnExactValueText (n : Nat) (x0 : Int) (x1 : Int) (x2 : ByteArray) : funT (CT_laws_FnExactValueText n) (LT_laws_FnExactValueText n) K_laws_FnExactValueText (A_laws_FnExactValueText x0 x1 x2) (U_laws_FnExactValueText x0 x1 x2) = (T_laws_FnExactValueText n x0 x1 x2).bind fun r => .done (O_laws_FnExactValueText r) := by kernel_rfl
theorem ct_laws_FnExactValueText (n : Nat) : CTok (CT_laws_FnExactValueText n) (runs KP lib n) := mkCT_cons (eo_laws_szValue n (noEnt_ok)) (mkCT_cons (eo_laws_toValue n (noEnt_ok)) (mkCT_cons (eo_spec_ValueText n (noEnt_ok)) (mkCT_cons (eo_impl_ValueText n (noEnt_ok)) (mkCT_nil))))
theorem th_laws_FnExactValueText : ∀ (n : Nat) (x0 : Int) (x1 : Int) (x2 : ByteArray) (r : Bool), F_laws_FnExactValueText n x0 x1 x2 = some r → runs KP lib n 5 (A_laws_FnExactValueText x0 x1 x2) (U_laws_FnExactValueText x0 x1 x2) = some (O_laws_FnExactValueText r)
  | 0, x0, x1, x2, r, h => by cases h
  | n + 1, x0, x1, x2, r, h => fun_step (kf := K_laws_FnExactValueText) rfl (ct_laws_FnExactValueText n) (noLoops rfl) (ft_laws_FnExactValueText n x0 x1 x2) h
def FH_laws_FnExactValueText (n : Nat) : Cont → Option (Bool)
  | ([[[.i x0], [.i x1], [.s x2]]], []) => F_laws_FnExactValueText n x0 x1 x2
  | _ => none
def E_laws_FnExactValueText (n : Nat) (d : List AV → List Go.Eng.Frame → Tr Res) : List AV → List Go.Eng.Frame → Tr Res := cent (A_laws_FnExactValueText (0) (0) (⟨#[]⟩)) (U_laws_FnExactValueText (0) (0) (⟨#[]⟩)) (FH_laws_FnExactValueText n) O_laws_FnExactValueText d
theorem eo_laws_FnExactValueText (n : Nat) {d : List AV → List Go.Eng.Frame → Tr Res} (hd : ∀ ar up r, (d ar up).run = some r → runs KP lib n 5 ar up = some r) : ∀ ar up r, (E_laws_FnExactValueText n d ar up).run = some r → runs KP lib n 5 ar up = some r :=
  cent_ok (fun hs r h => by
    unfold FH_laws_FnExactValueText at h
    split at h
    · exact ⟨A_laws_FnExactValueText _ _ _, U_laws_FnExactValueText _ _ _, rfl, rfl, th_laws_FnExactValueText n _ _ _ r h⟩
    · cases h) hd
end Go.Proofs.YtaannlnlddbgdaaDoor.KFnExactValueText
