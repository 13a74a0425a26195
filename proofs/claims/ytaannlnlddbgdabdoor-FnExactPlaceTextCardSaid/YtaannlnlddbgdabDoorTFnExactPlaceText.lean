/-
  The trees of what FnExactPlaceText calls: plain functions, and that the engine reckons just these. No condition.
-/
import Derived.Test.YtaannlnlddbgdabDoorKFnExactPlaceText
import Derived.Test.YtaannlnlddbgdabDoorE33
import Derived.KernelRfl
namespace Go.Proofs.YtaannlnlddbgdabDoor.KFnExactPlaceText
open Go.Eng
set_option linter.unusedVariables false
set_option maxRecDepth 100000
def lib : FuncId → List AV → Option AV := libCons 52 Q_strconv_FormatInt (libNil)
/-! ### laws.toRef -/
def A_laws_toRef (x0 : Int) (x1 : Int) : List AV := [(.agg [(.p (.i .i64 x0)), (.p (.i .i64 x1))])]
def U_laws_toRef (x0 : Int) (x1 : Int) : List Go.Eng.Frame := []
def O_laws_toRef (r : Int × Int) : Res := ⟨(.agg [(.p (.i .i64 r.1)), (.p (.i .i64 r.2))]), [], []⟩
abbrev CT_laws_toRef (n : Nat) : CTab := mkCT []
abbrev LT_laws_toRef (n : Nat) : LTab := mkLT []
def T_laws_toRef (n : Nat) (x0 : Int) (x1 : Int) : Tr (Int × Int) := (.done (x0, x1))
def F_laws_toRef : Nat → Int → Int → Option (Int × Int)
  | 0, _, _ => none
  | n + 1, x0, x1 => (T_laws_toRef n x0 x1).run
theorem ft_laws_toRef (n : Nat) (x0 : Int) (x1 : Int) : funT (CT_laws_toRef n) (LT_laws_toRef n) K_laws_toRef (A_laws_toRef x0 x1) (U_laws_toRef x0 x1) = (T_laws_toRef n x0 x1).bind fun r => .done (O_laws_toRef r) := by kernel_rfl
theorem ct_laws_toRef (n : Nat) : CTok (CT_laws_toRef n) (runs KP lib n) := mkCT_nil
theorem th_laws_toRef : ∀ (n : Nat) (x0 : Int) (x1 : Int) (r : Int × Int), F_laws_toRef n x0 x1 = some r → runs KP lib n 30 (A_laws_toRef x0 x1) (U_laws_toRef x0 x1) = some (O_laws_toRef r)
  | 0, x0, x1, r, h => by cases h
  | n + 1, x0, x1, r, h => fun_step (kf := K_laws_toRef) rfl (ct_laws_toRef n) (noLoops rfl) (ft_laws_toRef n x0 x1) h
def FH_laws_toRef (n : Nat) : Cont → Option (Int × Int)
  | ([[[.i x0], [.i x1]]], []) => F_laws_toRef n x0 x1
  | _ => none
def E_laws_toRef (n : Nat) (d : List AV → List Go.Eng.Frame → Tr Res) : List AV → List Go.Eng.Frame → Tr Res := cent (A_laws_toRef (0) (0)) (U_laws_toRef (0) (0)) (FH_laws_toRef n) O_laws_toRef d
theorem eo_laws_toRef (n : Nat) {d : List AV → List Go.Eng.Frame → Tr Res} (hd : ∀ ar up r, (d ar up).run = some r → runs KP lib n 30 ar up = some r) : ∀ ar up r, (E_laws_toRef n d ar up).run = some r → runs KP lib n 30 ar up = some r :=
  cent_ok (fun hs r h => by
    unfold FH_laws_toRef at h
    split at h
    · exact ⟨A_laws_toRef _ _, U_laws_toRef _ _, rfl, rfl, th_laws_toRef n _ _ r h⟩
    · cases h) hd
/-! ### laws.toPlace -/
def A_laws_toPlace (x0 : Int) (x1 : Int) (x2 : Bool) (x3 : Bool) : List AV := [(.agg [(.p (.i .i64 x0)), (.p (.i .i64 x1)), (.p (.b x2)), (.p (.b x3))])]
def U_laws_toPlace (x0 : Int) (x1 : Int) (x2 : Bool) (x3 : Bool) : List Go.Eng.Frame := []
def O_laws_toPlace (r : Int × Int × Bool × Bool) : Res := ⟨(.agg [(.p (.i .i64 r.1)), (.p (.i .i64 r.2.1)), (.p (.b r.2.2.1)), (.p (.b r.2.2.2))]), [], []⟩
abbrev CT_laws_toPlace (n : Nat) : CTab := mkCT [(30, E_laws_toRef n (noEnt))]
abbrev LT_laws_toPlace (n : Nat) : LTab := mkLT []
def T_laws_toPlace (n : Nat) (x0 : Int) (x1 : Int) (x2 : Bool) (x3 : Bool) : Tr (Int × Int × Bool × Bool) := (.opt (F_laws_toRef n x0 x1) fun r1 => (.done (r1.1, r1.2, x2, x3)))
def F_laws_toPlace : Nat → Int → Int → Bool → Bool → Option (Int × Int × Bool × Bool)
  | 0, _, _, _, _ => none
  | n + 1, x0, x1, x2, x3 => (T_laws_toPlace n x0 x1 x2 x3).run
theorem ft_laws_toPlace (n : Nat) (x0 : Int) (x1 : Int) (x2 : Bool) (x3 : Bool) : funT (CT_laws_toPlace n) (LT_laws_toPlace n) K_laws_toPlace (A_laws_toPlace x0 x1 x2 x3) (U_laws_toPlace x0 x1 x2 x3) = (T_laws_toPlace n x0 x1 x2 x3).bind fun r => .done (O_laws_toPlace r) := by kernel_rfl
theorem ct_laws_toPlace (n : Nat) : CTok (CT_laws_toPlace n) (runs KP lib n) := mkCT_cons (eo_laws_toRef n (noEnt_ok)) (mkCT_nil)
theorem th_laws_toPlace : ∀ (n : Nat) (x0 : Int) (x1 : Int) (x2 : Bool) (x3 : Bool) (r : Int × Int × Bool × Bool), F_laws_toPlace n x0 x1 x2 x3 = some r → runs KP lib n 8 (A_laws_toPlace x0 x1 x2 x3) (U_laws_toPlace x0 x1 x2 x3) = some (O_laws_toPlace r)
  | 0, x0, x1, x2, x3, r, h => by cases h
  | n + 1, x0, x1, x2, x3, r, h => fun_step (kf := K_laws_toPlace) rfl (ct_laws_toPlace n) (noLoops rfl) (ft_laws_toPlace n x0 x1 x2 x3) h
def FH_laws_toPlace (n : Nat) : Cont → Option (Int × Int × Bool × Bool)
  | ([[[.i x0], [.i x1], [.b x2], [.b x3]]], []) => F_laws_toPlace n x0 x1 x2 x3
  | _ => none
def E_laws_toPlace (n : Nat) (d : List AV → List Go.Eng.Frame → Tr Res) : List AV → List Go.Eng.Frame → Tr Res := cent (A_laws_toPlace (0) (0) (false) (false)) (U_laws_toPlace (0) (0) (false) (false)) (FH_laws_toPlace n) O_laws_toPlace d
theorem eo_laws_toPlace (n : Nat) {d : List AV → List Go.Eng.Frame → Tr Res} (hd : ∀ ar up r, (d ar up).run = some r → runs KP lib n 8 ar up = some r) : ∀ ar up r, (E_laws_toPlace n d ar up).run = some r → runs KP lib n 8 ar up = some r :=
  cent_ok (fun hs r h => by
    unfold FH_laws_toPlace at h
    split at h
    · exact ⟨A_laws_toPlace _ _ _ _, U_laws_toPlace _ _ _ _, rfl, rfl, th_laws_toPlace n _ _ _ _ r h⟩
    · cases h) hd
/-! ### spec.l1In -/
def A_spec_l1In (x0 : Int) (x1 : Int) (x2 : Int) : List AV := [(.c (.p (.i .i64 x0))), (.c (.p (.i .i64 x1))), (.c (.p (.i .i64 x2)))]
def U_spec_l1In (x0 : Int) (x1 : Int) (x2 : Int) : List Go.Eng.Frame := []
def O_spec_l1In (r : Bool) : Res := ⟨(.c (.p (.b r))), [], []⟩
abbrev CT_spec_l1In (n : Nat) : CTab := mkCT []
abbrev LT_spec_l1In (n : Nat) : LTab := mkLT []
def T_spec_l1In (n : Nat) (x0 : Int) (x1 : Int) (x2 : Int) : Tr (Bool) := (.ask ((decide (x0 ≥ x1))) (.done (decide (x0 ≤ x2))) (.done false))
def F_spec_l1In : Nat → Int → Int → Int → Option (Bool)
  | 0, _, _, _ => none
  | n + 1, x0, x1, x2 => (T_spec_l1In n x0 x1 x2).run
theorem ft_spec_l1In (n : Nat) (x0 : Int) (x1 : Int) (x2 : Int) : funT (CT_spec_l1In n) (LT_spec_l1In n) K_spec_l1In (A_spec_l1In x0 x1 x2) (U_spec_l1In x0 x1 x2) = (T_spec_l1In n x0 x1 x2).bind fun r => .done (O_spec_l1In r) := by kernel_rfl
theorem ct_spec_l1In (n : Nat) : CTok (CT_spec_l1In n) (runs KP lib n) := mkCT_nil
theorem th_spec_l1In : ∀ (n : Nat) (x0 : Int) (x1 : Int) (x2 : Int) (r : Bool), F_spec_l1In n x0 x1 x2 = some r → runs KP lib n 41 (A_spec_l1In x0 x1 x2) (U_spec_l1In x0 x1 x2) = some (O_spec_l1In r)
  | 0, x0, x1, x2, r, h => by cases h
  | n + 1, x0, x1, x2, r, h => fun_step (kf := K_spec_l1In) rfl (ct_spec_l1In n) (noLoops rfl) (ft_spec_l1In n x0 x1 x2) h
def FH_spec_l1In (n : Nat) : Cont → Option (Bool)
  | ([[[.i x0]], [[.i x1]], [[.i x2]]], []) => F_spec_l1In n x0 x1 x2
  | _ => none
def E_spec_l1In (n : Nat) (d : List AV → List Go.Eng.Frame → Tr Res) : List AV → List Go.Eng.Frame → Tr Res := cent (A_spec_l1In (0) (0) (0)) (U_spec_l1In (0) (0) (0)) (FH_spec_l1In n) O_spec_l1In d
theorem eo_spec_l1In (n : Nat) {d : List AV → List Go.Eng.Frame → Tr Res} (hd : ∀ ar up r, (d ar up).run = some r → runs KP lib n 41 ar up = some r) : ∀ ar up r, (E_spec_l1In n d ar up).run = some r → runs KP lib n 41 ar up = some r :=
  cent_ok (fun hs r h => by
    unfold FH_spec_l1In at h
    split at h
    · exact ⟨A_spec_l1In _ _ _, U_spec_l1In _ _ _, rfl, rfl, th_spec_l1In n _ _ _ r h⟩
    · cases h) hd
/-! ### spec.RefOk -/
def A_spec_RefOk (x0 : Int) (x1 : Int) : List AV := [(.agg [(.p (.i .i64 x0)), (.p (.i .i64 x1))])]
def U_spec_RefOk (x0 : Int) (x1 : Int) : List Go.Eng.Frame := []
def O_spec_RefOk (r : Bool) : Res := ⟨(.c (.p (.b r))), [], []⟩
abbrev CT_spec_RefOk (n : Nat) : CTab := mkCT [(41, E_spec_l1In n (noEnt))]
abbrev LT_spec_RefOk (n : Nat) : LTab := mkLT []
def T_spec_RefOk (n : Nat) (x0 : Int) (x1 : Int) : Tr (Bool) := (.opt (F_spec_l1In n x0 (1 : Int) (52 : Int)) fun r3 => (.ask (r3) (.opt (F_spec_l1In n x1 (1 : Int) (99 : Int)) fun r4 => (.done r4)) (.done false)))
def F_spec_RefOk : Nat → Int → Int → Option (Bool)
  | 0, _, _ => none
  | n + 1, x0, x1 => (T_spec_RefOk n x0 x1).run
theorem ft_spec_RefOk (n : Nat) (x0 : Int) (x1 : Int) : funT (CT_spec_RefOk n) (LT_spec_RefOk n) K_spec_RefOk (A_spec_RefOk x0 x1) (U_spec_RefOk x0 x1) = (T_spec_RefOk n x0 x1).bind fun r => .done (O_spec_RefOk r) := by kernel_rfl
theorem ct_spec_RefOk (n : Nat) : CTok (CT_spec_RefOk n) (runs KP lib n) := mkCT_cons (eo_spec_l1In n (noEnt_ok)) (mkCT_nil)
theorem th_spec_RefOk : ∀ (n : Nat) (x0 : Int) (x1 : Int) (r : Bool), F_spec_RefOk n x0 x1 = some r → runs KP lib n 28 (A_spec_RefOk x0 x1) (U_spec_RefOk x0 x1) = some (O_spec_RefOk r)
  | 0, x0, x1, r, h => by cases h
  | n + 1, x0, x1, r, h => fun_step (kf := K_spec_RefOk) rfl (ct_spec_RefOk n) (noLoops rfl) (ft_spec_RefOk n x0 x1) h
def FH_spec_RefOk (n : Nat) : Cont → Option (Bool)
  | ([[[.i x0], [.i x1]]], []) => F_spec_RefOk n x0 x1
  | _ => none
def E_spec_RefOk (n : Nat) (d : List AV → List Go.Eng.Frame → Tr Res) : List AV → List Go.Eng.Frame → Tr Res := cent (A_spec_RefOk (0) (0)) (U_spec_RefOk (0) (0)) (FH_spec_RefOk n) O_spec_RefOk d
theorem eo_spec_RefOk (n : Nat) {d : List AV → List Go.Eng.Frame → Tr Res} (hd : ∀ ar up r, (d ar up).run = some r → runs KP lib n 28 ar up = some r) : ∀ ar up r, (E_spec_RefOk n d ar up).run = some r → runs KP lib n 28 ar up = some r :=
  cent_ok (fun hs r h => by
    unfold FH_spec_RefOk at h
    split at h
    · exact ⟨A_spec_RefOk _ _, U_spec_RefOk _ _, rfl, rfl, th_spec_RefOk n _ _ r h⟩
    · cases h) hd
/-! ### spec.ColText -/
def A_spec_ColText (x0 : Int) : List AV := [(.c (.p (.i .i64 x0)))]
def U_spec_ColText (x0 : Int) : List Go.Eng.Frame := []
def O_spec_ColText (r : ByteArray) : Res := ⟨(.c (.p (.s r))), [], []⟩
abbrev CT_spec_ColText (n : Nat) : CTab := mkCT [(41, E_spec_l1In n (noEnt))]
def S_spec_ColText_30 (v : Int × ByteArray) : St := ⟨[(0, (.c (.p (.i .i64 v.1)))), (3, (.c (.p (.s v.2))))], [], []⟩
def B_spec_ColText_30 (n : Nat) (v : Int × ByteArray) : Tr ((Int × ByteArray) ⊕ ((ByteArray))) := (.ask ((decide (v.1 > (0 : Int)))) (.ask (decide (1 = ([[(.i .u8 (IntKind.u8.wrap (IntKind.i64.wrap ((65 : Int) + (Int.tmod (IntKind.i64.wrap (v.1 - (1 : Int))) (26 : Int))))))]] : List (List PV)).length)) (.opt (bytesOf ([[(.i .u8 (IntKind.u8.wrap (IntKind.i64.wrap ((65 : Int) + (Int.tmod (IntKind.i64.wrap (v.1 - (1 : Int))) (26 : Int))))))]] : List (List PV))) fun l7 => (.ask (decide ((⟨l7.toArray⟩ : ByteArray).size + v.2.size ≤ 9223372036854775807)) (.done (.inl ((IntKind.i64.wrap (Int.tdiv (IntKind.i64.wrap (v.1 - (1 : Int))) (26 : Int))), ((⟨l7.toArray⟩ : ByteArray) ++ v.2)))) .fail)) .fail) (.done (.inr (v.2))))
def D_spec_ColText_30 : (ByteArray) → Ex × St := fun r => ((.exit 0), ⟨[(3, (.c (.p (.s r))))], [], []⟩)
def DT_spec_ColText_30 : (ByteArray) → Tr (Ex × St) := fun r => .done ((.exit 0), ⟨[(3, (.c (.p (.s r))))], [], []⟩)
def VH_spec_ColText_30 : Cont3 → Option (Int × ByteArray)
  | ([[[.i w0]], [[.s w1]]], [], []) => some (w0, w1)
  | _ => none
abbrev LE_spec_ColText_30 (n : Nat) : St → Tr (Ex × St) := lent (S_spec_ColText_30 (0, ⟨#[]⟩)) VH_spec_ColText_30 (B_spec_ColText_30 n) DT_spec_ColText_30 n
abbrev LT_spec_ColText (n : Nat) : LTab := mkLT [(30, LE_spec_ColText_30 n)]
def T_spec_ColText (n : Nat) (x0 : Int) : Tr (ByteArray) := (.opt (F_spec_l1In n x0 (1 : Int) (52 : Int)) fun r6 => (.ask ((!r6)) (.done (⟨#[]⟩ : ByteArray)) (.opt (loopF (B_spec_ColText_30 n) n (x0, (⟨#[]⟩ : ByteArray))) fun r8 => (.done r8))))
def F_spec_ColText : Nat → Int → Option (ByteArray)
  | 0, _ => none
  | n + 1, x0 => (T_spec_ColText n x0).run
theorem ft_spec_ColText (n : Nat) (x0 : Int) : funT (CT_spec_ColText n) (LT_spec_ColText n) K_spec_ColText (A_spec_ColText x0) (U_spec_ColText x0) = (T_spec_ColText n x0).bind fun r => .done (O_spec_ColText r) := by kernel_rfl
theorem ct_spec_ColText (n : Nat) : CTok (CT_spec_ColText n) (runs KP lib n) := mkCT_cons (eo_spec_l1In n (noEnt_ok)) (mkCT_nil)
theorem lt_spec_ColText_30 (n : Nat) (v : Int × ByteArray) : (evalCT (CT_spec_ColText n) (mkLT []) K_spec_ColText_L30 (S_spec_ColText_30 v) []).bind (ltail [0, 3] [(.ret, [2]), ((.exit 0), [3])]) = (B_spec_ColText_30 n v).bind (lenc S_spec_ColText_30 D_spec_ColText_30) := by
  obtain ⟨w0, w1⟩ := v
  kernel_rfl
theorem le_spec_ColText_30 (n : Nat) : LEok (runs KP lib n) n (30, [0, 3], [(.ret, [2]), ((.exit 0), [3])], K_spec_ColText_L30) (LE_spec_ColText_30 n) := fun st e s h =>
  lent_ok (ct_spec_ColText n) (noLoops rfl) (lt_spec_ColText_30 n) (fun r h => by cases h) (fun r y h => by cases h; rfl) (fun hs v h => by
    unfold VH_spec_ColText_30 at h
    split at h <;> cases h
    rfl) h
theorem lo_spec_ColText (n : Nat) : LTok (LT_spec_ColText n) (runs KP lib n) n K_spec_ColText.body := mkLT_ok (by
  intro x hx
  have hx : x ∈ ([(30, [0, 3], [(.ret, [2]), ((.exit 0), [3])], K_spec_ColText_L30)] : List (Nat × List Nat × List (Ex × List Nat) × KCode)) := hx
  simp only [List.mem_cons, List.not_mem_nil, or_false] at hx
  rcases hx with rfl
  · exact ⟨LE_spec_ColText_30 n, fun st => rfl, le_spec_ColText_30 n⟩)
theorem th_spec_ColText : ∀ (n : Nat) (x0 : Int) (r : ByteArray), F_spec_ColText n x0 = some r → runs KP lib n 17 (A_spec_ColText x0) (U_spec_ColText x0) = some (O_spec_ColText r)
  | 0, x0, r, h => by cases h
  | n + 1, x0, r, h => fun_step (kf := K_spec_ColText) rfl (ct_spec_ColText n) (lo_spec_ColText n) (ft_spec_ColText n x0) h
def FH_spec_ColText (n : Nat) : Cont → Option (ByteArray)
  | ([[[.i x0]]], []) => F_spec_ColText n x0
  | _ => none
def E_spec_ColText (n : Nat) (d : List AV → List Go.Eng.Frame → Tr Res) : List AV → List Go.Eng.Frame → Tr Res := cent (A_spec_ColText (0)) (U_spec_ColText (0)) (FH_spec_ColText n) O_spec_ColText d
theorem eo_spec_ColText (n : Nat) {d : List AV → List Go.Eng.Frame → Tr Res} (hd : ∀ ar up r, (d ar up).run = some r → runs KP lib n 17 ar up = some r) : ∀ ar up r, (E_spec_ColText n d ar up).run = some r → runs KP lib n 17 ar up = some r :=
  cent_ok (fun hs r h => by
    unfold FH_spec_ColText at h
    split at h
    · exact ⟨A_spec_ColText _, U_spec_ColText _, rfl, rfl, th_spec_ColText n _ r h⟩
    · cases h) hd
/-! ### spec.l1Dec -/
def A_spec_l1Dec (x0 : Int) : List AV := [(.c (.p (.i .i64 x0)))]
def U_spec_l1Dec (x0 : Int) : List Go.Eng.Frame := []
def O_spec_l1Dec (r : ByteArray) : Res := ⟨(.c (.p (.s r))), [], []⟩
def FHr_spec_l1Dec (rec : Int → Option (ByteArray)) : Cont → Option (ByteArray)
  | ([[[.i x0]]], []) => rec x0
  | _ => none
abbrev CT_spec_l1Dec (rec : Int → Option (ByteArray)) (n : Nat) : CTab := mkCT [(29, cent (A_spec_l1Dec (0)) (U_spec_l1Dec (0)) (fun hs => FHr_spec_l1Dec rec hs) O_spec_l1Dec (noEnt))]
def S_spec_l1Dec_30 (v : Int × ByteArray) : St := ⟨[(0, (.c (.p (.i .i64 v.1)))), (3, (.c (.p (.s v.2))))], [], []⟩
def B_spec_l1Dec_30 (n : Nat) (v : Int × ByteArray) : Tr ((Int × ByteArray) ⊕ ((Int × ByteArray))) := (.ask ((decide (v.1 ≥ (10 : Int)))) (.ask (decide (1 = ([[(.i .u8 (IntKind.u8.wrap (IntKind.i64.wrap ((48 : Int) + (Int.tmod v.1 (10 : Int))))))]] : List (List PV)).length)) (.opt (bytesOf ([[(.i .u8 (IntKind.u8.wrap (IntKind.i64.wrap ((48 : Int) + (Int.tmod v.1 (10 : Int))))))]] : List (List PV))) fun l12 => (.ask (decide ((⟨l12.toArray⟩ : ByteArray).size + v.2.size ≤ 9223372036854775807)) (.done (.inl ((IntKind.i64.wrap (Int.tdiv v.1 (10 : Int))), ((⟨l12.toArray⟩ : ByteArray) ++ v.2)))) .fail)) .fail) (.done (.inr ((v.1, v.2)))))
def D_spec_l1Dec_30 : (Int × ByteArray) → Ex × St := fun r => ((.exit 0), ⟨[(0, (.c (.p (.i .i64 r.1)))), (3, (.c (.p (.s r.2))))], [], []⟩)
def DT_spec_l1Dec_30 : (Int × ByteArray) → Tr (Ex × St) := fun r => .done ((.exit 0), ⟨[(0, (.c (.p (.i .i64 r.1)))), (3, (.c (.p (.s r.2))))], [], []⟩)
def VH_spec_l1Dec_30 : Cont3 → Option (Int × ByteArray)
  | ([[[.i w0]], [[.s w1]]], [], []) => some (w0, w1)
  | _ => none
abbrev LE_spec_l1Dec_30 (n : Nat) : St → Tr (Ex × St) := lent (S_spec_l1Dec_30 (0, ⟨#[]⟩)) VH_spec_l1Dec_30 (B_spec_l1Dec_30 n) DT_spec_l1Dec_30 n
abbrev LT_spec_l1Dec (rec : Int → Option (ByteArray)) (n : Nat) : LTab := mkLT [(30, LE_spec_l1Dec_30 n)]
def T_spec_l1Dec (rec : Int → Option (ByteArray)) (n : Nat) (x0 : Int) : Tr (ByteArray) := (.ask ((decide (x0 < (0 : Int)))) (.opt (rec (IntKind.i64.wrap (0 - x0))) fun r11 => (.ask (decide ((⟨#[45]⟩ : ByteArray).size + r11.size ≤ 9223372036854775807)) (.done ((⟨#[45]⟩ : ByteArray) ++ r11)) .fail)) (.opt (loopF (B_spec_l1Dec_30 n) n (x0, (⟨#[]⟩ : ByteArray))) fun r13 => (.ask (decide (1 = ([[(.i .u8 (IntKind.u8.wrap (IntKind.i64.wrap ((48 : Int) + r13.1))))]] : List (List PV)).length)) (.opt (bytesOf ([[(.i .u8 (IntKind.u8.wrap (IntKind.i64.wrap ((48 : Int) + r13.1))))]] : List (List PV))) fun l14 => (.ask (decide ((⟨l14.toArray⟩ : ByteArray).size + r13.2.size ≤ 9223372036854775807)) (.done ((⟨l14.toArray⟩ : ByteArray) ++ r13.2)) .fail)) .fail)))
def F_spec_l1Dec : Nat → Int → Option (ByteArray)
  | 0, _ => none
  | n + 1, x0 => (T_spec_l1Dec (F_spec_l1Dec n) n x0).run
theorem ft_spec_l1Dec (rec : Int → Option (ByteArray)) (n : Nat) (x0 : Int) : funT (CT_spec_l1Dec rec n) (LT_spec_l1Dec rec n) K_spec_l1Dec (A_spec_l1Dec x0) (U_spec_l1Dec x0) = (T_spec_l1Dec rec n x0).bind fun r => .done (O_spec_l1Dec r) := by kernel_rfl
theorem ct_spec_l1Dec (n : Nat) (ih : ∀ (x0 : Int) r, F_spec_l1Dec n x0 = some r → runs KP lib n 29 (A_spec_l1Dec x0) (U_spec_l1Dec x0) = some (O_spec_l1Dec r)) : CTok (CT_spec_l1Dec (F_spec_l1Dec n) n) (runs KP lib n) := mkCT_cons (cent_ok (fun hs r h => by
    unfold FHr_spec_l1Dec at h
    split at h
    · exact ⟨A_spec_l1Dec _, U_spec_l1Dec _, rfl, rfl, ih _ r h⟩
    · cases h) (noEnt_ok)) (mkCT_nil)
theorem lt_spec_l1Dec_30 (n : Nat) (v : Int × ByteArray) : (evalCT (CT_spec_l1Dec (F_spec_l1Dec n) n) (mkLT []) K_spec_l1Dec_L30 (S_spec_l1Dec_30 v) []).bind (ltail [0, 3] [(.ret, [2]), ((.exit 0), [0, 3])]) = (B_spec_l1Dec_30 n v).bind (lenc S_spec_l1Dec_30 D_spec_l1Dec_30) := by
  obtain ⟨w0, w1⟩ := v
  kernel_rfl
theorem le_spec_l1Dec_30 (n : Nat) (ih : ∀ (x0 : Int) r, F_spec_l1Dec n x0 = some r → runs KP lib n 29 (A_spec_l1Dec x0) (U_spec_l1Dec x0) = some (O_spec_l1Dec r)) : LEok (runs KP lib n) n (30, [0, 3], [(.ret, [2]), ((.exit 0), [0, 3])], K_spec_l1Dec_L30) (LE_spec_l1Dec_30 n) := fun st e s h =>
  lent_ok (ct_spec_l1Dec n ih) (noLoops rfl) (lt_spec_l1Dec_30 n) (fun r h => by cases h) (fun r y h => by cases h; rfl) (fun hs v h => by
    unfold VH_spec_l1Dec_30 at h
    split at h <;> cases h
    rfl) h
theorem lo_spec_l1Dec (n : Nat) (ih : ∀ (x0 : Int) r, F_spec_l1Dec n x0 = some r → runs KP lib n 29 (A_spec_l1Dec x0) (U_spec_l1Dec x0) = some (O_spec_l1Dec r)) : LTok (LT_spec_l1Dec (F_spec_l1Dec n) n) (runs KP lib n) n K_spec_l1Dec.body := mkLT_ok (by
  intro x hx
  have hx : x ∈ ([(30, [0, 3], [(.ret, [2]), ((.exit 0), [0, 3])], K_spec_l1Dec_L30)] : List (Nat × List Nat × List (Ex × List Nat) × KCode)) := hx
  simp only [List.mem_cons, List.not_mem_nil, or_false] at hx
  rcases hx with rfl
  · exact ⟨LE_spec_l1Dec_30 n, fun st => rfl, le_spec_l1Dec_30 n ih⟩)
theorem th_spec_l1Dec : ∀ (n : Nat) (x0 : Int) (r : ByteArray), F_spec_l1Dec n x0 = some r → runs KP lib n 29 (A_spec_l1Dec x0) (U_spec_l1Dec x0) = some (O_spec_l1Dec r)
  | 0, x0, r, h => by cases h
  | n + 1, x0, r, h => fun_step (kf := K_spec_l1Dec) rfl (ct_spec_l1Dec n (th_spec_l1Dec n)) (lo_spec_l1Dec n (th_spec_l1Dec n)) (ft_spec_l1Dec (F_spec_l1Dec n) n x0) h
def FH_spec_l1Dec (n : Nat) : Cont → Option (ByteArray)
  | ([[[.i x0]]], []) => F_spec_l1Dec n x0
  | _ => none
def E_spec_l1Dec (n : Nat) (d : List AV → List Go.Eng.Frame → Tr Res) : List AV → List Go.Eng.Frame → Tr Res := cent (A_spec_l1Dec (0)) (U_spec_l1Dec (0)) (FH_spec_l1Dec n) O_spec_l1Dec d
theorem eo_spec_l1Dec (n : Nat) {d : List AV → List Go.Eng.Frame → Tr Res} (hd : ∀ ar up r, (d ar up).run = some r → runs KP lib n 29 ar up = some r) : ∀ ar up r, (E_spec_l1Dec n d ar up).run = some r → runs KP lib n 29 ar up = some r :=
  cent_ok (fun hs r h => by
    unfold FH_spec_l1Dec at h
    split at h
    · exact ⟨A_spec_l1Dec _, U_spec_l1Dec _, rfl, rfl, th_spec_l1Dec n _ r h⟩
    · cases h) hd
/-! ### spec.PlaceText -/
def A_spec_PlaceText (x0 : Int) (x1 : Int) (x2 : Bool) (x3 : Bool) : List AV := [(.agg [(.p (.i .i64 x0)), (.p (.i .i64 x1)), (.p (.b x2)), (.p (.b x3))])]
def U_spec_PlaceText (x0 : Int) (x1 : Int) (x2 : Bool) (x3 : Bool) : List Go.Eng.Frame := []
def O_spec_PlaceText (r : ByteArray) : Res := ⟨(.c (.p (.s r))), [], []⟩
abbrev CT_spec_PlaceText (n : Nat) : CTab := mkCT [(28, E_spec_RefOk n (noEnt)), (17, E_spec_ColText n (noEnt)), (29, E_spec_l1Dec n (noEnt))]
abbrev LT_spec_PlaceText (n : Nat) : LTab := mkLT []
def T_spec_PlaceText (n : Nat) (x0 : Int) (x1 : Int) (x2 : Bool) (x3 : Bool) : Tr (ByteArray) := (.opt (F_spec_RefOk n x0 x1) fun r5 => (.ask ((!r5)) (.done (⟨#[]⟩ : ByteArray)) (.opt (F_spec_ColText n x0) fun r9 => (.ask (x2) (.ask (decide ((⟨#[36]⟩ : ByteArray).size + r9.size ≤ 9223372036854775807)) (.ask (x3) (.ask (decide (((⟨#[36]⟩ : ByteArray) ++ r9).size + (⟨#[36]⟩ : ByteArray).size ≤ 9223372036854775807)) (.opt (F_spec_l1Dec n x1) fun r15 => (.ask (decide ((((⟨#[36]⟩ : ByteArray) ++ r9) ++ (⟨#[36]⟩ : ByteArray)).size + r15.size ≤ 9223372036854775807)) (.done ((((⟨#[36]⟩ : ByteArray) ++ r9) ++ (⟨#[36]⟩ : ByteArray)) ++ r15)) .fail)) .fail) (.opt (F_spec_l1Dec n x1) fun r16 => (.ask (decide (((⟨#[36]⟩ : ByteArray) ++ r9).size + r16.size ≤ 9223372036854775807)) (.done (((⟨#[36]⟩ : ByteArray) ++ r9) ++ r16)) .fail))) .fail) (.ask (x3) (.ask (decide (r9.size + (⟨#[36]⟩ : ByteArray).size ≤ 9223372036854775807)) (.opt (F_spec_l1Dec n x1) fun r17 => (.ask (decide ((r9 ++ (⟨#[36]⟩ : ByteArray)).size + r17.size ≤ 9223372036854775807)) (.done ((r9 ++ (⟨#[36]⟩ : ByteArray)) ++ r17)) .fail)) .fail) (.opt (F_spec_l1Dec n x1) fun r18 => (.ask (decide (r9.size + r18.size ≤ 9223372036854775807)) (.done (r9 ++ r18)) .fail)))))))
def F_spec_PlaceText : Nat → Int → Int → Bool → Bool → Option (ByteArray)
  | 0, _, _, _, _ => none
  | n + 1, x0, x1, x2, x3 => (T_spec_PlaceText n x0 x1 x2 x3).run
theorem ft_spec_PlaceText (n : Nat) (x0 : Int) (x1 : Int) (x2 : Bool) (x3 : Bool) : funT (CT_spec_PlaceText n) (LT_spec_PlaceText n) K_spec_PlaceText (A_spec_PlaceText x0 x1 x2 x3) (U_spec_PlaceText x0 x1 x2 x3) = (T_spec_PlaceText n x0 x1 x2 x3).bind fun r => .done (O_spec_PlaceText r) := by kernel_rfl
theorem ct_spec_PlaceText (n : Nat) : CTok (CT_spec_PlaceText n) (runs KP lib n) := mkCT_cons (eo_spec_RefOk n (noEnt_ok)) (mkCT_cons (eo_spec_ColText n (noEnt_ok)) (mkCT_cons (eo_spec_l1Dec n (noEnt_ok)) (mkCT_nil)))
theorem th_spec_PlaceText : ∀ (n : Nat) (x0 : Int) (x1 : Int) (x2 : Bool) (x3 : Bool) (r : ByteArray), F_spec_PlaceText n x0 x1 x2 x3 = some r → runs KP lib n 7 (A_spec_PlaceText x0 x1 x2 x3) (U_spec_PlaceText x0 x1 x2 x3) = some (O_spec_PlaceText r)
  | 0, x0, x1, x2, x3, r, h => by cases h
  | n + 1, x0, x1, x2, x3, r, h => fun_step (kf := K_spec_PlaceText) rfl (ct_spec_PlaceText n) (noLoops rfl) (ft_spec_PlaceText n x0 x1 x2 x3) h
def FH_spec_PlaceText (n : Nat) : Cont → Option (ByteArray)
  | ([[[.i x0], [.i x1], [.b x2], [.b x3]]], []) => F_spec_PlaceText n x0 x1 x2 x3
  | _ => none
def E_spec_PlaceText (n : Nat) (d : List AV → List Go.Eng.Frame → Tr Res) : List AV → List Go.Eng.Frame → Tr Res := cent (A_spec_PlaceText (0) (0) (false) (false)) (U_spec_PlaceText (0) (0) (false) (false)) (FH_spec_PlaceText n) O_spec_PlaceText d
theorem eo_spec_PlaceText (n : Nat) {d : List AV → List Go.Eng.Frame → Tr Res} (hd : ∀ ar up r, (d ar up).run = some r → runs KP lib n 7 ar up = some r) : ∀ ar up r, (E_spec_PlaceText n d ar up).run = some r → runs KP lib n 7 ar up = some r :=
  cent_ok (fun hs r h => by
    unfold FH_spec_PlaceText at h
    split at h
    · exact ⟨A_spec_PlaceText _ _ _ _, U_spec_PlaceText _ _ _ _, rfl, rfl, th_spec_PlaceText n _ _ _ _ r h⟩
    · cases h) hd
/-! ### impl.within -/
def A_impl_within (x0 : Int) (x1 : Int) (x2 : Int) : List AV := [(.c (.p (.i .i64 x0))), (.c (.p (.i .i64 x1))), (.c (.p (.i .i64 x2)))]
def U_impl_within (x0 : Int) (x1 : Int) (x2 : Int) : List Go.Eng.Frame := []
def O_impl_within (r : Bool) : Res := ⟨(.c (.p (.b r))), [], []⟩
abbrev CT_impl_within (n : Nat) : CTab := mkCT []
abbrev LT_impl_within (n : Nat) : LTab := mkLT []
def T_impl_within (n : Nat) (x0 : Int) (x1 : Int) (x2 : Int) : Tr (Bool) := (.ask ((decide (x0 ≥ x1))) (.done (decide (x0 ≤ x2))) (.done false))
def F_impl_within : Nat → Int → Int → Int → Option (Bool)
  | 0, _, _, _ => none
  | n + 1, x0, x1, x2 => (T_impl_within n x0 x1 x2).run
theorem ft_impl_within (n : Nat) (x0 : Int) (x1 : Int) (x2 : Int) : funT (CT_impl_within n) (LT_impl_within n) K_impl_within (A_impl_within x0 x1 x2) (U_impl_within x0 x1 x2) = (T_impl_within n x0 x1 x2).bind fun r => .done (O_impl_within r) := by kernel_rfl
theorem ct_impl_within (n : Nat) : CTok (CT_impl_within n) (runs KP lib n) := mkCT_nil
theorem th_impl_within : ∀ (n : Nat) (x0 : Int) (x1 : Int) (x2 : Int) (r : Bool), F_impl_within n x0 x1 x2 = some r → runs KP lib n 39 (A_impl_within x0 x1 x2) (U_impl_within x0 x1 x2) = some (O_impl_within r)
  | 0, x0, x1, x2, r, h => by cases h
  | n + 1, x0, x1, x2, r, h => fun_step (kf := K_impl_within) rfl (ct_impl_within n) (noLoops rfl) (ft_impl_within n x0 x1 x2) h
def FH_impl_within (n : Nat) : Cont → Option (Bool)
  | ([[[.i x0]], [[.i x1]], [[.i x2]]], []) => F_impl_within n x0 x1 x2
  | _ => none
def E_impl_within (n : Nat) (d : List AV → List Go.Eng.Frame → Tr Res) : List AV → List Go.Eng.Frame → Tr Res := cent (A_impl_within (0) (0) (0)) (U_impl_within (0) (0) (0)) (FH_impl_within n) O_impl_within d
theorem eo_impl_within (n : Nat) {d : List AV → List Go.Eng.Frame → Tr Res} (hd : ∀ ar up r, (d ar up).run = some r → runs KP lib n 39 ar up = some r) : ∀ ar up r, (E_impl_within n d ar up).run = some r → runs KP lib n 39 ar up = some r :=
  cent_ok (fun hs r h => by
    unfold FH_impl_within at h
    split at h
    · exact ⟨A_impl_within _ _ _, U_impl_within _ _ _, rfl, rfl, th_impl_within n _ _ _ r h⟩
    · cases h) hd
/-! ### impl.RefOk -/
def A_impl_RefOk (x0 : Int) (x1 : Int) : List AV := [(.agg [(.p (.i .i64 x0)), (.p (.i .i64 x1))])]
def U_impl_RefOk (x0 : Int) (x1 : Int) : List Go.Eng.Frame := []
def O_impl_RefOk (r : Bool) : Res := ⟨(.c (.p (.b r))), [], []⟩
abbrev CT_impl_RefOk (n : Nat) : CTab := mkCT [(39, E_impl_within n (noEnt))]
abbrev LT_impl_RefOk (n : Nat) : LTab := mkLT []
def T_impl_RefOk (n : Nat) (x0 : Int) (x1 : Int) : Tr (Bool) := (.opt (F_impl_within n x0 (1 : Int) (52 : Int)) fun r21 => (.ask (r21) (.opt (F_impl_within n x1 (1 : Int) (99 : Int)) fun r22 => (.done r22)) (.done false)))
def F_impl_RefOk : Nat → Int → Int → Option (Bool)
  | 0, _, _ => none
  | n + 1, x0, x1 => (T_impl_RefOk n x0 x1).run
theorem ft_impl_RefOk (n : Nat) (x0 : Int) (x1 : Int) : funT (CT_impl_RefOk n) (LT_impl_RefOk n) K_impl_RefOk (A_impl_RefOk x0 x1) (U_impl_RefOk x0 x1) = (T_impl_RefOk n x0 x1).bind fun r => .done (O_impl_RefOk r) := by kernel_rfl
theorem ct_impl_RefOk (n : Nat) : CTok (CT_impl_RefOk n) (runs KP lib n) := mkCT_cons (eo_impl_within n (noEnt_ok)) (mkCT_nil)
theorem th_impl_RefOk : ∀ (n : Nat) (x0 : Int) (x1 : Int) (r : Bool), F_impl_RefOk n x0 x1 = some r → runs KP lib n 21 (A_impl_RefOk x0 x1) (U_impl_RefOk x0 x1) = some (O_impl_RefOk r)
  | 0, x0, x1, r, h => by cases h
  | n + 1, x0, x1, r, h => fun_step (kf := K_impl_RefOk) rfl (ct_impl_RefOk n) (noLoops rfl) (ft_impl_RefOk n x0 x1) h
def FH_impl_RefOk (n : Nat) : Cont → Option (Bool)
  | ([[[.i x0], [.i x1]]], []) => F_impl_RefOk n x0 x1
  | _ => none
def E_impl_RefOk (n : Nat) (d : List AV → List Go.Eng.Frame → Tr Res) : List AV → List Go.Eng.Frame → Tr Res := cent (A_impl_RefOk (0) (0)) (U_impl_RefOk (0) (0)) (FH_impl_RefOk n) O_impl_RefOk d
theorem eo_impl_RefOk (n : Nat) {d : List AV → List Go.Eng.Frame → Tr Res} (hd : ∀ ar up r, (d ar up).run = some r → runs KP lib n 21 ar up = some r) : ∀ ar up r, (E_impl_RefOk n d ar up).run = some r → runs KP lib n 21 ar up = some r :=
  cent_ok (fun hs r h => by
    unfold FH_impl_RefOk at h
    split at h
    · exact ⟨A_impl_RefOk _ _, U_impl_RefOk _ _, rfl, rfl, th_impl_RefOk n _ _ r h⟩
    · cases h) hd
/-! ### impl.ColText -/
def A_impl_ColText (x0 : Int) : List AV := [(.c (.p (.i .i64 x0)))]
def U_impl_ColText (x0 : Int) : List Go.Eng.Frame := []
def O_impl_ColText (r : ByteArray) : Res := ⟨(.c (.p (.s r))), [], []⟩
abbrev CT_impl_ColText (n : Nat) : CTab := mkCT [(39, E_impl_within n (noEnt))]
abbrev LT_impl_ColText (n : Nat) : LTab := mkLT []
def T_impl_ColText (n : Nat) (x0 : Int) : Tr (ByteArray) := (.opt (F_impl_within n x0 (1 : Int) (52 : Int)) fun r24 => (.ask ((!r24)) (.done (⟨#[]⟩ : ByteArray)) (.ask ((decide (x0 ≤ (26 : Int)))) (.ask (decide (1 = ([[(.i .u8 (IntKind.u8.wrap (IntKind.i64.wrap ((IntKind.i64.wrap ((65 : Int) + x0)) - (1 : Int)))))]] : List (List PV)).length)) (.opt (bytesOf ([[(.i .u8 (IntKind.u8.wrap (IntKind.i64.wrap ((IntKind.i64.wrap ((65 : Int) + x0)) - (1 : Int)))))]] : List (List PV))) fun l25 => (.done (⟨l25.toArray⟩ : ByteArray))) .fail) (.ask (decide (2 = ([[(.i .u8 (IntKind.u8.wrap (IntKind.i64.wrap ((IntKind.i64.wrap ((65 : Int) + (IntKind.i64.wrap (Int.tdiv (IntKind.i64.wrap (x0 - (1 : Int))) (26 : Int))))) - (1 : Int)))))], [(.i .u8 (IntKind.u8.wrap (IntKind.i64.wrap ((65 : Int) + (Int.tmod (IntKind.i64.wrap (x0 - (1 : Int))) (26 : Int))))))]] : List (List PV)).length)) (.opt (bytesOf ([[(.i .u8 (IntKind.u8.wrap (IntKind.i64.wrap ((IntKind.i64.wrap ((65 : Int) + (IntKind.i64.wrap (Int.tdiv (IntKind.i64.wrap (x0 - (1 : Int))) (26 : Int))))) - (1 : Int)))))], [(.i .u8 (IntKind.u8.wrap (IntKind.i64.wrap ((65 : Int) + (Int.tmod (IntKind.i64.wrap (x0 - (1 : Int))) (26 : Int))))))]] : List (List PV))) fun l26 => (.done (⟨l26.toArray⟩ : ByteArray))) .fail))))
def F_impl_ColText : Nat → Int → Option (ByteArray)
  | 0, _ => none
  | n + 1, x0 => (T_impl_ColText n x0).run
theorem ft_impl_ColText (n : Nat) (x0 : Int) : funT (CT_impl_ColText n) (LT_impl_ColText n) K_impl_ColText (A_impl_ColText x0) (U_impl_ColText x0) = (T_impl_ColText n x0).bind fun r => .done (O_impl_ColText r) := by kernel_rfl
theorem ct_impl_ColText (n : Nat) : CTok (CT_impl_ColText n) (runs KP lib n) := mkCT_cons (eo_impl_within n (noEnt_ok)) (mkCT_nil)
theorem th_impl_ColText : ∀ (n : Nat) (x0 : Int) (r : ByteArray), F_impl_ColText n x0 = some r → runs KP lib n 15 (A_impl_ColText x0) (U_impl_ColText x0) = some (O_impl_ColText r)
  | 0, x0, r, h => by cases h
  | n + 1, x0, r, h => fun_step (kf := K_impl_ColText) rfl (ct_impl_ColText n) (noLoops rfl) (ft_impl_ColText n x0) h
def FH_impl_ColText (n : Nat) : Cont → Option (ByteArray)
  | ([[[.i x0]]], []) => F_impl_ColText n x0
  | _ => none
def E_impl_ColText (n : Nat) (d : List AV → List Go.Eng.Frame → Tr Res) : List AV → List Go.Eng.Frame → Tr Res := cent (A_impl_ColText (0)) (U_impl_ColText (0)) (FH_impl_ColText n) O_impl_ColText d
theorem eo_impl_ColText (n : Nat) {d : List AV → List Go.Eng.Frame → Tr Res} (hd : ∀ ar up r, (d ar up).run = some r → runs KP lib n 15 ar up = some r) : ∀ ar up r, (E_impl_ColText n d ar up).run = some r → runs KP lib n 15 ar up = some r :=
  cent_ok (fun hs r h => by
    unfold FH_impl_ColText at h
    split at h
    · exact ⟨A_impl_ColText _, U_impl_ColText _, rfl, rfl, th_impl_ColText n _ r h⟩
    · cases h) hd
/-! ### strconv.FormatInt -/
def A_strconv_FormatInt (x0 : Int) (x1 : Int) : List AV := [(.c (.p (.i .i64 x0))), (.c (.p (.i .i64 x1)))]
def U_strconv_FormatInt (x0 : Int) (x1 : Int) : List Go.Eng.Frame := []
def O_strconv_FormatInt (r : (ByteArray)) : Res := ⟨(.c (.p (.s r))), [], []⟩
def F_strconv_FormatInt : Nat → Int → Int → Option ((ByteArray))
  | 0, _, _ => none
  | n + 1, x0, x1 => L_strconv_FormatInt x0 x1
theorem th_strconv_FormatInt : ∀ (n : Nat) (x0 : Int) (x1 : Int) (r : (ByteArray)), F_strconv_FormatInt n x0 x1 = some r → runs KP lib n 52 (A_strconv_FormatInt x0 x1) (U_strconv_FormatInt x0 x1) = some (O_strconv_FormatInt r)
  | 0, x0, x1, r, h => by cases h
  | n + 1, x0, x1, r, h => by
    have h : L_strconv_FormatInt x0 x1 = some r := h
    exact lib_step rfl (congrArg (Option.map fun r : (ByteArray) => ((.c (.p (.s r))) : AV)) h)
def FH_strconv_FormatInt (n : Nat) : Cont → Option ((ByteArray))
  | ([[[.i x0]], [[.i x1]]], []) => F_strconv_FormatInt n x0 x1
  | _ => none
def E_strconv_FormatInt (n : Nat) (d : List AV → List Go.Eng.Frame → Tr Res) : List AV → List Go.Eng.Frame → Tr Res := cent (A_strconv_FormatInt (0) (0)) (U_strconv_FormatInt (0) (0)) (FH_strconv_FormatInt n) O_strconv_FormatInt d
theorem eo_strconv_FormatInt (n : Nat) {d : List AV → List Go.Eng.Frame → Tr Res} (hd : ∀ ar up r, (d ar up).run = some r → runs KP lib n 52 ar up = some r) : ∀ ar up r, (E_strconv_FormatInt n d ar up).run = some r → runs KP lib n 52 ar up = some r :=
  cent_ok (fun hs r h => by
    unfold FH_strconv_FormatInt at h
    split at h
    · exact ⟨A_strconv_FormatInt _ _, U_strconv_FormatInt _ _, rfl, rfl, th_strconv_FormatInt n _ _ r h⟩
    · cases h) hd
/-! ### impl.decimal -/
def A_impl_decimal (x0 : Int) : List AV := [(.c (.p (.i .i64 x0)))]
def U_impl_decimal (x0 : Int) : List Go.Eng.Frame := []
def O_impl_decimal (r : ByteArray) : Res := ⟨(.c (.p (.s r))), [], []⟩
abbrev CT_impl_decimal (n : Nat) : CTab := mkCT [(52, E_strconv_FormatInt n (noEnt))]
abbrev LT_impl_decimal (n : Nat) : LTab := mkLT []
def T_impl_decimal (n : Nat) (x0 : Int) : Tr (ByteArray) := (.opt (F_strconv_FormatInt n x0 (10 : Int)) fun r28 => (.done r28))
def F_impl_decimal : Nat → Int → Option (ByteArray)
  | 0, _ => none
  | n + 1, x0 => (T_impl_decimal n x0).run
theorem ft_impl_decimal (n : Nat) (x0 : Int) : funT (CT_impl_decimal n) (LT_impl_decimal n) K_impl_decimal (A_impl_decimal x0) (U_impl_decimal x0) = (T_impl_decimal n x0).bind fun r => .done (O_impl_decimal r) := by kernel_rfl
theorem ct_impl_decimal (n : Nat) : CTok (CT_impl_decimal n) (runs KP lib n) := mkCT_cons (eo_strconv_FormatInt n (noEnt_ok)) (mkCT_nil)
theorem th_impl_decimal : ∀ (n : Nat) (x0 : Int) (r : ByteArray), F_impl_decimal n x0 = some r → runs KP lib n 31 (A_impl_decimal x0) (U_impl_decimal x0) = some (O_impl_decimal r)
  | 0, x0, r, h => by cases h
  | n + 1, x0, r, h => fun_step (kf := K_impl_decimal) rfl (ct_impl_decimal n) (noLoops rfl) (ft_impl_decimal n x0) h
def FH_impl_decimal (n : Nat) : Cont → Option (ByteArray)
  | ([[[.i x0]]], []) => F_impl_decimal n x0
  | _ => none
def E_impl_decimal (n : Nat) (d : List AV → List Go.Eng.Frame → Tr Res) : List AV → List Go.Eng.Frame → Tr Res := cent (A_impl_decimal (0)) (U_impl_decimal (0)) (FH_impl_decimal n) O_impl_decimal d
theorem eo_impl_decimal (n : Nat) {d : List AV → List Go.Eng.Frame → Tr Res} (hd : ∀ ar up r, (d ar up).run = some r → runs KP lib n 31 ar up = some r) : ∀ ar up r, (E_impl_decimal n d ar up).run = some r → runs KP lib n 31 ar up = some r :=
  cent_ok (fun hs r h => by
    unfold FH_impl_decimal at h
    split at h
    · exact ⟨A_impl_decimal _, U_impl_decimal _, rfl, rfl, th_impl_decimal n _ r h⟩
    · cases h) hd
/-! ### impl.PlaceText -/
def A_impl_PlaceText (x0 : Int) (x1 : Int) (x2 : Bool) (x3 : Bool) : List AV := [(.agg [(.p (.i .i64 x0)), (.p (.i .i64 x1)), (.p (.b x2)), (.p (.b x3))])]
def U_impl_PlaceText (x0 : Int) (x1 : Int) (x2 : Bool) (x3 : Bool) : List Go.Eng.Frame := []
def O_impl_PlaceText (r : ByteArray) : Res := ⟨(.c (.p (.s r))), [], []⟩
abbrev CT_impl_PlaceText (n : Nat) : CTab := mkCT [(21, E_impl_RefOk n (noEnt)), (15, E_impl_ColText n (noEnt)), (31, E_impl_decimal n (noEnt))]
abbrev LT_impl_PlaceText (n : Nat) : LTab := mkLT []
def T_impl_PlaceText (n : Nat) (x0 : Int) (x1 : Int) (x2 : Bool) (x3 : Bool) : Tr (ByteArray) := (.opt (F_impl_RefOk n x0 x1) fun r23 => (.ask ((!r23)) (.done (⟨#[]⟩ : ByteArray)) (.ask (x2) (.opt (F_impl_ColText n x0) fun r27 => (.ask (decide ((⟨#[36]⟩ : ByteArray).size + r27.size ≤ 9223372036854775807)) (.ask (x3) (.ask (decide (((⟨#[36]⟩ : ByteArray) ++ r27).size + (⟨#[36]⟩ : ByteArray).size ≤ 9223372036854775807)) (.opt (F_impl_decimal n x1) fun r29 => (.ask (decide ((((⟨#[36]⟩ : ByteArray) ++ r27) ++ (⟨#[36]⟩ : ByteArray)).size + r29.size ≤ 9223372036854775807)) (.done ((((⟨#[36]⟩ : ByteArray) ++ r27) ++ (⟨#[36]⟩ : ByteArray)) ++ r29)) .fail)) .fail) (.opt (F_impl_decimal n x1) fun r30 => (.ask (decide (((⟨#[36]⟩ : ByteArray) ++ r27).size + r30.size ≤ 9223372036854775807)) (.done (((⟨#[36]⟩ : ByteArray) ++ r27) ++ r30)) .fail))) .fail)) (.opt (F_impl_ColText n x0) fun r31 => (.ask (decide ((⟨#[]⟩ : ByteArray).size + r31.size ≤ 9223372036854775807)) (.ask (x3) (.ask (decide (((⟨#[]⟩ : ByteArray) ++ r31).size + (⟨#[36]⟩ : ByteArray).size ≤ 9223372036854775807)) (.opt (F_impl_decimal n x1) fun r32 => (.ask (decide ((((⟨#[]⟩ : ByteArray) ++ r31) ++ (⟨#[36]⟩ : ByteArray)).size + r32.size ≤ 9223372036854775807)) (.done ((((⟨#[]⟩ : ByteArray) ++ r31) ++ (⟨#[36]⟩ : ByteArray)) ++ r32)) .fail)) .fail) (.opt (F_impl_decimal n x1) fun r33 => (.ask (decide (((⟨#[]⟩ : ByteArray) ++ r31).size + r33.size ≤ 9223372036854775807)) (.done (((⟨#[]⟩ : ByteArray) ++ r31) ++ r33)) .fail))) .fail)))))
def F_impl_PlaceText : Nat → Int → Int → Bool → Bool → Option (ByteArray)
  | 0, _, _, _, _ => none
  | n + 1, x0, x1, x2, x3 => (T_impl_PlaceText n x0 x1 x2 x3).run
theorem ft_impl_PlaceText (n : Nat) (x0 : Int) (x1 : Int) (x2 : Bool) (x3 : Bool) : funT (CT_impl_PlaceText n) (LT_impl_PlaceText n) K_impl_PlaceText (A_impl_PlaceText x0 x1 x2 x3) (U_impl_PlaceText x0 x1 x2 x3) = (T_impl_PlaceText n x0 x1 x2 x3).bind fun r => .done (O_impl_PlaceText r) := by kernel_rfl
theorem ct_impl_PlaceText (n : Nat) : CTok (CT_impl_PlaceText n) (runs KP lib n) := mkCT_cons (eo_impl_RefOk n (noEnt_ok)) (mkCT_cons (eo_impl_ColText n (noEnt_ok)) (mkCT_cons (eo_impl_decimal n (noEnt_ok)) (mkCT_nil)))
theorem th_impl_PlaceText : ∀ (n : Nat) (x0 : Int) (x1 : Int) (x2 : Bool) (x3 : Bool) (r : ByteArray), F_impl_PlaceText n x0 x1 x2 x3 = some r → runs KP lib n 9 (A_impl_PlaceText x0 x1 x2 x3) (U_impl_PlaceText x0 x1 x2 x3) = some (O_impl_PlaceText r)
  | 0, x0, x1, x2, x3, r, h => by cases h
  | n + 1, x0, x1, x2, x3, r, h => fun_step (kf := K_impl_PlaceText) rfl (ct_impl_PlaceText n) (noLoops rfl) (ft_impl_PlaceText n x0 x1 x2 x3) h
def FH_impl_PlaceText (n : Nat) : Cont → Option (ByteArray)
  | ([[[.i x0], [.i x1], [.b x2], [.b x3]]], []) => F_impl_PlaceText n x0 x1 x2 x3
  | _ => none
def E_impl_PlaceText (n : Nat) (d : List AV → List Go.Eng.Frame → Tr Res) : List AV → List Go.Eng.Frame → Tr Res := cent (A_impl_PlaceText (0) (0) (false) (false)) (U_impl_PlaceText (0) (0) (false) (false)) (FH_impl_PlaceText n) O_impl_PlaceText d
theorem eo_impl_PlaceText (n : Nat) {d : List AV → List Go.Eng.Frame → Tr Res} (hd : ∀ ar up r, (d ar up).run = some r → runs KP lib n 9 ar up = some r) : ∀ ar up r, (E_impl_PlaceText n d ar up).run = some r → runs KP lib n 9 ar up = some r :=
  cent_ok (fun hs r h => by
    unfold FH_impl_PlaceText at h
    split at h
    · exact ⟨A_impl_PlaceText _ _ _ _, U_impl_PlaceText _ _ _ _, rfl, rfl, th_impl_PlaceText n _ _ _ _ r h⟩
    · cases h) hd
/-! ### laws.FnExactPlaceText -/
def A_laws_FnExactPlaceText (x0 : Int) (x1 : Int) (x2 : Bool) (x3 : Bool) : List AV := [(.agg [(.p (.i .i64 x0)), (.p (.i .i64 x1)), (.p (.b x2)), (.p (.b x3))])]
def U_laws_FnExactPlaceText (x0 : Int) (x1 : Int) (x2 : Bool) (x3 : Bool) : List Go.Eng.Frame := []
def O_laws_FnExactPlaceText (r : Bool) : Res := ⟨(.c (.p (.b r))), [], []⟩
abbrev CT_laws_FnExactPlaceText (n : Nat) : CTab := mkCT [(8, E_laws_toPlace n (noEnt)), (7, E_spec_PlaceText n (noEnt)), (9, E_impl_PlaceText n (noEnt))]
abbrev LT_laws_FnExactPlaceText (n : Nat) : LTab := mkLT []
def T_laws_FnExactPlaceText (n : Nat) (x0 : Int) (x1 : Int) (x2 : Bool) (x3 : Bool) : Tr (Bool) := (.opt (F_laws_toPlace n x0 x1 x2 x3) fun r2 => (.opt (F_spec_PlaceText n r2.1 r2.2.1 r2.2.2.1 r2.2.2.2) fun r19 => (.opt (F_laws_toPlace n x0 x1 x2 x3) fun r20 => (.opt (F_impl_PlaceText n r20.1 r20.2.1 r20.2.2.1 r20.2.2.2) fun r34 => (.ask ((!(r34.toList == r19.toList))) (.done false) (.done true))))))
def F_laws_FnExactPlaceText : Nat → Int → Int → Bool → Bool → Option (Bool)
  | 0, _, _, _, _ => none
  | n + 1, x0, x1, x2, x3 => (T_laws_FnExactPlaceText n x0 x1 x2 x3).run
theorem ft_laws_FnExactPlaceText (n : Nat) (x0 : Int) (x1 : Int) (x2 : Bool) (x3 : Bool) : funT (CT_laws_FnExactPlaceText n) (LT_laws_FnExactPlaceText n) K_laws_FnExactPlaceText (A_laws_FnExactPlaceText x0 x1 x2 x3) (U_laws_FnExactPlaceText x0 x1 x2 x3) = (T_laws_FnExactPlaceText n x0 x1 x2 x3).bind fun r => .done (O_laws_FnExactPlaceText r) := by kernel_rfl
theorem ct_laws_FnExactPlaceText (n : Nat) : CTok (CT_laws_FnExactPlaceText n) (runs KP lib n) := mkCT_cons (eo_laws_toPlace n (noEnt_ok)) (mkCT_cons (eo_spec_PlaceText n (noEnt_ok)) (mkCT_cons (eo_impl_PlaceText n (noEnt_ok)) (mkCT_nil)))
theorem th_laws_FnExactPlaceText : ∀ (n : Nat) (x0 : Int) (x1 : Int) (x2 : Bool) (x3 : Bool) (r : Bool), F_laws_FnExactPlaceText n x0 x1 x2 x3 = some r → runs KP lib n 3 (A_laws_FnExactPlaceText x0 x1 x2 x3) (U_laws_FnExactPlaceText x0 x1 x2 x3) = some (O_laws_FnExactPlaceText r)
  | 0, x0, x1, x2, x3, r, h => by cases h
  | n + 1, x0, x1, x2, x3, r, h => fun_step (kf := K_laws_FnExactPlaceText) rfl (ct_laws_FnExactPlaceText n) (noLoops rfl) (ft_laws_FnExactPlaceText n x0 x1 x2 x3) h
def FH_laws_FnExactPlaceText (n : Nat) : Cont → Option (Bool)
  | ([[[.i x0], [.i x1], [.b x2], [.b x3]]], []) => F_laws_FnExactPlaceText n x0 x1 x2 x3
  | _ => none
def E_laws_FnExactPlaceText (n : Nat) (d : List AV → List Go.Eng.Frame → Tr Res) : List AV → List Go.Eng.Frame → Tr Res := cent (A_laws_FnExactPlaceText (0) (0) (false) (false)) (U_laws_FnExactPlaceText (0) (0) (false) (false)) (FH_laws_FnExactPlaceText n) O_laws_FnExactPlaceText d
theorem eo_laws_FnExactPlaceText (n : Nat) {d : List AV → List Go.Eng.Frame → Tr Res} (hd : ∀ ar up r, (d ar up).run = some r → runs KP lib n 3 ar up = some r) : ∀ ar up r, (E_laws_FnExactPlaceText n d ar up).run = some r → runs KP lib n 3 ar up = some r :=
  cent_ok (fun hs r h => by
    unfold FH_laws_FnExactPlaceText at h
    split at h
    · exact ⟨A_laws_FnExactPlaceText _ _ _ _, U_laws_FnExactPlaceText _ _ _ _, rfl, rfl, th_laws_FnExactPlaceText n _ _ _ _ r h⟩
    · cases h) hd
end Go.Proofs.YtaannlnlddbgdabDoor.KFnExactPlaceText
