/-
  The trees of what FnExactNegated calls: plain functions, and that the engine reckons just these. No condition.
-/
import Derived.Test.YtoodcplobkflfaaKFnExactNegated
import Derived.Test.YtoodcplobkflfaaE31
import Derived.KernelRfl
namespace Go.Proofs.Ytoodcplobkflfaa.KFnExactNegated
open Go.Eng
set_option linter.unusedVariables false
set_option maxRecDepth 100000
def lib : FuncId → List AV → Option AV := fun _ _ => none
/-! ### laws.szValue -/
def A_laws_szValue (x0 : Int) (x1 : Int) (x2 : ByteArray) (x3 : Int) : List AV := [(.agg [(.p (.i .i64 x0)), (.p (.i .i64 x1)), (.p (.s x2))]), (.c (.p (.i .i64 x3)))]
def O_laws_szValue (r : Int) : AV := (.c (.p (.i .i64 r)))
abbrev CT_laws_szValue (n : Nat) : CTab := mkCT []
abbrev LT_laws_szValue (n : Nat) : LTab := mkLT []
def T_laws_szValue (n : Nat) (x0 : Int) (x1 : Int) (x2 : ByteArray) (x3 : Int) : Tr (Int) := (.ask ((decide ((IntKind.i64.wrap (x3 - (x2.size : Int))) < (0 : Int)))) (.done (-1 : Int)) (.done (IntKind.i64.wrap (x3 - (x2.size : Int)))))
def F_laws_szValue : Nat → Int → Int → ByteArray → Int → Option (Int)
  | 0, _, _, _, _ => none
  | n + 1, x0, x1, x2, x3 => (T_laws_szValue n x0 x1 x2 x3).run
theorem ft_laws_szValue (n : Nat) (x0 : Int) (x1 : Int) (x2 : ByteArray) (x3 : Int) : funT (CT_laws_szValue n) (LT_laws_szValue n) K_laws_szValue (A_laws_szValue x0 x1 x2 x3) = (T_laws_szValue n x0 x1 x2 x3).bind fun r => .done (O_laws_szValue r) := by kernel_rfl
theorem ct_laws_szValue (n : Nat) : CTok (CT_laws_szValue n) (runs KP lib n) := mkCT_nil
theorem th_laws_szValue : ∀ (n : Nat) (x0 : Int) (x1 : Int) (x2 : ByteArray) (x3 : Int) (r : Int), F_laws_szValue n x0 x1 x2 x3 = some r → runs KP lib n 28 (A_laws_szValue x0 x1 x2 x3) [] = some ⟨O_laws_szValue r, [], []⟩
  | 0, x0, x1, x2, x3, r, h => by cases h
  | n + 1, x0, x1, x2, x3, r, h => fun_step (kf := K_laws_szValue) rfl (ct_laws_szValue n) (noLoops rfl) (ft_laws_szValue n x0 x1 x2 x3) h
def FH_laws_szValue (n : Nat) : List (List (List Hv)) → Option (Int)
  | [[[.i x0], [.i x1], [.s x2]], [[.i x3]]] => F_laws_szValue n x0 x1 x2 x3
  | _ => none
def E_laws_szValue (n : Nat) (d : List AV → Tr AV) : List AV → Tr AV := cent (A_laws_szValue (0) (0) (⟨#[]⟩) (0)) (FH_laws_szValue n) O_laws_szValue d
theorem eo_laws_szValue (n : Nat) {d : List AV → Tr AV} (hd : ∀ ar r, (d ar).run = some r → runs KP lib n 28 ar [] = some ⟨r, [], []⟩) : ∀ ar r, (E_laws_szValue n d ar).run = some r → runs KP lib n 28 ar [] = some ⟨r, [], []⟩ :=
  cent_ok (fun hs r h => by
    unfold FH_laws_szValue at h
    split at h
    · exact ⟨A_laws_szValue _ _ _ _, rfl, th_laws_szValue n _ _ _ _ r h⟩
    · cases h) hd
/-! ### laws.toValue -/
def A_laws_toValue (x0 : Int) (x1 : Int) (x2 : ByteArray) : List AV := [(.agg [(.p (.i .i64 x0)), (.p (.i .i64 x1)), (.p (.s x2))])]
def O_laws_toValue (r : Int × Int × ByteArray) : AV := (.agg [(.p (.i .i64 r.1)), (.p (.i .i64 r.2.1)), (.p (.s r.2.2))])
abbrev CT_laws_toValue (n : Nat) : CTab := mkCT []
abbrev LT_laws_toValue (n : Nat) : LTab := mkLT []
def T_laws_toValue (n : Nat) (x0 : Int) (x1 : Int) (x2 : ByteArray) : Tr (Int × Int × ByteArray) := (.done (x0, x1, x2))
def F_laws_toValue : Nat → Int → Int → ByteArray → Option (Int × Int × ByteArray)
  | 0, _, _, _ => none
  | n + 1, x0, x1, x2 => (T_laws_toValue n x0 x1 x2).run
theorem ft_laws_toValue (n : Nat) (x0 : Int) (x1 : Int) (x2 : ByteArray) : funT (CT_laws_toValue n) (LT_laws_toValue n) K_laws_toValue (A_laws_toValue x0 x1 x2) = (T_laws_toValue n x0 x1 x2).bind fun r => .done (O_laws_toValue r) := by kernel_rfl
theorem ct_laws_toValue (n : Nat) : CTok (CT_laws_toValue n) (runs KP lib n) := mkCT_nil
theorem th_laws_toValue : ∀ (n : Nat) (x0 : Int) (x1 : Int) (x2 : ByteArray) (r : Int × Int × ByteArray), F_laws_toValue n x0 x1 x2 = some r → runs KP lib n 30 (A_laws_toValue x0 x1 x2) [] = some ⟨O_laws_toValue r, [], []⟩
  | 0, x0, x1, x2, r, h => by cases h
  | n + 1, x0, x1, x2, r, h => fun_step (kf := K_laws_toValue) rfl (ct_laws_toValue n) (noLoops rfl) (ft_laws_toValue n x0 x1 x2) h
def FH_laws_toValue (n : Nat) : List (List (List Hv)) → Option (Int × Int × ByteArray)
  | [[[.i x0], [.i x1], [.s x2]]] => F_laws_toValue n x0 x1 x2
  | _ => none
def E_laws_toValue (n : Nat) (d : List AV → Tr AV) : List AV → Tr AV := cent (A_laws_toValue (0) (0) (⟨#[]⟩)) (FH_laws_toValue n) O_laws_toValue d
theorem eo_laws_toValue (n : Nat) {d : List AV → Tr AV} (hd : ∀ ar r, (d ar).run = some r → runs KP lib n 30 ar [] = some ⟨r, [], []⟩) : ∀ ar r, (E_laws_toValue n d ar).run = some r → runs KP lib n 30 ar [] = some ⟨r, [], []⟩ :=
  cent_ok (fun hs r h => by
    unfold FH_laws_toValue at h
    split at h
    · exact ⟨A_laws_toValue _ _ _, rfl, th_laws_toValue n _ _ _ r h⟩
    · cases h) hd
/-! ### spec.l1In -/
def A_spec_l1In (x0 : Int) (x1 : Int) (x2 : Int) : List AV := [(.c (.p (.i .i64 x0))), (.c (.p (.i .i64 x1))), (.c (.p (.i .i64 x2)))]
def O_spec_l1In (r : Bool) : AV := (.c (.p (.b r)))
abbrev CT_spec_l1In (n : Nat) : CTab := mkCT []
abbrev LT_spec_l1In (n : Nat) : LTab := mkLT []
def T_spec_l1In (n : Nat) (x0 : Int) (x1 : Int) (x2 : Int) : Tr (Bool) := (.ask ((decide (x0 ≥ x1))) (.done (decide (x0 ≤ x2))) (.done false))
def F_spec_l1In : Nat → Int → Int → Int → Option (Bool)
  | 0, _, _, _ => none
  | n + 1, x0, x1, x2 => (T_spec_l1In n x0 x1 x2).run
theorem ft_spec_l1In (n : Nat) (x0 : Int) (x1 : Int) (x2 : Int) : funT (CT_spec_l1In n) (LT_spec_l1In n) K_spec_l1In (A_spec_l1In x0 x1 x2) = (T_spec_l1In n x0 x1 x2).bind fun r => .done (O_spec_l1In r) := by kernel_rfl
theorem ct_spec_l1In (n : Nat) : CTok (CT_spec_l1In n) (runs KP lib n) := mkCT_nil
theorem th_spec_l1In : ∀ (n : Nat) (x0 : Int) (x1 : Int) (x2 : Int) (r : Bool), F_spec_l1In n x0 x1 x2 = some r → runs KP lib n 51 (A_spec_l1In x0 x1 x2) [] = some ⟨O_spec_l1In r, [], []⟩
  | 0, x0, x1, x2, r, h => by cases h
  | n + 1, x0, x1, x2, r, h => fun_step (kf := K_spec_l1In) rfl (ct_spec_l1In n) (noLoops rfl) (ft_spec_l1In n x0 x1 x2) h
def FH_spec_l1In (n : Nat) : List (List (List Hv)) → Option (Bool)
  | [[[.i x0]], [[.i x1]], [[.i x2]]] => F_spec_l1In n x0 x1 x2
  | _ => none
def E_spec_l1In (n : Nat) (d : List AV → Tr AV) : List AV → Tr AV := cent (A_spec_l1In (0) (0) (0)) (FH_spec_l1In n) O_spec_l1In d
theorem eo_spec_l1In (n : Nat) {d : List AV → Tr AV} (hd : ∀ ar r, (d ar).run = some r → runs KP lib n 51 ar [] = some ⟨r, [], []⟩) : ∀ ar r, (E_spec_l1In n d ar).run = some r → runs KP lib n 51 ar [] = some ⟨r, [], []⟩ :=
  cent_ok (fun hs r h => by
    unfold FH_spec_l1In at h
    split at h
    · exact ⟨A_spec_l1In _ _ _, rfl, th_spec_l1In n _ _ _ r h⟩
    · cases h) hd
/-! ### spec.l2Plain -/
def A_spec_l2Plain (x0 : ByteArray) : List AV := [(.c (.p (.s x0)))]
def O_spec_l2Plain (r : Bool) : AV := (.c (.p (.b r)))
abbrev CT_spec_l2Plain (n : Nat) : CTab := mkCT []
def S_spec_l2Plain_13 (v : ByteArray × Int) : St := ⟨[(0, (.c (.p (.s v.1)))), (3, (.c (.p (.i .i64 v.2))))], [], []⟩
def B_spec_l2Plain_13 (n : Nat) (v : ByteArray × Int) : Tr ((ByteArray × Int) ⊕ ((Bool) ⊕ (ByteArray))) := (.ask ((decide (v.2 < (v.1.size : Int)))) (.ask (decide (0 ≤ v.2)) (.opt (v.1.toList[(v.2).toNat]?) fun c4 => (.ask ((decide ((c4.toNat : Int) < (32 : Int)))) (.done (.inr (.inl (false)))) (.ask (decide (0 ≤ v.2)) (.opt (v.1.toList[(v.2).toNat]?) fun c5 => (.ask ((decide ((c5.toNat : Int) > (126 : Int)))) (.done (.inr (.inl (false)))) (.done (.inl (v.1, (IntKind.i64.wrap (v.2 + (1 : Int)))))))) .fail))) .fail) (.done (.inr (.inr (v.1)))))
def D_spec_l2Plain_13 : ((Bool) ⊕ (ByteArray)) → Ex × St := fun | .inl r => (.ret, ⟨[(2, (.c (.p (.b r))))], [], []⟩) | .inr r => (fun r => ((.exit 0), ⟨[(0, (.c (.p (.s r))))], [], []⟩)) r
def DT_spec_l2Plain_13 : ((Bool) ⊕ (ByteArray)) → Tr (Ex × St) := fun r => .alt r (fun r => .done (.ret, ⟨[(2, (.c (.p (.b r))))], [], []⟩)) (fun r => .done ((.exit 0), ⟨[(0, (.c (.p (.s r))))], [], []⟩))
def VH_spec_l2Plain_13 : List (List (List Hv)) × List (List (List Hv)) → Option (ByteArray × Int)
  | ([[[.s w0]], [[.i w1]]], []) => some (w0, w1)
  | _ => none
abbrev LE_spec_l2Plain_13 (n : Nat) : St → Tr (Ex × St) := lent (S_spec_l2Plain_13 (⟨#[]⟩, 0)) VH_spec_l2Plain_13 (B_spec_l2Plain_13 n) DT_spec_l2Plain_13 n
abbrev LT_spec_l2Plain (n : Nat) : LTab := mkLT [(13, LE_spec_l2Plain_13 n)]
def T_spec_l2Plain (n : Nat) (x0 : ByteArray) : Tr (Bool) := (.opt (loopF (B_spec_l2Plain_13 n) n (x0, (0 : Int))) fun r6 => (.alt r6 (fun r7 => (.done r7)) (fun r8 => (.done (decide ((r8.size : Int) ≤ (200 : Int)))))))
def F_spec_l2Plain : Nat → ByteArray → Option (Bool)
  | 0, _ => none
  | n + 1, x0 => (T_spec_l2Plain n x0).run
theorem ft_spec_l2Plain (n : Nat) (x0 : ByteArray) : funT (CT_spec_l2Plain n) (LT_spec_l2Plain n) K_spec_l2Plain (A_spec_l2Plain x0) = (T_spec_l2Plain n x0).bind fun r => .done (O_spec_l2Plain r) := by kernel_rfl
theorem ct_spec_l2Plain (n : Nat) : CTok (CT_spec_l2Plain n) (runs KP lib n) := mkCT_nil
theorem lt_spec_l2Plain_13 (n : Nat) (v : ByteArray × Int) : (evalCT (CT_spec_l2Plain n) (mkLT []) K_spec_l2Plain_L13 (S_spec_l2Plain_13 v) []).bind (ltail [0, 3] [(.ret, [2]), ((.exit 0), [0])]) = (B_spec_l2Plain_13 n v).bind (lenc S_spec_l2Plain_13 D_spec_l2Plain_13) := by
  obtain ⟨w0, w1⟩ := v
  kernel_rfl
theorem le_spec_l2Plain_13 (n : Nat) : LEok (runs KP lib n) n (13, [0, 3], [(.ret, [2]), ((.exit 0), [0])], K_spec_l2Plain_L13) (LE_spec_l2Plain_13 n) := fun st e s h =>
  lent_ok (ct_spec_l2Plain n) (noLoops rfl) (lt_spec_l2Plain_13 n) (fun r => by
    rcases r with r | r <;> (intro h; cases h)) (fun r y h => by
    rcases r with r | r <;> (cases h; rfl)) (fun hs v h => by
    unfold VH_spec_l2Plain_13 at h
    split at h <;> cases h
    rfl) h
theorem lo_spec_l2Plain (n : Nat) : LTok (LT_spec_l2Plain n) (runs KP lib n) n K_spec_l2Plain.body := mkLT_ok (by
  intro x hx
  have hx : x ∈ ([(13, [0, 3], [(.ret, [2]), ((.exit 0), [0])], K_spec_l2Plain_L13)] : List (Nat × List Nat × List (Ex × List Nat) × KCode)) := hx
  simp only [List.mem_cons, List.not_mem_nil, or_false] at hx
  rcases hx with rfl
  · exact ⟨LE_spec_l2Plain_13 n, fun st => rfl, le_spec_l2Plain_13 n⟩)
theorem th_spec_l2Plain : ∀ (n : Nat) (x0 : ByteArray) (r : Bool), F_spec_l2Plain n x0 = some r → runs KP lib n 54 (A_spec_l2Plain x0) [] = some ⟨O_spec_l2Plain r, [], []⟩
  | 0, x0, r, h => by cases h
  | n + 1, x0, r, h => fun_step (kf := K_spec_l2Plain) rfl (ct_spec_l2Plain n) (lo_spec_l2Plain n) (ft_spec_l2Plain n x0) h
def FH_spec_l2Plain (n : Nat) : List (List (List Hv)) → Option (Bool)
  | [[[.s x0]]] => F_spec_l2Plain n x0
  | _ => none
def E_spec_l2Plain (n : Nat) (d : List AV → Tr AV) : List AV → Tr AV := cent (A_spec_l2Plain (⟨#[]⟩)) (FH_spec_l2Plain n) O_spec_l2Plain d
theorem eo_spec_l2Plain (n : Nat) {d : List AV → Tr AV} (hd : ∀ ar r, (d ar).run = some r → runs KP lib n 54 ar [] = some ⟨r, [], []⟩) : ∀ ar r, (E_spec_l2Plain n d ar).run = some r → runs KP lib n 54 ar [] = some ⟨r, [], []⟩ :=
  cent_ok (fun hs r h => by
    unfold FH_spec_l2Plain at h
    split at h
    · exact ⟨A_spec_l2Plain _, rfl, th_spec_l2Plain n _ r h⟩
    · cases h) hd
/-! ### spec.ValueOk -/
def A_spec_ValueOk (x0 : Int) (x1 : Int) (x2 : ByteArray) : List AV := [(.agg [(.p (.i .i64 x0)), (.p (.i .i64 x1)), (.p (.s x2))])]
def O_spec_ValueOk (r : Bool) : AV := (.c (.p (.b r)))
abbrev CT_spec_ValueOk (n : Nat) : CTab := mkCT [(51, E_spec_l1In n (noEnt)), (54, E_spec_l2Plain n (noEnt))]
abbrev LT_spec_ValueOk (n : Nat) : LTab := mkLT []
def T_spec_ValueOk (n : Nat) (x0 : Int) (x1 : Int) (x2 : ByteArray) : Tr (Bool) := (.ask ((x0 == (0 : Int))) (.ask ((x1 == (0 : Int))) (.done (x2.toList == (⟨#[]⟩ : ByteArray).toList)) (.done false)) (.ask ((x0 == (1 : Int))) (.opt (F_spec_l1In n x1 (-1000000000000000 : Int) (1000000000000000 : Int)) fun r3 => (.ask (r3) (.done (x2.toList == (⟨#[]⟩ : ByteArray).toList)) (.done false))) (.ask ((x0 == (2 : Int))) (.ask ((x1 == (0 : Int))) (.opt (F_spec_l2Plain n x2) fun r9 => (.done r9)) (.done false)) (.ask ((x0 == (3 : Int))) (.opt (F_spec_l1In n x1 (0 : Int) (1 : Int)) fun r10 => (.ask (r10) (.done (x2.toList == (⟨#[]⟩ : ByteArray).toList)) (.done false))) (.ask ((x0 == (4 : Int))) (.opt (F_spec_l1In n x1 (1 : Int) (5 : Int)) fun r11 => (.ask (r11) (.done (x2.toList == (⟨#[]⟩ : ByteArray).toList)) (.done false))) (.done false))))))
def F_spec_ValueOk : Nat → Int → Int → ByteArray → Option (Bool)
  | 0, _, _, _ => none
  | n + 1, x0, x1, x2 => (T_spec_ValueOk n x0 x1 x2).run
theorem ft_spec_ValueOk (n : Nat) (x0 : Int) (x1 : Int) (x2 : ByteArray) : funT (CT_spec_ValueOk n) (LT_spec_ValueOk n) K_spec_ValueOk (A_spec_ValueOk x0 x1 x2) = (T_spec_ValueOk n x0 x1 x2).bind fun r => .done (O_spec_ValueOk r) := by kernel_rfl
theorem ct_spec_ValueOk (n : Nat) : CTok (CT_spec_ValueOk n) (runs KP lib n) := mkCT_cons (eo_spec_l1In n (noEnt_ok)) (mkCT_cons (eo_spec_l2Plain n (noEnt_ok)) (mkCT_nil))
theorem th_spec_ValueOk : ∀ (n : Nat) (x0 : Int) (x1 : Int) (x2 : ByteArray) (r : Bool), F_spec_ValueOk n x0 x1 x2 = some r → runs KP lib n 29 (A_spec_ValueOk x0 x1 x2) [] = some ⟨O_spec_ValueOk r, [], []⟩
  | 0, x0, x1, x2, r, h => by cases h
  | n + 1, x0, x1, x2, r, h => fun_step (kf := K_spec_ValueOk) rfl (ct_spec_ValueOk n) (noLoops rfl) (ft_spec_ValueOk n x0 x1 x2) h
def FH_spec_ValueOk (n : Nat) : List (List (List Hv)) → Option (Bool)
  | [[[.i x0], [.i x1], [.s x2]]] => F_spec_ValueOk n x0 x1 x2
  | _ => none
def E_spec_ValueOk (n : Nat) (d : List AV → Tr AV) : List AV → Tr AV := cent (A_spec_ValueOk (0) (0) (⟨#[]⟩)) (FH_spec_ValueOk n) O_spec_ValueOk d
theorem eo_spec_ValueOk (n : Nat) {d : List AV → Tr AV} (hd : ∀ ar r, (d ar).run = some r → runs KP lib n 29 ar [] = some ⟨r, [], []⟩) : ∀ ar r, (E_spec_ValueOk n d ar).run = some r → runs KP lib n 29 ar [] = some ⟨r, [], []⟩ :=
  cent_ok (fun hs r h => by
    unfold FH_spec_ValueOk at h
    split at h
    · exact ⟨A_spec_ValueOk _ _ _, rfl, th_spec_ValueOk n _ _ _ r h⟩
    · cases h) hd
/-! ### spec.l2Error -/
def A_spec_l2Error (x0 : Int) : List AV := [(.c (.p (.i .i64 x0)))]
def O_spec_l2Error (r : Int × Int × ByteArray) : AV := (.agg [(.p (.i .i64 r.1)), (.p (.i .i64 r.2.1)), (.p (.s r.2.2))])
abbrev CT_spec_l2Error (n : Nat) : CTab := mkCT []
abbrev LT_spec_l2Error (n : Nat) : LTab := mkLT []
def T_spec_l2Error (n : Nat) (x0 : Int) : Tr (Int × Int × ByteArray) := (.done ((4 : Int), x0, (⟨#[]⟩ : ByteArray)))
def F_spec_l2Error : Nat → Int → Option (Int × Int × ByteArray)
  | 0, _ => none
  | n + 1, x0 => (T_spec_l2Error n x0).run
theorem ft_spec_l2Error (n : Nat) (x0 : Int) : funT (CT_spec_l2Error n) (LT_spec_l2Error n) K_spec_l2Error (A_spec_l2Error x0) = (T_spec_l2Error n x0).bind fun r => .done (O_spec_l2Error r) := by kernel_rfl
theorem ct_spec_l2Error (n : Nat) : CTok (CT_spec_l2Error n) (runs KP lib n) := mkCT_nil
theorem th_spec_l2Error : ∀ (n : Nat) (x0 : Int) (r : Int × Int × ByteArray), F_spec_l2Error n x0 = some r → runs KP lib n 73 (A_spec_l2Error x0) [] = some ⟨O_spec_l2Error r, [], []⟩
  | 0, x0, r, h => by cases h
  | n + 1, x0, r, h => fun_step (kf := K_spec_l2Error) rfl (ct_spec_l2Error n) (noLoops rfl) (ft_spec_l2Error n x0) h
def FH_spec_l2Error (n : Nat) : List (List (List Hv)) → Option (Int × Int × ByteArray)
  | [[[.i x0]]] => F_spec_l2Error n x0
  | _ => none
def E_spec_l2Error (n : Nat) (d : List AV → Tr AV) : List AV → Tr AV := cent (A_spec_l2Error (0)) (FH_spec_l2Error n) O_spec_l2Error d
theorem eo_spec_l2Error (n : Nat) {d : List AV → Tr AV} (hd : ∀ ar r, (d ar).run = some r → runs KP lib n 73 ar [] = some ⟨r, [], []⟩) : ∀ ar r, (E_spec_l2Error n d ar).run = some r → runs KP lib n 73 ar [] = some ⟨r, [], []⟩ :=
  cent_ok (fun hs r h => by
    unfold FH_spec_l2Error at h
    split at h
    · exact ⟨A_spec_l2Error _, rfl, th_spec_l2Error n _ r h⟩
    · cases h) hd
/-! ### spec.l2Num -/
def A_spec_l2Num (x0 : Int) (x1 : Int) (x2 : ByteArray) : List AV := [(.agg [(.p (.i .i64 x0)), (.p (.i .i64 x1)), (.p (.s x2))])]
def O_spec_l2Num (r : Int × Int × Int × ByteArray) : AV := (.tup [(false, [(.p (.i .i64 r.1))]), (true, [(.p (.i .i64 r.2.1)), (.p (.i .i64 r.2.2.1)), (.p (.s r.2.2.2))])])
abbrev CT_spec_l2Num (n : Nat) : CTab := mkCT [(29, E_spec_ValueOk n (noEnt)), (73, E_spec_l2Error n (noEnt))]
abbrev LT_spec_l2Num (n : Nat) : LTab := mkLT []
def T_spec_l2Num (n : Nat) (x0 : Int) (x1 : Int) (x2 : ByteArray) : Tr (Int × Int × Int × ByteArray) := (.opt (F_spec_ValueOk n x0 x1 x2) fun r12 => (.ask ((!r12)) (.opt (F_spec_l2Error n (2 : Int)) fun r13 => (.done ((0 : Int), r13.1, r13.2.1, r13.2.2))) (.ask ((x0 == (0 : Int))) (.done (x1, (0 : Int), (0 : Int), (⟨#[]⟩ : ByteArray))) (.ask ((x0 == (1 : Int))) (.done (x1, (0 : Int), (0 : Int), (⟨#[]⟩ : ByteArray))) (.ask ((x0 == (4 : Int))) (.done ((0 : Int), x0, x1, x2)) (.opt (F_spec_l2Error n (2 : Int)) fun r14 => (.done ((0 : Int), r14.1, r14.2.1, r14.2.2))))))))
def F_spec_l2Num : Nat → Int → Int → ByteArray → Option (Int × Int × Int × ByteArray)
  | 0, _, _, _ => none
  | n + 1, x0, x1, x2 => (T_spec_l2Num n x0 x1 x2).run
theorem ft_spec_l2Num (n : Nat) (x0 : Int) (x1 : Int) (x2 : ByteArray) : funT (CT_spec_l2Num n) (LT_spec_l2Num n) K_spec_l2Num (A_spec_l2Num x0 x1 x2) = (T_spec_l2Num n x0 x1 x2).bind fun r => .done (O_spec_l2Num r) := by kernel_rfl
theorem ct_spec_l2Num (n : Nat) : CTok (CT_spec_l2Num n) (runs KP lib n) := mkCT_cons (eo_spec_ValueOk n (noEnt_ok)) (mkCT_cons (eo_spec_l2Error n (noEnt_ok)) (mkCT_nil))
theorem th_spec_l2Num : ∀ (n : Nat) (x0 : Int) (x1 : Int) (x2 : ByteArray) (r : Int × Int × Int × ByteArray), F_spec_l2Num n x0 x1 x2 = some r → runs KP lib n 64 (A_spec_l2Num x0 x1 x2) [] = some ⟨O_spec_l2Num r, [], []⟩
  | 0, x0, x1, x2, r, h => by cases h
  | n + 1, x0, x1, x2, r, h => fun_step (kf := K_spec_l2Num) rfl (ct_spec_l2Num n) (noLoops rfl) (ft_spec_l2Num n x0 x1 x2) h
def FH_spec_l2Num (n : Nat) : List (List (List Hv)) → Option (Int × Int × Int × ByteArray)
  | [[[.i x0], [.i x1], [.s x2]]] => F_spec_l2Num n x0 x1 x2
  | _ => none
def E_spec_l2Num (n : Nat) (d : List AV → Tr AV) : List AV → Tr AV := cent (A_spec_l2Num (0) (0) (⟨#[]⟩)) (FH_spec_l2Num n) O_spec_l2Num d
theorem eo_spec_l2Num (n : Nat) {d : List AV → Tr AV} (hd : ∀ ar r, (d ar).run = some r → runs KP lib n 64 ar [] = some ⟨r, [], []⟩) : ∀ ar r, (E_spec_l2Num n d ar).run = some r → runs KP lib n 64 ar [] = some ⟨r, [], []⟩ :=
  cent_ok (fun hs r h => by
    unfold FH_spec_l2Num at h
    split at h
    · exact ⟨A_spec_l2Num _ _ _, rfl, th_spec_l2Num n _ _ _ r h⟩
    · cases h) hd
/-! ### spec.l2Int -/
def A_spec_l2Int (x0 : Int) : List AV := [(.c (.p (.i .i64 x0)))]
def O_spec_l2Int (r : Int × Int × ByteArray) : AV := (.agg [(.p (.i .i64 r.1)), (.p (.i .i64 r.2.1)), (.p (.s r.2.2))])
abbrev CT_spec_l2Int (n : Nat) : CTab := mkCT [(51, E_spec_l1In n (noEnt)), (73, E_spec_l2Error n (noEnt))]
abbrev LT_spec_l2Int (n : Nat) : LTab := mkLT []
def T_spec_l2Int (n : Nat) (x0 : Int) : Tr (Int × Int × ByteArray) := (.opt (F_spec_l1In n x0 (-1000000000000000 : Int) (1000000000000000 : Int)) fun r16 => (.ask ((!r16)) (.opt (F_spec_l2Error n (4 : Int)) fun r17 => (.done (r17.1, r17.2.1, r17.2.2))) (.done ((1 : Int), x0, (⟨#[]⟩ : ByteArray)))))
def F_spec_l2Int : Nat → Int → Option (Int × Int × ByteArray)
  | 0, _ => none
  | n + 1, x0 => (T_spec_l2Int n x0).run
theorem ft_spec_l2Int (n : Nat) (x0 : Int) : funT (CT_spec_l2Int n) (LT_spec_l2Int n) K_spec_l2Int (A_spec_l2Int x0) = (T_spec_l2Int n x0).bind fun r => .done (O_spec_l2Int r) := by kernel_rfl
theorem ct_spec_l2Int (n : Nat) : CTok (CT_spec_l2Int n) (runs KP lib n) := mkCT_cons (eo_spec_l1In n (noEnt_ok)) (mkCT_cons (eo_spec_l2Error n (noEnt_ok)) (mkCT_nil))
theorem th_spec_l2Int : ∀ (n : Nat) (x0 : Int) (r : Int × Int × ByteArray), F_spec_l2Int n x0 = some r → runs KP lib n 65 (A_spec_l2Int x0) [] = some ⟨O_spec_l2Int r, [], []⟩
  | 0, x0, r, h => by cases h
  | n + 1, x0, r, h => fun_step (kf := K_spec_l2Int) rfl (ct_spec_l2Int n) (noLoops rfl) (ft_spec_l2Int n x0) h
def FH_spec_l2Int (n : Nat) : List (List (List Hv)) → Option (Int × Int × ByteArray)
  | [[[.i x0]]] => F_spec_l2Int n x0
  | _ => none
def E_spec_l2Int (n : Nat) (d : List AV → Tr AV) : List AV → Tr AV := cent (A_spec_l2Int (0)) (FH_spec_l2Int n) O_spec_l2Int d
theorem eo_spec_l2Int (n : Nat) {d : List AV → Tr AV} (hd : ∀ ar r, (d ar).run = some r → runs KP lib n 65 ar [] = some ⟨r, [], []⟩) : ∀ ar r, (E_spec_l2Int n d ar).run = some r → runs KP lib n 65 ar [] = some ⟨r, [], []⟩ :=
  cent_ok (fun hs r h => by
    unfold FH_spec_l2Int at h
    split at h
    · exact ⟨A_spec_l2Int _, rfl, th_spec_l2Int n _ r h⟩
    · cases h) hd
/-! ### spec.Negated -/
def A_spec_Negated (x0 : Int) (x1 : Int) (x2 : ByteArray) : List AV := [(.agg [(.p (.i .i64 x0)), (.p (.i .i64 x1)), (.p (.s x2))])]
def O_spec_Negated (r : Int × Int × ByteArray) : AV := (.agg [(.p (.i .i64 r.1)), (.p (.i .i64 r.2.1)), (.p (.s r.2.2))])
abbrev CT_spec_Negated (n : Nat) : CTab := mkCT [(64, E_spec_l2Num n (noEnt)), (65, E_spec_l2Int n (noEnt))]
abbrev LT_spec_Negated (n : Nat) : LTab := mkLT []
def T_spec_Negated (n : Nat) (x0 : Int) (x1 : Int) (x2 : ByteArray) : Tr (Int × Int × ByteArray) := (.opt (F_spec_l2Num n x0 x1 x2) fun r15 => (.ask ((r15.2.1 != (0 : Int))) (.done (r15.2.1, r15.2.2.1, r15.2.2.2)) (.opt (F_spec_l2Int n (IntKind.i64.wrap (0 - r15.1))) fun r18 => (.done (r18.1, r18.2.1, r18.2.2)))))
def F_spec_Negated : Nat → Int → Int → ByteArray → Option (Int × Int × ByteArray)
  | 0, _, _, _ => none
  | n + 1, x0, x1, x2 => (T_spec_Negated n x0 x1 x2).run
theorem ft_spec_Negated (n : Nat) (x0 : Int) (x1 : Int) (x2 : ByteArray) : funT (CT_spec_Negated n) (LT_spec_Negated n) K_spec_Negated (A_spec_Negated x0 x1 x2) = (T_spec_Negated n x0 x1 x2).bind fun r => .done (O_spec_Negated r) := by kernel_rfl
theorem ct_spec_Negated (n : Nat) : CTok (CT_spec_Negated n) (runs KP lib n) := mkCT_cons (eo_spec_l2Num n (noEnt_ok)) (mkCT_cons (eo_spec_l2Int n (noEnt_ok)) (mkCT_nil))
theorem th_spec_Negated : ∀ (n : Nat) (x0 : Int) (x1 : Int) (x2 : ByteArray) (r : Int × Int × ByteArray), F_spec_Negated n x0 x1 x2 = some r → runs KP lib n 46 (A_spec_Negated x0 x1 x2) [] = some ⟨O_spec_Negated r, [], []⟩
  | 0, x0, x1, x2, r, h => by cases h
  | n + 1, x0, x1, x2, r, h => fun_step (kf := K_spec_Negated) rfl (ct_spec_Negated n) (noLoops rfl) (ft_spec_Negated n x0 x1 x2) h
def FH_spec_Negated (n : Nat) : List (List (List Hv)) → Option (Int × Int × ByteArray)
  | [[[.i x0], [.i x1], [.s x2]]] => F_spec_Negated n x0 x1 x2
  | _ => none
def E_spec_Negated (n : Nat) (d : List AV → Tr AV) : List AV → Tr AV := cent (A_spec_Negated (0) (0) (⟨#[]⟩)) (FH_spec_Negated n) O_spec_Negated d
theorem eo_spec_Negated (n : Nat) {d : List AV → Tr AV} (hd : ∀ ar r, (d ar).run = some r → runs KP lib n 46 ar [] = some ⟨r, [], []⟩) : ∀ ar r, (E_spec_Negated n d ar).run = some r → runs KP lib n 46 ar [] = some ⟨r, [], []⟩ :=
  cent_ok (fun hs r h => by
    unfold FH_spec_Negated at h
    split at h
    · exact ⟨A_spec_Negated _ _ _, rfl, th_spec_Negated n _ _ _ r h⟩
    · cases h) hd
/-! ### impl.isText -/
def A_impl_isText (x0 : ByteArray) (x1 : Int) : List AV := [(.c (.p (.s x0))), (.c (.p (.i .i64 x1)))]
def O_impl_isText (r : Bool) : AV := (.c (.p (.b r)))
abbrev CT_impl_isText (n : Nat) : CTab := mkCT []
def S_impl_isText_13 (v : ByteArray × Int × Int × Int) : St := ⟨[(0, (.c (.p (.s v.1)))), (1, (.c (.p (.i .i64 v.2.1)))), (7, (.c (.p (.i .i64 v.2.2.1)))), (8, (.c (.p (.i .i64 v.2.2.2))))], [], []⟩
def B_impl_isText_13 (n : Nat) (v : ByteArray × Int × Int × Int) : Tr ((ByteArray × Int × Int × Int) ⊕ ((Bool) ⊕ (ByteArray × Int))) := (.ask ((decide (v.2.2.2 < v.2.2.1))) (.ask (decide (0 ≤ v.2.2.2)) (.opt (v.1.toList[(v.2.2.2).toNat]?) fun c21 => (.ask ((decide ((c21.toNat : Int) < (32 : Int)))) (.done (.inr (.inl (false)))) (.ask (decide (0 ≤ v.2.2.2)) (.opt (v.1.toList[(v.2.2.2).toNat]?) fun c22 => (.ask ((decide ((c22.toNat : Int) > (126 : Int)))) (.done (.inr (.inl (false)))) (.done (.inl (v.1, v.2.1, v.2.2.1, (IntKind.i64.wrap (v.2.2.2 + (1 : Int)))))))) .fail))) .fail) (.done (.inr (.inr ((v.1, v.2.1))))))
def D_impl_isText_13 : ((Bool) ⊕ (ByteArray × Int)) → Ex × St := fun | .inl r => (.ret, ⟨[(4, (.c (.p (.b r))))], [], []⟩) | .inr r => (fun r => ((.exit 0), ⟨[(0, (.c (.p (.s r.1)))), (1, (.c (.p (.i .i64 r.2))))], [], []⟩)) r
def DT_impl_isText_13 : ((Bool) ⊕ (ByteArray × Int)) → Tr (Ex × St) := fun r => .alt r (fun r => .done (.ret, ⟨[(4, (.c (.p (.b r))))], [], []⟩)) (fun r => .done ((.exit 0), ⟨[(0, (.c (.p (.s r.1)))), (1, (.c (.p (.i .i64 r.2))))], [], []⟩))
def VH_impl_isText_13 : List (List (List Hv)) × List (List (List Hv)) → Option (ByteArray × Int × Int × Int)
  | ([[[.s w0]], [[.i w1]], [[.i w2]], [[.i w3]]], []) => some (w0, w1, w2, w3)
  | _ => none
abbrev LE_impl_isText_13 (n : Nat) : St → Tr (Ex × St) := lent (S_impl_isText_13 (⟨#[]⟩, 0, 0, 0)) VH_impl_isText_13 (B_impl_isText_13 n) DT_impl_isText_13 n
abbrev LT_impl_isText (n : Nat) : LTab := mkLT [(13, LE_impl_isText_13 n)]
def T_impl_isText (n : Nat) (x0 : ByteArray) (x1 : Int) : Tr (Bool) := (.opt (loopF (B_impl_isText_13 n) n (x0, x1, (x0.size : Int), (0 : Int))) fun r23 => (.alt r23 (fun r24 => (.done r24)) (fun r25 => (.done (decide ((r25.1.size : Int) ≤ r25.2))))))
def F_impl_isText : Nat → ByteArray → Int → Option (Bool)
  | 0, _, _ => none
  | n + 1, x0, x1 => (T_impl_isText n x0 x1).run
theorem ft_impl_isText (n : Nat) (x0 : ByteArray) (x1 : Int) : funT (CT_impl_isText n) (LT_impl_isText n) K_impl_isText (A_impl_isText x0 x1) = (T_impl_isText n x0 x1).bind fun r => .done (O_impl_isText r) := by kernel_rfl
theorem ct_impl_isText (n : Nat) : CTok (CT_impl_isText n) (runs KP lib n) := mkCT_nil
theorem lt_impl_isText_13 (n : Nat) (v : ByteArray × Int × Int × Int) : (evalCT (CT_impl_isText n) (mkLT []) K_impl_isText_L13 (S_impl_isText_13 v) []).bind (ltail [0, 1, 7, 8] [(.ret, [4]), ((.exit 0), [0, 1])]) = (B_impl_isText_13 n v).bind (lenc S_impl_isText_13 D_impl_isText_13) := by
  obtain ⟨w0, w1, w2, w3⟩ := v
  kernel_rfl
theorem le_impl_isText_13 (n : Nat) : LEok (runs KP lib n) n (13, [0, 1, 7, 8], [(.ret, [4]), ((.exit 0), [0, 1])], K_impl_isText_L13) (LE_impl_isText_13 n) := fun st e s h =>
  lent_ok (ct_impl_isText n) (noLoops rfl) (lt_impl_isText_13 n) (fun r => by
    rcases r with r | r <;> (intro h; cases h)) (fun r y h => by
    rcases r with r | r <;> (cases h; rfl)) (fun hs v h => by
    unfold VH_impl_isText_13 at h
    split at h <;> cases h
    rfl) h
theorem lo_impl_isText (n : Nat) : LTok (LT_impl_isText n) (runs KP lib n) n K_impl_isText.body := mkLT_ok (by
  intro x hx
  have hx : x ∈ ([(13, [0, 1, 7, 8], [(.ret, [4]), ((.exit 0), [0, 1])], K_impl_isText_L13)] : List (Nat × List Nat × List (Ex × List Nat) × KCode)) := hx
  simp only [List.mem_cons, List.not_mem_nil, or_false] at hx
  rcases hx with rfl
  · exact ⟨LE_impl_isText_13 n, fun st => rfl, le_impl_isText_13 n⟩)
theorem th_impl_isText : ∀ (n : Nat) (x0 : ByteArray) (x1 : Int) (r : Bool), F_impl_isText n x0 x1 = some r → runs KP lib n 55 (A_impl_isText x0 x1) [] = some ⟨O_impl_isText r, [], []⟩
  | 0, x0, x1, r, h => by cases h
  | n + 1, x0, x1, r, h => fun_step (kf := K_impl_isText) rfl (ct_impl_isText n) (lo_impl_isText n) (ft_impl_isText n x0 x1) h
def FH_impl_isText (n : Nat) : List (List (List Hv)) → Option (Bool)
  | [[[.s x0]], [[.i x1]]] => F_impl_isText n x0 x1
  | _ => none
def E_impl_isText (n : Nat) (d : List AV → Tr AV) : List AV → Tr AV := cent (A_impl_isText (⟨#[]⟩) (0)) (FH_impl_isText n) O_impl_isText d
theorem eo_impl_isText (n : Nat) {d : List AV → Tr AV} (hd : ∀ ar r, (d ar).run = some r → runs KP lib n 55 ar [] = some ⟨r, [], []⟩) : ∀ ar r, (E_impl_isText n d ar).run = some r → runs KP lib n 55 ar [] = some ⟨r, [], []⟩ :=
  cent_ok (fun hs r h => by
    unfold FH_impl_isText at h
    split at h
    · exact ⟨A_impl_isText _ _, rfl, th_impl_isText n _ _ r h⟩
    · cases h) hd
/-! ### impl.within -/
def A_impl_within (x0 : Int) (x1 : Int) (x2 : Int) : List AV := [(.c (.p (.i .i64 x0))), (.c (.p (.i .i64 x1))), (.c (.p (.i .i64 x2)))]
def O_impl_within (r : Bool) : AV := (.c (.p (.b r)))
abbrev CT_impl_within (n : Nat) : CTab := mkCT []
abbrev LT_impl_within (n : Nat) : LTab := mkLT []
def T_impl_within (n : Nat) (x0 : Int) (x1 : Int) (x2 : Int) : Tr (Bool) := (.ask ((decide (x0 ≥ x1))) (.done (decide (x0 ≤ x2))) (.done false))
def F_impl_within : Nat → Int → Int → Int → Option (Bool)
  | 0, _, _, _ => none
  | n + 1, x0, x1, x2 => (T_impl_within n x0 x1 x2).run
theorem ft_impl_within (n : Nat) (x0 : Int) (x1 : Int) (x2 : Int) : funT (CT_impl_within n) (LT_impl_within n) K_impl_within (A_impl_within x0 x1 x2) = (T_impl_within n x0 x1 x2).bind fun r => .done (O_impl_within r) := by kernel_rfl
theorem ct_impl_within (n : Nat) : CTok (CT_impl_within n) (runs KP lib n) := mkCT_nil
theorem th_impl_within : ∀ (n : Nat) (x0 : Int) (x1 : Int) (x2 : Int) (r : Bool), F_impl_within n x0 x1 x2 = some r → runs KP lib n 52 (A_impl_within x0 x1 x2) [] = some ⟨O_impl_within r, [], []⟩
  | 0, x0, x1, x2, r, h => by cases h
  | n + 1, x0, x1, x2, r, h => fun_step (kf := K_impl_within) rfl (ct_impl_within n) (noLoops rfl) (ft_impl_within n x0 x1 x2) h
def FH_impl_within (n : Nat) : List (List (List Hv)) → Option (Bool)
  | [[[.i x0]], [[.i x1]], [[.i x2]]] => F_impl_within n x0 x1 x2
  | _ => none
def E_impl_within (n : Nat) (d : List AV → Tr AV) : List AV → Tr AV := cent (A_impl_within (0) (0) (0)) (FH_impl_within n) O_impl_within d
theorem eo_impl_within (n : Nat) {d : List AV → Tr AV} (hd : ∀ ar r, (d ar).run = some r → runs KP lib n 52 ar [] = some ⟨r, [], []⟩) : ∀ ar r, (E_impl_within n d ar).run = some r → runs KP lib n 52 ar [] = some ⟨r, [], []⟩ :=
  cent_ok (fun hs r h => by
    unfold FH_impl_within at h
    split at h
    · exact ⟨A_impl_within _ _ _, rfl, th_impl_within n _ _ _ r h⟩
    · cases h) hd
/-! ### impl.ValueOk -/
def A_impl_ValueOk (x0 : Int) (x1 : Int) (x2 : ByteArray) : List AV := [(.agg [(.p (.i .i64 x0)), (.p (.i .i64 x1)), (.p (.s x2))])]
def O_impl_ValueOk (r : Bool) : AV := (.c (.p (.b r)))
abbrev CT_impl_ValueOk (n : Nat) : CTab := mkCT [(55, E_impl_isText n (noEnt)), (52, E_impl_within n (noEnt))]
abbrev LT_impl_ValueOk (n : Nat) : LTab := mkLT []
def T_impl_ValueOk (n : Nat) (x0 : Int) (x1 : Int) (x2 : ByteArray) : Tr (Bool) := (.ask ((x0 == (2 : Int))) (.ask ((x1 == (0 : Int))) (.opt (F_impl_isText n x2 (200 : Int)) fun r26 => (.done r26)) (.done false)) (.ask ((!(x2.toList == (⟨#[]⟩ : ByteArray).toList))) (.done false) (.ask ((x0 == (0 : Int))) (.done (x1 == (0 : Int))) (.ask ((x0 == (1 : Int))) (.opt (F_impl_within n x1 (-1000000000000000 : Int) (1000000000000000 : Int)) fun r27 => (.done r27)) (.ask ((x0 == (3 : Int))) (.opt (F_impl_within n x1 (0 : Int) (1 : Int)) fun r28 => (.done r28)) (.ask ((x0 == (4 : Int))) (.opt (F_impl_within n x1 (1 : Int) (5 : Int)) fun r29 => (.done r29)) (.done false)))))))
def F_impl_ValueOk : Nat → Int → Int → ByteArray → Option (Bool)
  | 0, _, _, _ => none
  | n + 1, x0, x1, x2 => (T_impl_ValueOk n x0 x1 x2).run
theorem ft_impl_ValueOk (n : Nat) (x0 : Int) (x1 : Int) (x2 : ByteArray) : funT (CT_impl_ValueOk n) (LT_impl_ValueOk n) K_impl_ValueOk (A_impl_ValueOk x0 x1 x2) = (T_impl_ValueOk n x0 x1 x2).bind fun r => .done (O_impl_ValueOk r) := by kernel_rfl
theorem ct_impl_ValueOk (n : Nat) : CTok (CT_impl_ValueOk n) (runs KP lib n) := mkCT_cons (eo_impl_isText n (noEnt_ok)) (mkCT_cons (eo_impl_within n (noEnt_ok)) (mkCT_nil))
theorem th_impl_ValueOk : ∀ (n : Nat) (x0 : Int) (x1 : Int) (x2 : ByteArray) (r : Bool), F_impl_ValueOk n x0 x1 x2 = some r → runs KP lib n 31 (A_impl_ValueOk x0 x1 x2) [] = some ⟨O_impl_ValueOk r, [], []⟩
  | 0, x0, x1, x2, r, h => by cases h
  | n + 1, x0, x1, x2, r, h => fun_step (kf := K_impl_ValueOk) rfl (ct_impl_ValueOk n) (noLoops rfl) (ft_impl_ValueOk n x0 x1 x2) h
def FH_impl_ValueOk (n : Nat) : List (List (List Hv)) → Option (Bool)
  | [[[.i x0], [.i x1], [.s x2]]] => F_impl_ValueOk n x0 x1 x2
  | _ => none
def E_impl_ValueOk (n : Nat) (d : List AV → Tr AV) : List AV → Tr AV := cent (A_impl_ValueOk (0) (0) (⟨#[]⟩)) (FH_impl_ValueOk n) O_impl_ValueOk d
theorem eo_impl_ValueOk (n : Nat) {d : List AV → Tr AV} (hd : ∀ ar r, (d ar).run = some r → runs KP lib n 31 ar [] = some ⟨r, [], []⟩) : ∀ ar r, (E_impl_ValueOk n d ar).run = some r → runs KP lib n 31 ar [] = some ⟨r, [], []⟩ :=
  cent_ok (fun hs r h => by
    unfold FH_impl_ValueOk at h
    split at h
    · exact ⟨A_impl_ValueOk _ _ _, rfl, th_impl_ValueOk n _ _ _ r h⟩
    · cases h) hd
/-! ### impl.asNumber -/
def A_impl_asNumber (x0 : Int) (x1 : Int) (x2 : ByteArray) : List AV := [(.agg [(.p (.i .i64 x0)), (.p (.i .i64 x1)), (.p (.s x2))])]
def O_impl_asNumber (r : Int × Bool) : AV := (.tup [(false, [(.p (.i .i64 r.1))]), (false, [(.p (.b r.2))])])
abbrev CT_impl_asNumber (n : Nat) : CTab := mkCT [(31, E_impl_ValueOk n (noEnt))]
abbrev LT_impl_asNumber (n : Nat) : LTab := mkLT []
def T_impl_asNumber (n : Nat) (x0 : Int) (x1 : Int) (x2 : ByteArray) : Tr (Int × Bool) := (.opt (F_impl_ValueOk n x0 x1 x2) fun r30 => (.ask (r30) (.ask ((x0 == (0 : Int))) (.done (x1, true)) (.done (x1, (x0 == (1 : Int))))) (.done (x1, false))))
def F_impl_asNumber : Nat → Int → Int → ByteArray → Option (Int × Bool)
  | 0, _, _, _ => none
  | n + 1, x0, x1, x2 => (T_impl_asNumber n x0 x1 x2).run
theorem ft_impl_asNumber (n : Nat) (x0 : Int) (x1 : Int) (x2 : ByteArray) : funT (CT_impl_asNumber n) (LT_impl_asNumber n) K_impl_asNumber (A_impl_asNumber x0 x1 x2) = (T_impl_asNumber n x0 x1 x2).bind fun r => .done (O_impl_asNumber r) := by kernel_rfl
theorem ct_impl_asNumber (n : Nat) : CTok (CT_impl_asNumber n) (runs KP lib n) := mkCT_cons (eo_impl_ValueOk n (noEnt_ok)) (mkCT_nil)
theorem th_impl_asNumber : ∀ (n : Nat) (x0 : Int) (x1 : Int) (x2 : ByteArray) (r : Int × Bool), F_impl_asNumber n x0 x1 x2 = some r → runs KP lib n 75 (A_impl_asNumber x0 x1 x2) [] = some ⟨O_impl_asNumber r, [], []⟩
  | 0, x0, x1, x2, r, h => by cases h
  | n + 1, x0, x1, x2, r, h => fun_step (kf := K_impl_asNumber) rfl (ct_impl_asNumber n) (noLoops rfl) (ft_impl_asNumber n x0 x1 x2) h
def FH_impl_asNumber (n : Nat) : List (List (List Hv)) → Option (Int × Bool)
  | [[[.i x0], [.i x1], [.s x2]]] => F_impl_asNumber n x0 x1 x2
  | _ => none
def E_impl_asNumber (n : Nat) (d : List AV → Tr AV) : List AV → Tr AV := cent (A_impl_asNumber (0) (0) (⟨#[]⟩)) (FH_impl_asNumber n) O_impl_asNumber d
theorem eo_impl_asNumber (n : Nat) {d : List AV → Tr AV} (hd : ∀ ar r, (d ar).run = some r → runs KP lib n 75 ar [] = some ⟨r, [], []⟩) : ∀ ar r, (E_impl_asNumber n d ar).run = some r → runs KP lib n 75 ar [] = some ⟨r, [], []⟩ :=
  cent_ok (fun hs r h => by
    unfold FH_impl_asNumber at h
    split at h
    · exact ⟨A_impl_asNumber _ _ _, rfl, th_impl_asNumber n _ _ _ r h⟩
    · cases h) hd
/-! ### impl.fault -/
def A_impl_fault (x0 : Int) : List AV := [(.c (.p (.i .i64 x0)))]
def O_impl_fault (r : Int × Int × ByteArray) : AV := (.agg [(.p (.i .i64 r.1)), (.p (.i .i64 r.2.1)), (.p (.s r.2.2))])
abbrev CT_impl_fault (n : Nat) : CTab := mkCT []
abbrev LT_impl_fault (n : Nat) : LTab := mkLT []
def T_impl_fault (n : Nat) (x0 : Int) : Tr (Int × Int × ByteArray) := (.done ((4 : Int), x0, (⟨#[]⟩ : ByteArray)))
def F_impl_fault : Nat → Int → Option (Int × Int × ByteArray)
  | 0, _ => none
  | n + 1, x0 => (T_impl_fault n x0).run
theorem ft_impl_fault (n : Nat) (x0 : Int) : funT (CT_impl_fault n) (LT_impl_fault n) K_impl_fault (A_impl_fault x0) = (T_impl_fault n x0).bind fun r => .done (O_impl_fault r) := by kernel_rfl
theorem ct_impl_fault (n : Nat) : CTok (CT_impl_fault n) (runs KP lib n) := mkCT_nil
theorem th_impl_fault : ∀ (n : Nat) (x0 : Int) (r : Int × Int × ByteArray), F_impl_fault n x0 = some r → runs KP lib n 77 (A_impl_fault x0) [] = some ⟨O_impl_fault r, [], []⟩
  | 0, x0, r, h => by cases h
  | n + 1, x0, r, h => fun_step (kf := K_impl_fault) rfl (ct_impl_fault n) (noLoops rfl) (ft_impl_fault n x0) h
def FH_impl_fault (n : Nat) : List (List (List Hv)) → Option (Int × Int × ByteArray)
  | [[[.i x0]]] => F_impl_fault n x0
  | _ => none
def E_impl_fault (n : Nat) (d : List AV → Tr AV) : List AV → Tr AV := cent (A_impl_fault (0)) (FH_impl_fault n) O_impl_fault d
theorem eo_impl_fault (n : Nat) {d : List AV → Tr AV} (hd : ∀ ar r, (d ar).run = some r → runs KP lib n 77 ar [] = some ⟨r, [], []⟩) : ∀ ar r, (E_impl_fault n d ar).run = some r → runs KP lib n 77 ar [] = some ⟨r, [], []⟩ :=
  cent_ok (fun hs r h => by
    unfold FH_impl_fault at h
    split at h
    · exact ⟨A_impl_fault _, rfl, th_impl_fault n _ r h⟩
    · cases h) hd
/-! ### impl.none -/
def A_impl_none (x0 : Int) (x1 : Int) (x2 : ByteArray) : List AV := [(.agg [(.p (.i .i64 x0)), (.p (.i .i64 x1)), (.p (.s x2))])]
def O_impl_none (r : Int × Int × ByteArray) : AV := (.agg [(.p (.i .i64 r.1)), (.p (.i .i64 r.2.1)), (.p (.s r.2.2))])
abbrev CT_impl_none (n : Nat) : CTab := mkCT [(31, E_impl_ValueOk n (noEnt)), (77, E_impl_fault n (noEnt))]
abbrev LT_impl_none (n : Nat) : LTab := mkLT []
def T_impl_none (n : Nat) (x0 : Int) (x1 : Int) (x2 : ByteArray) : Tr (Int × Int × ByteArray) := (.opt (F_impl_ValueOk n x0 x1 x2) fun r33 => (.ask (r33) (.ask ((x0 == (4 : Int))) (.done (x0, x1, x2)) (.opt (F_impl_fault n (2 : Int)) fun r34 => (.done (r34.1, r34.2.1, r34.2.2)))) (.opt (F_impl_fault n (2 : Int)) fun r35 => (.done (r35.1, r35.2.1, r35.2.2)))))
def F_impl_none : Nat → Int → Int → ByteArray → Option (Int × Int × ByteArray)
  | 0, _, _, _ => none
  | n + 1, x0, x1, x2 => (T_impl_none n x0 x1 x2).run
theorem ft_impl_none (n : Nat) (x0 : Int) (x1 : Int) (x2 : ByteArray) : funT (CT_impl_none n) (LT_impl_none n) K_impl_none (A_impl_none x0 x1 x2) = (T_impl_none n x0 x1 x2).bind fun r => .done (O_impl_none r) := by kernel_rfl
theorem ct_impl_none (n : Nat) : CTok (CT_impl_none n) (runs KP lib n) := mkCT_cons (eo_impl_ValueOk n (noEnt_ok)) (mkCT_cons (eo_impl_fault n (noEnt_ok)) (mkCT_nil))
theorem th_impl_none : ∀ (n : Nat) (x0 : Int) (x1 : Int) (x2 : ByteArray) (r : Int × Int × ByteArray), F_impl_none n x0 x1 x2 = some r → runs KP lib n 76 (A_impl_none x0 x1 x2) [] = some ⟨O_impl_none r, [], []⟩
  | 0, x0, x1, x2, r, h => by cases h
  | n + 1, x0, x1, x2, r, h => fun_step (kf := K_impl_none) rfl (ct_impl_none n) (noLoops rfl) (ft_impl_none n x0 x1 x2) h
def FH_impl_none (n : Nat) : List (List (List Hv)) → Option (Int × Int × ByteArray)
  | [[[.i x0], [.i x1], [.s x2]]] => F_impl_none n x0 x1 x2
  | _ => none
def E_impl_none (n : Nat) (d : List AV → Tr AV) : List AV → Tr AV := cent (A_impl_none (0) (0) (⟨#[]⟩)) (FH_impl_none n) O_impl_none d
theorem eo_impl_none (n : Nat) {d : List AV → Tr AV} (hd : ∀ ar r, (d ar).run = some r → runs KP lib n 76 ar [] = some ⟨r, [], []⟩) : ∀ ar r, (E_impl_none n d ar).run = some r → runs KP lib n 76 ar [] = some ⟨r, [], []⟩ :=
  cent_ok (fun hs r h => by
    unfold FH_impl_none at h
    split at h
    · exact ⟨A_impl_none _ _ _, rfl, th_impl_none n _ _ _ r h⟩
    · cases h) hd
/-! ### impl.number -/
def A_impl_number (x0 : Int) : List AV := [(.c (.p (.i .i64 x0)))]
def O_impl_number (r : Int × Int × ByteArray) : AV := (.agg [(.p (.i .i64 r.1)), (.p (.i .i64 r.2.1)), (.p (.s r.2.2))])
abbrev CT_impl_number (n : Nat) : CTab := mkCT []
abbrev LT_impl_number (n : Nat) : LTab := mkLT []
def T_impl_number (n : Nat) (x0 : Int) : Tr (Int × Int × ByteArray) := (.done ((1 : Int), x0, (⟨#[]⟩ : ByteArray)))
def F_impl_number : Nat → Int → Option (Int × Int × ByteArray)
  | 0, _ => none
  | n + 1, x0 => (T_impl_number n x0).run
theorem ft_impl_number (n : Nat) (x0 : Int) : funT (CT_impl_number n) (LT_impl_number n) K_impl_number (A_impl_number x0) = (T_impl_number n x0).bind fun r => .done (O_impl_number r) := by kernel_rfl
theorem ct_impl_number (n : Nat) : CTok (CT_impl_number n) (runs KP lib n) := mkCT_nil
theorem th_impl_number : ∀ (n : Nat) (x0 : Int) (r : Int × Int × ByteArray), F_impl_number n x0 = some r → runs KP lib n 78 (A_impl_number x0) [] = some ⟨O_impl_number r, [], []⟩
  | 0, x0, r, h => by cases h
  | n + 1, x0, r, h => fun_step (kf := K_impl_number) rfl (ct_impl_number n) (noLoops rfl) (ft_impl_number n x0) h
def FH_impl_number (n : Nat) : List (List (List Hv)) → Option (Int × Int × ByteArray)
  | [[[.i x0]]] => F_impl_number n x0
  | _ => none
def E_impl_number (n : Nat) (d : List AV → Tr AV) : List AV → Tr AV := cent (A_impl_number (0)) (FH_impl_number n) O_impl_number d
theorem eo_impl_number (n : Nat) {d : List AV → Tr AV} (hd : ∀ ar r, (d ar).run = some r → runs KP lib n 78 ar [] = some ⟨r, [], []⟩) : ∀ ar r, (E_impl_number n d ar).run = some r → runs KP lib n 78 ar [] = some ⟨r, [], []⟩ :=
  cent_ok (fun hs r h => by
    unfold FH_impl_number at h
    split at h
    · exact ⟨A_impl_number _, rfl, th_impl_number n _ r h⟩
    · cases h) hd
/-! ### impl.bounded -/
def A_impl_bounded (x0 : Int) : List AV := [(.c (.p (.i .i64 x0)))]
def O_impl_bounded (r : Int × Int × ByteArray) : AV := (.agg [(.p (.i .i64 r.1)), (.p (.i .i64 r.2.1)), (.p (.s r.2.2))])
abbrev CT_impl_bounded (n : Nat) : CTab := mkCT [(52, E_impl_within n (noEnt)), (77, E_impl_fault n (noEnt)), (78, E_impl_number n (noEnt))]
abbrev LT_impl_bounded (n : Nat) : LTab := mkLT []
def T_impl_bounded (n : Nat) (x0 : Int) : Tr (Int × Int × ByteArray) := (.opt (F_impl_within n x0 (-1000000000000000 : Int) (1000000000000000 : Int)) fun r38 => (.ask ((!r38)) (.opt (F_impl_fault n (4 : Int)) fun r39 => (.done (r39.1, r39.2.1, r39.2.2))) (.opt (F_impl_number n x0) fun r40 => (.done (r40.1, r40.2.1, r40.2.2)))))
def F_impl_bounded : Nat → Int → Option (Int × Int × ByteArray)
  | 0, _ => none
  | n + 1, x0 => (T_impl_bounded n x0).run
theorem ft_impl_bounded (n : Nat) (x0 : Int) : funT (CT_impl_bounded n) (LT_impl_bounded n) K_impl_bounded (A_impl_bounded x0) = (T_impl_bounded n x0).bind fun r => .done (O_impl_bounded r) := by kernel_rfl
theorem ct_impl_bounded (n : Nat) : CTok (CT_impl_bounded n) (runs KP lib n) := mkCT_cons (eo_impl_within n (noEnt_ok)) (mkCT_cons (eo_impl_fault n (noEnt_ok)) (mkCT_cons (eo_impl_number n (noEnt_ok)) (mkCT_nil)))
theorem th_impl_bounded : ∀ (n : Nat) (x0 : Int) (r : Int × Int × ByteArray), F_impl_bounded n x0 = some r → runs KP lib n 70 (A_impl_bounded x0) [] = some ⟨O_impl_bounded r, [], []⟩
  | 0, x0, r, h => by cases h
  | n + 1, x0, r, h => fun_step (kf := K_impl_bounded) rfl (ct_impl_bounded n) (noLoops rfl) (ft_impl_bounded n x0) h
def FH_impl_bounded (n : Nat) : List (List (List Hv)) → Option (Int × Int × ByteArray)
  | [[[.i x0]]] => F_impl_bounded n x0
  | _ => none
def E_impl_bounded (n : Nat) (d : List AV → Tr AV) : List AV → Tr AV := cent (A_impl_bounded (0)) (FH_impl_bounded n) O_impl_bounded d
theorem eo_impl_bounded (n : Nat) {d : List AV → Tr AV} (hd : ∀ ar r, (d ar).run = some r → runs KP lib n 70 ar [] = some ⟨r, [], []⟩) : ∀ ar r, (E_impl_bounded n d ar).run = some r → runs KP lib n 70 ar [] = some ⟨r, [], []⟩ :=
  cent_ok (fun hs r h => by
    unfold FH_impl_bounded at h
    split at h
    · exact ⟨A_impl_bounded _, rfl, th_impl_bounded n _ r h⟩
    · cases h) hd
/-! ### impl.Less$1 -/
def A_impl_Less_1 (x0 : Int) (x1 : Int) : List AV := [(.c (.p (.i .i64 x0))), (.c (.p (.i .i64 x1)))]
def O_impl_Less_1 (r : Int × Int × ByteArray) : AV := (.agg [(.p (.i .i64 r.1)), (.p (.i .i64 r.2.1)), (.p (.s r.2.2))])
abbrev CT_impl_Less_1 (n : Nat) : CTab := mkCT [(70, E_impl_bounded n (noEnt))]
abbrev LT_impl_Less_1 (n : Nat) : LTab := mkLT []
def T_impl_Less_1 (n : Nat) (x0 : Int) (x1 : Int) : Tr (Int × Int × ByteArray) := (.opt (F_impl_bounded n (IntKind.i64.wrap (x0 - x1))) fun r41 => (.done (r41.1, r41.2.1, r41.2.2)))
def F_impl_Less_1 : Nat → Int → Int → Option (Int × Int × ByteArray)
  | 0, _, _ => none
  | n + 1, x0, x1 => (T_impl_Less_1 n x0 x1).run
theorem ft_impl_Less_1 (n : Nat) (x0 : Int) (x1 : Int) : funT (CT_impl_Less_1 n) (LT_impl_Less_1 n) K_impl_Less_1 (A_impl_Less_1 x0 x1) = (T_impl_Less_1 n x0 x1).bind fun r => .done (O_impl_Less_1 r) := by kernel_rfl
theorem ct_impl_Less_1 (n : Nat) : CTok (CT_impl_Less_1 n) (runs KP lib n) := mkCT_cons (eo_impl_bounded n (noEnt_ok)) (mkCT_nil)
theorem th_impl_Less_1 : ∀ (n : Nat) (x0 : Int) (x1 : Int) (r : Int × Int × ByteArray), F_impl_Less_1 n x0 x1 = some r → runs KP lib n 74 (A_impl_Less_1 x0 x1) [] = some ⟨O_impl_Less_1 r, [], []⟩
  | 0, x0, x1, r, h => by cases h
  | n + 1, x0, x1, r, h => fun_step (kf := K_impl_Less_1) rfl (ct_impl_Less_1 n) (noLoops rfl) (ft_impl_Less_1 n x0 x1) h
def FH_impl_Less_1 (n : Nat) : List (List (List Hv)) → Option (Int × Int × ByteArray)
  | [[[.i x0]], [[.i x1]]] => F_impl_Less_1 n x0 x1
  | _ => none
def E_impl_Less_1 (n : Nat) (d : List AV → Tr AV) : List AV → Tr AV := cent (A_impl_Less_1 (0) (0)) (FH_impl_Less_1 n) O_impl_Less_1 d
theorem eo_impl_Less_1 (n : Nat) {d : List AV → Tr AV} (hd : ∀ ar r, (d ar).run = some r → runs KP lib n 74 ar [] = some ⟨r, [], []⟩) : ∀ ar r, (E_impl_Less_1 n d ar).run = some r → runs KP lib n 74 ar [] = some ⟨r, [], []⟩ :=
  cent_ok (fun hs r h => by
    unfold FH_impl_Less_1 at h
    split at h
    · exact ⟨A_impl_Less_1 _ _, rfl, th_impl_Less_1 n _ _ r h⟩
    · cases h) hd
/-! ### impl.reckoned -/
def A_impl_reckoned_of_impl_Less_1 (x0 : Int) (x1 : Int) (x2 : ByteArray) (x3 : Int) (x4 : Int) (x5 : ByteArray) : List AV := [(.agg [(.p (.i .i64 x0)), (.p (.i .i64 x1)), (.p (.s x2))]), (.agg [(.p (.i .i64 x3)), (.p (.i .i64 x4)), (.p (.s x5))]), (.c (.fn 74 []))]
def O_impl_reckoned_of_impl_Less_1 (r : Int × Int × ByteArray) : AV := (.agg [(.p (.i .i64 r.1)), (.p (.i .i64 r.2.1)), (.p (.s r.2.2))])
abbrev CT_impl_reckoned_of_impl_Less_1 (n : Nat) : CTab := mkCT [(75, E_impl_asNumber n (noEnt)), (76, E_impl_none n (noEnt)), (74, E_impl_Less_1 n (noEnt))]
abbrev LT_impl_reckoned_of_impl_Less_1 (n : Nat) : LTab := mkLT []
def T_impl_reckoned_of_impl_Less_1 (n : Nat) (x0 : Int) (x1 : Int) (x2 : ByteArray) (x3 : Int) (x4 : Int) (x5 : ByteArray) : Tr (Int × Int × ByteArray) := (.opt (F_impl_asNumber n x0 x1 x2) fun r31 => (.opt (F_impl_asNumber n x3 x4 x5) fun r32 => (.ask ((!r31.2)) (.opt (F_impl_none n x0 x1 x2) fun r36 => (.done (r36.1, r36.2.1, r36.2.2))) (.ask ((!r32.2)) (.opt (F_impl_none n x3 x4 x5) fun r37 => (.done (r37.1, r37.2.1, r37.2.2))) (.opt (F_impl_Less_1 n r31.1 r32.1) fun r42 => (.done (r42.1, r42.2.1, r42.2.2)))))))
def F_impl_reckoned_of_impl_Less_1 : Nat → Int → Int → ByteArray → Int → Int → ByteArray → Option (Int × Int × ByteArray)
  | 0, _, _, _, _, _, _ => none
  | n + 1, x0, x1, x2, x3, x4, x5 => (T_impl_reckoned_of_impl_Less_1 n x0 x1 x2 x3 x4 x5).run
theorem ft_impl_reckoned_of_impl_Less_1 (n : Nat) (x0 : Int) (x1 : Int) (x2 : ByteArray) (x3 : Int) (x4 : Int) (x5 : ByteArray) : funT (CT_impl_reckoned_of_impl_Less_1 n) (LT_impl_reckoned_of_impl_Less_1 n) K_impl_reckoned (A_impl_reckoned_of_impl_Less_1 x0 x1 x2 x3 x4 x5) = (T_impl_reckoned_of_impl_Less_1 n x0 x1 x2 x3 x4 x5).bind fun r => .done (O_impl_reckoned_of_impl_Less_1 r) := by kernel_rfl
theorem ct_impl_reckoned_of_impl_Less_1 (n : Nat) : CTok (CT_impl_reckoned_of_impl_Less_1 n) (runs KP lib n) := mkCT_cons (eo_impl_asNumber n (noEnt_ok)) (mkCT_cons (eo_impl_none n (noEnt_ok)) (mkCT_cons (eo_impl_Less_1 n (noEnt_ok)) (mkCT_nil)))
theorem th_impl_reckoned_of_impl_Less_1 : ∀ (n : Nat) (x0 : Int) (x1 : Int) (x2 : ByteArray) (x3 : Int) (x4 : Int) (x5 : ByteArray) (r : Int × Int × ByteArray), F_impl_reckoned_of_impl_Less_1 n x0 x1 x2 x3 x4 x5 = some r → runs KP lib n 68 (A_impl_reckoned_of_impl_Less_1 x0 x1 x2 x3 x4 x5) [] = some ⟨O_impl_reckoned_of_impl_Less_1 r, [], []⟩
  | 0, x0, x1, x2, x3, x4, x5, r, h => by cases h
  | n + 1, x0, x1, x2, x3, x4, x5, r, h => fun_step (kf := K_impl_reckoned) rfl (ct_impl_reckoned_of_impl_Less_1 n) (noLoops rfl) (ft_impl_reckoned_of_impl_Less_1 n x0 x1 x2 x3 x4 x5) h
def FH_impl_reckoned_of_impl_Less_1 (n : Nat) : List (List (List Hv)) → Option (Int × Int × ByteArray)
  | [[[.i x0], [.i x1], [.s x2]], [[.i x3], [.i x4], [.s x5]], [[]]] => F_impl_reckoned_of_impl_Less_1 n x0 x1 x2 x3 x4 x5
  | _ => none
def E_impl_reckoned_of_impl_Less_1 (n : Nat) (d : List AV → Tr AV) : List AV → Tr AV := cent (A_impl_reckoned_of_impl_Less_1 (0) (0) (⟨#[]⟩) (0) (0) (⟨#[]⟩)) (FH_impl_reckoned_of_impl_Less_1 n) O_impl_reckoned_of_impl_Less_1 d
theorem eo_impl_reckoned_of_impl_Less_1 (n : Nat) {d : List AV → Tr AV} (hd : ∀ ar r, (d ar).run = some r → runs KP lib n 68 ar [] = some ⟨r, [], []⟩) : ∀ ar r, (E_impl_reckoned_of_impl_Less_1 n d ar).run = some r → runs KP lib n 68 ar [] = some ⟨r, [], []⟩ :=
  cent_ok (fun hs r h => by
    unfold FH_impl_reckoned_of_impl_Less_1 at h
    split at h
    · exact ⟨A_impl_reckoned_of_impl_Less_1 _ _ _ _ _ _, rfl, th_impl_reckoned_of_impl_Less_1 n _ _ _ _ _ _ r h⟩
    · cases h) hd
/-! ### impl.Less -/
def A_impl_Less (x0 : Int) (x1 : Int) (x2 : ByteArray) (x3 : Int) (x4 : Int) (x5 : ByteArray) : List AV := [(.agg [(.p (.i .i64 x0)), (.p (.i .i64 x1)), (.p (.s x2))]), (.agg [(.p (.i .i64 x3)), (.p (.i .i64 x4)), (.p (.s x5))])]
def O_impl_Less (r : Int × Int × ByteArray) : AV := (.agg [(.p (.i .i64 r.1)), (.p (.i .i64 r.2.1)), (.p (.s r.2.2))])
abbrev CT_impl_Less (n : Nat) : CTab := mkCT [(68, E_impl_reckoned_of_impl_Less_1 n (noEnt))]
abbrev LT_impl_Less (n : Nat) : LTab := mkLT []
def T_impl_Less (n : Nat) (x0 : Int) (x1 : Int) (x2 : ByteArray) (x3 : Int) (x4 : Int) (x5 : ByteArray) : Tr (Int × Int × ByteArray) := (.opt (F_impl_reckoned_of_impl_Less_1 n x0 x1 x2 x3 x4 x5) fun r43 => (.done (r43.1, r43.2.1, r43.2.2)))
def F_impl_Less : Nat → Int → Int → ByteArray → Int → Int → ByteArray → Option (Int × Int × ByteArray)
  | 0, _, _, _, _, _, _ => none
  | n + 1, x0, x1, x2, x3, x4, x5 => (T_impl_Less n x0 x1 x2 x3 x4 x5).run
theorem ft_impl_Less (n : Nat) (x0 : Int) (x1 : Int) (x2 : ByteArray) (x3 : Int) (x4 : Int) (x5 : ByteArray) : funT (CT_impl_Less n) (LT_impl_Less n) K_impl_Less (A_impl_Less x0 x1 x2 x3 x4 x5) = (T_impl_Less n x0 x1 x2 x3 x4 x5).bind fun r => .done (O_impl_Less r) := by kernel_rfl
theorem ct_impl_Less (n : Nat) : CTok (CT_impl_Less n) (runs KP lib n) := mkCT_cons (eo_impl_reckoned_of_impl_Less_1 n (noEnt_ok)) (mkCT_nil)
theorem th_impl_Less : ∀ (n : Nat) (x0 : Int) (x1 : Int) (x2 : ByteArray) (x3 : Int) (x4 : Int) (x5 : ByteArray) (r : Int × Int × ByteArray), F_impl_Less n x0 x1 x2 x3 x4 x5 = some r → runs KP lib n 66 (A_impl_Less x0 x1 x2 x3 x4 x5) [] = some ⟨O_impl_Less r, [], []⟩
  | 0, x0, x1, x2, x3, x4, x5, r, h => by cases h
  | n + 1, x0, x1, x2, x3, x4, x5, r, h => fun_step (kf := K_impl_Less) rfl (ct_impl_Less n) (noLoops rfl) (ft_impl_Less n x0 x1 x2 x3 x4 x5) h
def FH_impl_Less (n : Nat) : List (List (List Hv)) → Option (Int × Int × ByteArray)
  | [[[.i x0], [.i x1], [.s x2]], [[.i x3], [.i x4], [.s x5]]] => F_impl_Less n x0 x1 x2 x3 x4 x5
  | _ => none
def E_impl_Less (n : Nat) (d : List AV → Tr AV) : List AV → Tr AV := cent (A_impl_Less (0) (0) (⟨#[]⟩) (0) (0) (⟨#[]⟩)) (FH_impl_Less n) O_impl_Less d
theorem eo_impl_Less (n : Nat) {d : List AV → Tr AV} (hd : ∀ ar r, (d ar).run = some r → runs KP lib n 66 ar [] = some ⟨r, [], []⟩) : ∀ ar r, (E_impl_Less n d ar).run = some r → runs KP lib n 66 ar [] = some ⟨r, [], []⟩ :=
  cent_ok (fun hs r h => by
    unfold FH_impl_Less at h
    split at h
    · exact ⟨A_impl_Less _ _ _ _ _ _, rfl, th_impl_Less n _ _ _ _ _ _ r h⟩
    · cases h) hd
/-! ### impl.Negated -/
def A_impl_Negated (x0 : Int) (x1 : Int) (x2 : ByteArray) : List AV := [(.agg [(.p (.i .i64 x0)), (.p (.i .i64 x1)), (.p (.s x2))])]
def O_impl_Negated (r : Int × Int × ByteArray) : AV := (.agg [(.p (.i .i64 r.1)), (.p (.i .i64 r.2.1)), (.p (.s r.2.2))])
abbrev CT_impl_Negated (n : Nat) : CTab := mkCT [(66, E_impl_Less n (noEnt))]
abbrev LT_impl_Negated (n : Nat) : LTab := mkLT []
def T_impl_Negated (n : Nat) (x0 : Int) (x1 : Int) (x2 : ByteArray) : Tr (Int × Int × ByteArray) := (.opt (F_impl_Less n (0 : Int) (0 : Int) (⟨#[]⟩ : ByteArray) x0 x1 x2) fun r44 => (.done (r44.1, r44.2.1, r44.2.2)))
def F_impl_Negated : Nat → Int → Int → ByteArray → Option (Int × Int × ByteArray)
  | 0, _, _, _ => none
  | n + 1, x0, x1, x2 => (T_impl_Negated n x0 x1 x2).run
theorem ft_impl_Negated (n : Nat) (x0 : Int) (x1 : Int) (x2 : ByteArray) : funT (CT_impl_Negated n) (LT_impl_Negated n) K_impl_Negated (A_impl_Negated x0 x1 x2) = (T_impl_Negated n x0 x1 x2).bind fun r => .done (O_impl_Negated r) := by kernel_rfl
theorem ct_impl_Negated (n : Nat) : CTok (CT_impl_Negated n) (runs KP lib n) := mkCT_cons (eo_impl_Less n (noEnt_ok)) (mkCT_nil)
theorem th_impl_Negated : ∀ (n : Nat) (x0 : Int) (x1 : Int) (x2 : ByteArray) (r : Int × Int × ByteArray), F_impl_Negated n x0 x1 x2 = some r → runs KP lib n 47 (A_impl_Negated x0 x1 x2) [] = some ⟨O_impl_Negated r, [], []⟩
  | 0, x0, x1, x2, r, h => by cases h
  | n + 1, x0, x1, x2, r, h => fun_step (kf := K_impl_Negated) rfl (ct_impl_Negated n) (noLoops rfl) (ft_impl_Negated n x0 x1 x2) h
def FH_impl_Negated (n : Nat) : List (List (List Hv)) → Option (Int × Int × ByteArray)
  | [[[.i x0], [.i x1], [.s x2]]] => F_impl_Negated n x0 x1 x2
  | _ => none
def E_impl_Negated (n : Nat) (d : List AV → Tr AV) : List AV → Tr AV := cent (A_impl_Negated (0) (0) (⟨#[]⟩)) (FH_impl_Negated n) O_impl_Negated d
theorem eo_impl_Negated (n : Nat) {d : List AV → Tr AV} (hd : ∀ ar r, (d ar).run = some r → runs KP lib n 47 ar [] = some ⟨r, [], []⟩) : ∀ ar r, (E_impl_Negated n d ar).run = some r → runs KP lib n 47 ar [] = some ⟨r, [], []⟩ :=
  cent_ok (fun hs r h => by
    unfold FH_impl_Negated at h
    split at h
    · exact ⟨A_impl_Negated _ _ _, rfl, th_impl_Negated n _ _ _ r h⟩
    · cases h) hd
/-! ### laws.eqValue -/
def A_laws_eqValue (x0 : Int) (x1 : Int) (x2 : ByteArray) (x3 : Int) (x4 : Int) (x5 : ByteArray) : List AV := [(.agg [(.p (.i .i64 x0)), (.p (.i .i64 x1)), (.p (.s x2))]), (.agg [(.p (.i .i64 x3)), (.p (.i .i64 x4)), (.p (.s x5))])]
def O_laws_eqValue (r : Bool) : AV := (.c (.p (.b r)))
abbrev CT_laws_eqValue (n : Nat) : CTab := mkCT []
abbrev LT_laws_eqValue (n : Nat) : LTab := mkLT []
def T_laws_eqValue (n : Nat) (x0 : Int) (x1 : Int) (x2 : ByteArray) (x3 : Int) (x4 : Int) (x5 : ByteArray) : Tr (Bool) := (.ask ((x0 != x3)) (.done false) (.ask ((x1 != x4)) (.done false) (.ask ((!(x2.toList == x5.toList))) (.done false) (.done true))))
def F_laws_eqValue : Nat → Int → Int → ByteArray → Int → Int → ByteArray → Option (Bool)
  | 0, _, _, _, _, _, _ => none
  | n + 1, x0, x1, x2, x3, x4, x5 => (T_laws_eqValue n x0 x1 x2 x3 x4 x5).run
theorem ft_laws_eqValue (n : Nat) (x0 : Int) (x1 : Int) (x2 : ByteArray) (x3 : Int) (x4 : Int) (x5 : ByteArray) : funT (CT_laws_eqValue n) (LT_laws_eqValue n) K_laws_eqValue (A_laws_eqValue x0 x1 x2 x3 x4 x5) = (T_laws_eqValue n x0 x1 x2 x3 x4 x5).bind fun r => .done (O_laws_eqValue r) := by kernel_rfl
theorem ct_laws_eqValue (n : Nat) : CTok (CT_laws_eqValue n) (runs KP lib n) := mkCT_nil
theorem th_laws_eqValue : ∀ (n : Nat) (x0 : Int) (x1 : Int) (x2 : ByteArray) (x3 : Int) (x4 : Int) (x5 : ByteArray) (r : Bool), F_laws_eqValue n x0 x1 x2 x3 x4 x5 = some r → runs KP lib n 48 (A_laws_eqValue x0 x1 x2 x3 x4 x5) [] = some ⟨O_laws_eqValue r, [], []⟩
  | 0, x0, x1, x2, x3, x4, x5, r, h => by cases h
  | n + 1, x0, x1, x2, x3, x4, x5, r, h => fun_step (kf := K_laws_eqValue) rfl (ct_laws_eqValue n) (noLoops rfl) (ft_laws_eqValue n x0 x1 x2 x3 x4 x5) h
def FH_laws_eqValue (n : Nat) : List (List (List Hv)) → Option (Bool)
  | [[[.i x0], [.i x1], [.s x2]], [[.i x3], [.i x4], [.s x5]]] => F_laws_eqValue n x0 x1 x2 x3 x4 x5
  | _ => none
def E_laws_eqValue (n : Nat) (d : List AV → Tr AV) : List AV → Tr AV := cent (A_laws_eqValue (0) (0) (⟨#[]⟩) (0) (0) (⟨#[]⟩)) (FH_laws_eqValue n) O_laws_eqValue d
theorem eo_laws_eqValue (n : Nat) {d : List AV → Tr AV} (hd : ∀ ar r, (d ar).run = some r → runs KP lib n 48 ar [] = some ⟨r, [], []⟩) : ∀ ar r, (E_laws_eqValue n d ar).run = some r → runs KP lib n 48 ar [] = some ⟨r, [], []⟩ :=
  cent_ok (fun hs r h => by
    unfold FH_laws_eqValue at h
    split at h
    · exact ⟨A_laws_eqValue _ _ _ _ _ _, rfl, th_laws_eqValue n _ _ _ _ _ _ r h⟩
    · cases h) hd
/-! ### laws.FnExactNegated -/
def A_laws_FnExactNegated (x0 : Int) (x1 : Int) (x2 : ByteArray) : List AV := [(.agg [(.p (.i .i64 x0)), (.p (.i .i64 x1)), (.p (.s x2))])]
def O_laws_FnExactNegated (r : Bool) : AV := (.c (.p (.b r)))
abbrev CT_laws_FnExactNegated (n : Nat) : CTab := mkCT [(28, E_laws_szValue n (noEnt)), (30, E_laws_toValue n (noEnt)), (46, E_spec_Negated n (noEnt)), (47, E_impl_Negated n (noEnt)), (48, E_laws_eqValue n (noEnt))]
abbrev LT_laws_FnExactNegated (n : Nat) : LTab := mkLT []
def T_laws_FnExactNegated (n : Nat) (x0 : Int) (x1 : Int) (x2 : ByteArray) : Tr (Bool) := (.opt (F_laws_szValue n x0 x1 x2 (1048576 : Int)) fun r1 => (.ask ((decide (r1 < (0 : Int)))) (.done true) (.opt (F_laws_toValue n x0 x1 x2) fun r2 => (.opt (F_spec_Negated n r2.1 r2.2.1 r2.2.2) fun r19 => (.opt (F_laws_toValue n x0 x1 x2) fun r20 => (.opt (F_impl_Negated n r20.1 r20.2.1 r20.2.2) fun r45 => (.opt (F_laws_eqValue n r45.1 r45.2.1 r45.2.2 r19.1 r19.2.1 r19.2.2) fun r46 => (.ask ((!r46)) (.done false) (.done true)))))))))
def F_laws_FnExactNegated : Nat → Int → Int → ByteArray → Option (Bool)
  | 0, _, _, _ => none
  | n + 1, x0, x1, x2 => (T_laws_FnExactNegated n x0 x1 x2).run
theorem ft_laws_FnExactNegated (n : Nat) (x0 : Int) (x1 : Int) (x2 : ByteArray) : funT (CT_laws_FnExactNegated n) (LT_laws_FnExactNegated n) K_laws_FnExactNegated (A_laws_FnExactNegated x0 x1 x2) = (T_laws_FnExactNegated n x0 x1 x2).bind fun r => .done (O_laws_FnExactNegated r) := by kernel_rfl
theorem ct_laws_FnExactNegated (n : Nat) : CTok (CT_laws_FnExactNegated n) (runs KP lib n) := mkCT_cons (eo_laws_szValue n (noEnt_ok)) (mkCT_cons (eo_laws_toValue n (noEnt_ok)) (mkCT_cons (eo_spec_Negated n (noEnt_ok)) (mkCT_cons (eo_impl_Negated n (noEnt_ok)) (mkCT_cons (eo_laws_eqValue n (noEnt_ok)) (mkCT_nil)))))
theorem th_laws_FnExactNegated : ∀ (n : Nat) (x0 : Int) (x1 : Int) (x2 : ByteArray) (r : Bool), F_laws_FnExactNegated n x0 x1 x2 = some r → runs KP lib n 13 (A_laws_FnExactNegated x0 x1 x2) [] = some ⟨O_laws_FnExactNegated r, [], []⟩
  | 0, x0, x1, x2, r, h => by cases h
  | n + 1, x0, x1, x2, r, h => fun_step (kf := K_laws_FnExactNegated) rfl (ct_laws_FnExactNegated n) (noLoops rfl) (ft_laws_FnExactNegated n x0 x1 x2) h
def FH_laws_FnExactNegated (n : Nat) : List (List (List Hv)) → Option (Bool)
  | [[[.i x0], [.i x1], [.s x2]]] => F_laws_FnExactNegated n x0 x1 x2
  | _ => none
def E_laws_FnExactNegated (n : Nat) (d : List AV → Tr AV) : List AV → Tr AV := cent (A_laws_FnExactNegated (0) (0) (⟨#[]⟩)) (FH_laws_FnExactNegated n) O_laws_FnExactNegated d
theorem eo_laws_FnExactNegated (n : Nat) {d : List AV → Tr AV} (hd : ∀ ar r, (d ar).run = some r → runs KP lib n 13 ar [] = some ⟨r, [], []⟩) : ∀ ar r, (E_laws_FnExactNegated n d ar).run = some r → runs KP lib n 13 ar [] = some ⟨r, [], []⟩ :=
  cent_ok (fun hs r h => by
    unfold FH_laws_FnExactNegated at h
    split at h
    · exact ⟨A_laws_FnExactNegated _ _ _, rfl, th_laws_FnExactNegated n _ _ _ r h⟩
    · cases h) hd
end Go.Proofs.Ytoodcplobkflfaa.KFnExactNegated
