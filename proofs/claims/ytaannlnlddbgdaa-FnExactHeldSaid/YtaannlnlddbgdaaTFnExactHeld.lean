/-
  The trees of what FnExactHeld calls: plain functions, and that the engine reckons just these. No condition.
-/
import Derived.Test.YtaannlnlddbgdaaKFnExactHeld
import Derived.Test.YtaannlnlddbgdaaE31
import Derived.KernelRfl
namespace Go.Proofs.Ytaannlnlddbgdaa.KFnExactHeld
open Go.Eng
set_option linter.unusedVariables false
set_option maxRecDepth 100000
def lib : FuncId → List AV → Option AV := fun _ _ => none
/-! ### laws.szValue -/
def A_laws_szValue (x0 : Int) (x1 : Int) (x2 : ByteArray) (x3 : Int) : List AV := [(.agg [(.p (.i .i64 x0)), (.p (.i .i64 x1)), (.p (.s x2))]), (.c (.p (.i .i64 x3)))]
def O_laws_szValue (r : Int) : AV := (.c (.p (.i .i64 r)))
abbrev CT_laws_szValue (n : Nat) : CTab := mkCT []
abbrev LT_laws_szValue (n : Nat) : LTab := mkLT []
def T_laws_szValue (n : Nat) (x0 : Int) (x1 : Int) (x2 : ByteArray) (x3 : Int) : Tr (Int) := (.ask ((decide ((IntKind.i64.wrap (x3 - (x2.size : Int))) < (0 : Int)))) (.done (-1 : Int)) (.done (IntKind.i64.wrap (x3 - (x2.size : Int)))))
def F_laws_szValue : Nat → Int → Int → ByteArray → Int → Option (Int)
  | 0, _, _, _, _ => none
  | n + 1, x0, x1, x2, x3 => (T_laws_szValue n x0 x1 x2 x3).run
theorem ft_laws_szValue (n : Nat) (x0 : Int) (x1 : Int) (x2 : ByteArray) (x3 : Int) : funT (CT_laws_szValue n) (LT_laws_szValue n) K_laws_szValue (A_laws_szValue x0 x1 x2 x3) = (T_laws_szValue n x0 x1 x2 x3).bind fun r => .done (O_laws_szValue r) := by kernel_rfl
theorem ct_laws_szValue (n : Nat) : CTok (CT_laws_szValue n) (runs KP lib n) := mkCT_nil
theorem th_laws_szValue : ∀ (n : Nat) (x0 : Int) (x1 : Int) (x2 : ByteArray) (x3 : Int) (r : Int), F_laws_szValue n x0 x1 x2 x3 = some r → runs KP lib n 11 (A_laws_szValue x0 x1 x2 x3) [] = some ⟨O_laws_szValue r, [], []⟩
  | 0, x0, x1, x2, x3, r, h => by cases h
  | n + 1, x0, x1, x2, x3, r, h => fun_step (kf := K_laws_szValue) rfl (ct_laws_szValue n) (noLoops rfl) (ft_laws_szValue n x0 x1 x2 x3) h
def FH_laws_szValue (n : Nat) : List (List (List Hv)) → Option (Int)
  | [[[.i x0], [.i x1], [.s x2]], [[.i x3]]] => F_laws_szValue n x0 x1 x2 x3
  | _ => none
def E_laws_szValue (n : Nat) (d : List AV → Tr AV) : List AV → Tr AV := cent (A_laws_szValue (0) (0) (⟨#[]⟩) (0)) (FH_laws_szValue n) O_laws_szValue d
theorem eo_laws_szValue (n : Nat) {d : List AV → Tr AV} (hd : ∀ ar r, (d ar).run = some r → runs KP lib n 11 ar [] = some ⟨r, [], []⟩) : ∀ ar r, (E_laws_szValue n d ar).run = some r → runs KP lib n 11 ar [] = some ⟨r, [], []⟩ :=
  cent_ok (fun hs r h => by
    unfold FH_laws_szValue at h
    split at h
    · exact ⟨A_laws_szValue _ _ _ _, rfl, th_laws_szValue n _ _ _ _ r h⟩
    · cases h) hd
/-! ### laws.toValue -/
def A_laws_toValue (x0 : Int) (x1 : Int) (x2 : ByteArray) : List AV := [(.agg [(.p (.i .i64 x0)), (.p (.i .i64 x1)), (.p (.s x2))])]
def O_laws_toValue (r : Int × Int × ByteArray) : AV := (.agg [(.p (.i .i64 r.1)), (.p (.i .i64 r.2.1)), (.p (.s r.2.2))])
abbrev CT_laws_toValue (n : Nat) : CTab := mkCT []
abbrev LT_laws_toValue (n : Nat) : LTab := mkLT []
def T_laws_toValue (n : Nat) (x0 : Int) (x1 : Int) (x2 : ByteArray) : Tr (Int × Int × ByteArray) := (.done (x0, x1, x2))
def F_laws_toValue : Nat → Int → Int → ByteArray → Option (Int × Int × ByteArray)
  | 0, _, _, _ => none
  | n + 1, x0, x1, x2 => (T_laws_toValue n x0 x1 x2).run
theorem ft_laws_toValue (n : Nat) (x0 : Int) (x1 : Int) (x2 : ByteArray) : funT (CT_laws_toValue n) (LT_laws_toValue n) K_laws_toValue (A_laws_toValue x0 x1 x2) = (T_laws_toValue n x0 x1 x2).bind fun r => .done (O_laws_toValue r) := by kernel_rfl
theorem ct_laws_toValue (n : Nat) : CTok (CT_laws_toValue n) (runs KP lib n) := mkCT_nil
theorem th_laws_toValue : ∀ (n : Nat) (x0 : Int) (x1 : Int) (x2 : ByteArray) (r : Int × Int × ByteArray), F_laws_toValue n x0 x1 x2 = some r → runs KP lib n 13 (A_laws_toValue x0 x1 x2) [] = some ⟨O_laws_toValue r, [], []⟩
  | 0, x0, x1, x2, r, h => by cases h
  | n + 1, x0, x1, x2, r, h => fun_step (kf := K_laws_toValue) rfl (ct_laws_toValue n) (noLoops rfl) (ft_laws_toValue n x0 x1 x2) h
def FH_laws_toValue (n : Nat) : List (List (List Hv)) → Option (Int × Int × ByteArray)
  | [[[.i x0], [.i x1], [.s x2]]] => F_laws_toValue n x0 x1 x2
  | _ => none
def E_laws_toValue (n : Nat) (d : List AV → Tr AV) : List AV → Tr AV := cent (A_laws_toValue (0) (0) (⟨#[]⟩)) (FH_laws_toValue n) O_laws_toValue d
theorem eo_laws_toValue (n : Nat) {d : List AV → Tr AV} (hd : ∀ ar r, (d ar).run = some r → runs KP lib n 13 ar [] = some ⟨r, [], []⟩) : ∀ ar r, (E_laws_toValue n d ar).run = some r → runs KP lib n 13 ar [] = some ⟨r, [], []⟩ :=
  cent_ok (fun hs r h => by
    unfold FH_laws_toValue at h
    split at h
    · exact ⟨A_laws_toValue _ _ _, rfl, th_laws_toValue n _ _ _ r h⟩
    · cases h) hd
/-! ### spec.l1In -/
def A_spec_l1In (x0 : Int) (x1 : Int) (x2 : Int) : List AV := [(.c (.p (.i .i64 x0))), (.c (.p (.i .i64 x1))), (.c (.p (.i .i64 x2)))]
def O_spec_l1In (r : Bool) : AV := (.c (.p (.b r)))
abbrev CT_spec_l1In (n : Nat) : CTab := mkCT []
abbrev LT_spec_l1In (n : Nat) : LTab := mkLT []
def T_spec_l1In (n : Nat) (x0 : Int) (x1 : Int) (x2 : Int) : Tr (Bool) := (.ask ((decide (x0 ≥ x1))) (.done (decide (x0 ≤ x2))) (.done false))
def F_spec_l1In : Nat → Int → Int → Int → Option (Bool)
  | 0, _, _, _ => none
  | n + 1, x0, x1, x2 => (T_spec_l1In n x0 x1 x2).run
theorem ft_spec_l1In (n : Nat) (x0 : Int) (x1 : Int) (x2 : Int) : funT (CT_spec_l1In n) (LT_spec_l1In n) K_spec_l1In (A_spec_l1In x0 x1 x2) = (T_spec_l1In n x0 x1 x2).bind fun r => .done (O_spec_l1In r) := by kernel_rfl
theorem ct_spec_l1In (n : Nat) : CTok (CT_spec_l1In n) (runs KP lib n) := mkCT_nil
theorem th_spec_l1In : ∀ (n : Nat) (x0 : Int) (x1 : Int) (x2 : Int) (r : Bool), F_spec_l1In n x0 x1 x2 = some r → runs KP lib n 44 (A_spec_l1In x0 x1 x2) [] = some ⟨O_spec_l1In r, [], []⟩
  | 0, x0, x1, x2, r, h => by cases h
  | n + 1, x0, x1, x2, r, h => fun_step (kf := K_spec_l1In) rfl (ct_spec_l1In n) (noLoops rfl) (ft_spec_l1In n x0 x1 x2) h
def FH_spec_l1In (n : Nat) : List (List (List Hv)) → Option (Bool)
  | [[[.i x0]], [[.i x1]], [[.i x2]]] => F_spec_l1In n x0 x1 x2
  | _ => none
def E_spec_l1In (n : Nat) (d : List AV → Tr AV) : List AV → Tr AV := cent (A_spec_l1In (0) (0) (0)) (FH_spec_l1In n) O_spec_l1In d
theorem eo_spec_l1In (n : Nat) {d : List AV → Tr AV} (hd : ∀ ar r, (d ar).run = some r → runs KP lib n 44 ar [] = some ⟨r, [], []⟩) : ∀ ar r, (E_spec_l1In n d ar).run = some r → runs KP lib n 44 ar [] = some ⟨r, [], []⟩ :=
  cent_ok (fun hs r h => by
    unfold FH_spec_l1In at h
    split at h
    · exact ⟨A_spec_l1In _ _ _, rfl, th_spec_l1In n _ _ _ r h⟩
    · cases h) hd
/-! ### spec.l2Plain -/
def A_spec_l2Plain (x0 : ByteArray) : List AV := [(.c (.p (.s x0)))]
def O_spec_l2Plain (r : Bool) : AV := (.c (.p (.b r)))
abbrev CT_spec_l2Plain (n : Nat) : CTab := mkCT []
def S_spec_l2Plain_13 (v : ByteArray × Int) : St := ⟨[(0, (.c (.p (.s v.1)))), (3, (.c (.p (.i .i64 v.2))))], [], []⟩
def B_spec_l2Plain_13 (n : Nat) (v : ByteArray × Int) : Tr ((ByteArray × Int) ⊕ ((Bool) ⊕ (ByteArray))) := (.ask ((decide (v.2 < (v.1.size : Int)))) (.ask (decide (0 ≤ v.2)) (.opt (v.1.toList[(v.2).toNat]?) fun c6 => (.ask ((decide ((c6.toNat : Int) < (32 : Int)))) (.done (.inr (.inl (false)))) (.ask (decide (0 ≤ v.2)) (.opt (v.1.toList[(v.2).toNat]?) fun c7 => (.ask ((decide ((c7.toNat : Int) > (126 : Int)))) (.done (.inr (.inl (false)))) (.done (.inl (v.1, (IntKind.i64.wrap (v.2 + (1 : Int)))))))) .fail))) .fail) (.done (.inr (.inr (v.1)))))
def D_spec_l2Plain_13 : ((Bool) ⊕ (ByteArray)) → Ex × St := fun | .inl r => (.ret, ⟨[(2, (.c (.p (.b r))))], [], []⟩) | .inr r => (fun r => ((.exit 0), ⟨[(0, (.c (.p (.s r))))], [], []⟩)) r
def DT_spec_l2Plain_13 : ((Bool) ⊕ (ByteArray)) → Tr (Ex × St) := fun r => .alt r (fun r => .done (.ret, ⟨[(2, (.c (.p (.b r))))], [], []⟩)) (fun r => .done ((.exit 0), ⟨[(0, (.c (.p (.s r))))], [], []⟩))
def VH_spec_l2Plain_13 : List (List (List Hv)) × List (List (List Hv)) → Option (ByteArray × Int)
  | ([[[.s w0]], [[.i w1]]], []) => some (w0, w1)
  | _ => none
abbrev LE_spec_l2Plain_13 (n : Nat) : St → Tr (Ex × St) := lent (S_spec_l2Plain_13 (⟨#[]⟩, 0)) VH_spec_l2Plain_13 (B_spec_l2Plain_13 n) DT_spec_l2Plain_13 n
abbrev LT_spec_l2Plain (n : Nat) : LTab := mkLT [(13, LE_spec_l2Plain_13 n)]
def T_spec_l2Plain (n : Nat) (x0 : ByteArray) : Tr (Bool) := (.opt (loopF (B_spec_l2Plain_13 n) n (x0, (0 : Int))) fun r8 => (.alt r8 (fun r9 => (.done r9)) (fun r10 => (.done (decide ((r10.size : Int) ≤ (200 : Int)))))))
def F_spec_l2Plain : Nat → ByteArray → Option (Bool)
  | 0, _ => none
  | n + 1, x0 => (T_spec_l2Plain n x0).run
theorem ft_spec_l2Plain (n : Nat) (x0 : ByteArray) : funT (CT_spec_l2Plain n) (LT_spec_l2Plain n) K_spec_l2Plain (A_spec_l2Plain x0) = (T_spec_l2Plain n x0).bind fun r => .done (O_spec_l2Plain r) := by kernel_rfl
theorem ct_spec_l2Plain (n : Nat) : CTok (CT_spec_l2Plain n) (runs KP lib n) := mkCT_nil
theorem lt_spec_l2Plain_13 (n : Nat) (v : ByteArray × Int) : (evalCT (CT_spec_l2Plain n) (mkLT []) K_spec_l2Plain_L13 (S_spec_l2Plain_13 v) []).bind (ltail [0, 3] [(.ret, [2]), ((.exit 0), [0])]) = (B_spec_l2Plain_13 n v).bind (lenc S_spec_l2Plain_13 D_spec_l2Plain_13) := by
  obtain ⟨w0, w1⟩ := v
  kernel_rfl
theorem le_spec_l2Plain_13 (n : Nat) : LEok (runs KP lib n) n (13, [0, 3], [(.ret, [2]), ((.exit 0), [0])], K_spec_l2Plain_L13) (LE_spec_l2Plain_13 n) := fun st e s h =>
  lent_ok (ct_spec_l2Plain n) (noLoops rfl) (lt_spec_l2Plain_13 n) (fun r => by
    rcases r with r | r <;> (intro h; cases h)) (fun r y h => by
    rcases r with r | r <;> (cases h; rfl)) (fun hs v h => by
    unfold VH_spec_l2Plain_13 at h
    split at h <;> cases h
    rfl) h
theorem lo_spec_l2Plain (n : Nat) : LTok (LT_spec_l2Plain n) (runs KP lib n) n K_spec_l2Plain.body := mkLT_ok (by
  intro x hx
  have hx : x ∈ ([(13, [0, 3], [(.ret, [2]), ((.exit 0), [0])], K_spec_l2Plain_L13)] : List (Nat × List Nat × List (Ex × List Nat) × KCode)) := hx
  simp only [List.mem_cons, List.not_mem_nil, or_false] at hx
  rcases hx with rfl
  · exact ⟨LE_spec_l2Plain_13 n, fun st => rfl, le_spec_l2Plain_13 n⟩)
theorem th_spec_l2Plain : ∀ (n : Nat) (x0 : ByteArray) (r : Bool), F_spec_l2Plain n x0 = some r → runs KP lib n 57 (A_spec_l2Plain x0) [] = some ⟨O_spec_l2Plain r, [], []⟩
  | 0, x0, r, h => by cases h
  | n + 1, x0, r, h => fun_step (kf := K_spec_l2Plain) rfl (ct_spec_l2Plain n) (lo_spec_l2Plain n) (ft_spec_l2Plain n x0) h
def FH_spec_l2Plain (n : Nat) : List (List (List Hv)) → Option (Bool)
  | [[[.s x0]]] => F_spec_l2Plain n x0
  | _ => none
def E_spec_l2Plain (n : Nat) (d : List AV → Tr AV) : List AV → Tr AV := cent (A_spec_l2Plain (⟨#[]⟩)) (FH_spec_l2Plain n) O_spec_l2Plain d
theorem eo_spec_l2Plain (n : Nat) {d : List AV → Tr AV} (hd : ∀ ar r, (d ar).run = some r → runs KP lib n 57 ar [] = some ⟨r, [], []⟩) : ∀ ar r, (E_spec_l2Plain n d ar).run = some r → runs KP lib n 57 ar [] = some ⟨r, [], []⟩ :=
  cent_ok (fun hs r h => by
    unfold FH_spec_l2Plain at h
    split at h
    · exact ⟨A_spec_l2Plain _, rfl, th_spec_l2Plain n _ r h⟩
    · cases h) hd
/-! ### spec.ValueOk -/
def A_spec_ValueOk (x0 : Int) (x1 : Int) (x2 : ByteArray) : List AV := [(.agg [(.p (.i .i64 x0)), (.p (.i .i64 x1)), (.p (.s x2))])]
def O_spec_ValueOk (r : Bool) : AV := (.c (.p (.b r)))
abbrev CT_spec_ValueOk (n : Nat) : CTab := mkCT [(44, E_spec_l1In n (noEnt)), (57, E_spec_l2Plain n (noEnt))]
abbrev LT_spec_ValueOk (n : Nat) : LTab := mkLT []
def T_spec_ValueOk (n : Nat) (x0 : Int) (x1 : Int) (x2 : ByteArray) : Tr (Bool) := (.ask ((x0 == (0 : Int))) (.ask ((x1 == (0 : Int))) (.done (x2.toList == (⟨#[]⟩ : ByteArray).toList)) (.done false)) (.ask ((x0 == (1 : Int))) (.opt (F_spec_l1In n x1 (-1000000000000000 : Int) (1000000000000000 : Int)) fun r5 => (.ask (r5) (.done (x2.toList == (⟨#[]⟩ : ByteArray).toList)) (.done false))) (.ask ((x0 == (2 : Int))) (.ask ((x1 == (0 : Int))) (.opt (F_spec_l2Plain n x2) fun r11 => (.done r11)) (.done false)) (.ask ((x0 == (3 : Int))) (.opt (F_spec_l1In n x1 (0 : Int) (1 : Int)) fun r12 => (.ask (r12) (.done (x2.toList == (⟨#[]⟩ : ByteArray).toList)) (.done false))) (.ask ((x0 == (4 : Int))) (.opt (F_spec_l1In n x1 (1 : Int) (5 : Int)) fun r13 => (.ask (r13) (.done (x2.toList == (⟨#[]⟩ : ByteArray).toList)) (.done false))) (.done false))))))
def F_spec_ValueOk : Nat → Int → Int → ByteArray → Option (Bool)
  | 0, _, _, _ => none
  | n + 1, x0, x1, x2 => (T_spec_ValueOk n x0 x1 x2).run
theorem ft_spec_ValueOk (n : Nat) (x0 : Int) (x1 : Int) (x2 : ByteArray) : funT (CT_spec_ValueOk n) (LT_spec_ValueOk n) K_spec_ValueOk (A_spec_ValueOk x0 x1 x2) = (T_spec_ValueOk n x0 x1 x2).bind fun r => .done (O_spec_ValueOk r) := by kernel_rfl
theorem ct_spec_ValueOk (n : Nat) : CTok (CT_spec_ValueOk n) (runs KP lib n) := mkCT_cons (eo_spec_l1In n (noEnt_ok)) (mkCT_cons (eo_spec_l2Plain n (noEnt_ok)) (mkCT_nil))
theorem th_spec_ValueOk : ∀ (n : Nat) (x0 : Int) (x1 : Int) (x2 : ByteArray) (r : Bool), F_spec_ValueOk n x0 x1 x2 = some r → runs KP lib n 28 (A_spec_ValueOk x0 x1 x2) [] = some ⟨O_spec_ValueOk r, [], []⟩
  | 0, x0, x1, x2, r, h => by cases h
  | n + 1, x0, x1, x2, r, h => fun_step (kf := K_spec_ValueOk) rfl (ct_spec_ValueOk n) (noLoops rfl) (ft_spec_ValueOk n x0 x1 x2) h
def FH_spec_ValueOk (n : Nat) : List (List (List Hv)) → Option (Bool)
  | [[[.i x0], [.i x1], [.s x2]]] => F_spec_ValueOk n x0 x1 x2
  | _ => none
def E_spec_ValueOk (n : Nat) (d : List AV → Tr AV) : List AV → Tr AV := cent (A_spec_ValueOk (0) (0) (⟨#[]⟩)) (FH_spec_ValueOk n) O_spec_ValueOk d
theorem eo_spec_ValueOk (n : Nat) {d : List AV → Tr AV} (hd : ∀ ar r, (d ar).run = some r → runs KP lib n 28 ar [] = some ⟨r, [], []⟩) : ∀ ar r, (E_spec_ValueOk n d ar).run = some r → runs KP lib n 28 ar [] = some ⟨r, [], []⟩ :=
  cent_ok (fun hs r h => by
    unfold FH_spec_ValueOk at h
    split at h
    · exact ⟨A_spec_ValueOk _ _ _, rfl, th_spec_ValueOk n _ _ _ r h⟩
    · cases h) hd
/-! ### spec.l2Error -/
def A_spec_l2Error (x0 : Int) : List AV := [(.c (.p (.i .i64 x0)))]
def O_spec_l2Error (r : Int × Int × ByteArray) : AV := (.agg [(.p (.i .i64 r.1)), (.p (.i .i64 r.2.1)), (.p (.s r.2.2))])
abbrev CT_spec_l2Error (n : Nat) : CTab := mkCT []
abbrev LT_spec_l2Error (n : Nat) : LTab := mkLT []
def T_spec_l2Error (n : Nat) (x0 : Int) : Tr (Int × Int × ByteArray) := (.done ((4 : Int), x0, (⟨#[]⟩ : ByteArray)))
def F_spec_l2Error : Nat → Int → Option (Int × Int × ByteArray)
  | 0, _ => none
  | n + 1, x0 => (T_spec_l2Error n x0).run
theorem ft_spec_l2Error (n : Nat) (x0 : Int) : funT (CT_spec_l2Error n) (LT_spec_l2Error n) K_spec_l2Error (A_spec_l2Error x0) = (T_spec_l2Error n x0).bind fun r => .done (O_spec_l2Error r) := by kernel_rfl
theorem ct_spec_l2Error (n : Nat) : CTok (CT_spec_l2Error n) (runs KP lib n) := mkCT_nil
theorem th_spec_l2Error : ∀ (n : Nat) (x0 : Int) (r : Int × Int × ByteArray), F_spec_l2Error n x0 = some r → runs KP lib n 40 (A_spec_l2Error x0) [] = some ⟨O_spec_l2Error r, [], []⟩
  | 0, x0, r, h => by cases h
  | n + 1, x0, r, h => fun_step (kf := K_spec_l2Error) rfl (ct_spec_l2Error n) (noLoops rfl) (ft_spec_l2Error n x0) h
def FH_spec_l2Error (n : Nat) : List (List (List Hv)) → Option (Int × Int × ByteArray)
  | [[[.i x0]]] => F_spec_l2Error n x0
  | _ => none
def E_spec_l2Error (n : Nat) (d : List AV → Tr AV) : List AV → Tr AV := cent (A_spec_l2Error (0)) (FH_spec_l2Error n) O_spec_l2Error d
theorem eo_spec_l2Error (n : Nat) {d : List AV → Tr AV} (hd : ∀ ar r, (d ar).run = some r → runs KP lib n 40 ar [] = some ⟨r, [], []⟩) : ∀ ar r, (E_spec_l2Error n d ar).run = some r → runs KP lib n 40 ar [] = some ⟨r, [], []⟩ :=
  cent_ok (fun hs r h => by
    unfold FH_spec_l2Error at h
    split at h
    · exact ⟨A_spec_l2Error _, rfl, th_spec_l2Error n _ r h⟩
    · cases h) hd
/-! ### spec.l2Like -/
def A_spec_l2Like (x0 : Int) (x1 : Int) (x2 : ByteArray) (x3 : Int) (x4 : Int) (x5 : ByteArray) : List AV := [(.agg [(.p (.i .i64 x0)), (.p (.i .i64 x1)), (.p (.s x2))]), (.agg [(.p (.i .i64 x3)), (.p (.i .i64 x4)), (.p (.s x5))])]
def O_spec_l2Like (r : Int × Int × ByteArray) : AV := (.agg [(.p (.i .i64 r.1)), (.p (.i .i64 r.2.1)), (.p (.s r.2.2))])
abbrev CT_spec_l2Like (n : Nat) : CTab := mkCT []
abbrev LT_spec_l2Like (n : Nat) : LTab := mkLT []
def T_spec_l2Like (n : Nat) (x0 : Int) (x1 : Int) (x2 : ByteArray) (x3 : Int) (x4 : Int) (x5 : ByteArray) : Tr (Int × Int × ByteArray) := (.ask ((x0 == (0 : Int))) (.done (x3, x1, x2)) (.done (x0, x1, x2)))
def F_spec_l2Like : Nat → Int → Int → ByteArray → Int → Int → ByteArray → Option (Int × Int × ByteArray)
  | 0, _, _, _, _, _, _ => none
  | n + 1, x0, x1, x2, x3, x4, x5 => (T_spec_l2Like n x0 x1 x2 x3 x4 x5).run
theorem ft_spec_l2Like (n : Nat) (x0 : Int) (x1 : Int) (x2 : ByteArray) (x3 : Int) (x4 : Int) (x5 : ByteArray) : funT (CT_spec_l2Like n) (LT_spec_l2Like n) K_spec_l2Like (A_spec_l2Like x0 x1 x2 x3 x4 x5) = (T_spec_l2Like n x0 x1 x2 x3 x4 x5).bind fun r => .done (O_spec_l2Like r) := by kernel_rfl
theorem ct_spec_l2Like (n : Nat) : CTok (CT_spec_l2Like n) (runs KP lib n) := mkCT_nil
theorem th_spec_l2Like : ∀ (n : Nat) (x0 : Int) (x1 : Int) (x2 : ByteArray) (x3 : Int) (x4 : Int) (x5 : ByteArray) (r : Int × Int × ByteArray), F_spec_l2Like n x0 x1 x2 x3 x4 x5 = some r → runs KP lib n 45 (A_spec_l2Like x0 x1 x2 x3 x4 x5) [] = some ⟨O_spec_l2Like r, [], []⟩
  | 0, x0, x1, x2, x3, x4, x5, r, h => by cases h
  | n + 1, x0, x1, x2, x3, x4, x5, r, h => fun_step (kf := K_spec_l2Like) rfl (ct_spec_l2Like n) (noLoops rfl) (ft_spec_l2Like n x0 x1 x2 x3 x4 x5) h
def FH_spec_l2Like (n : Nat) : List (List (List Hv)) → Option (Int × Int × ByteArray)
  | [[[.i x0], [.i x1], [.s x2]], [[.i x3], [.i x4], [.s x5]]] => F_spec_l2Like n x0 x1 x2 x3 x4 x5
  | _ => none
def E_spec_l2Like (n : Nat) (d : List AV → Tr AV) : List AV → Tr AV := cent (A_spec_l2Like (0) (0) (⟨#[]⟩) (0) (0) (⟨#[]⟩)) (FH_spec_l2Like n) O_spec_l2Like d
theorem eo_spec_l2Like (n : Nat) {d : List AV → Tr AV} (hd : ∀ ar r, (d ar).run = some r → runs KP lib n 45 ar [] = some ⟨r, [], []⟩) : ∀ ar r, (E_spec_l2Like n d ar).run = some r → runs KP lib n 45 ar [] = some ⟨r, [], []⟩ :=
  cent_ok (fun hs r h => by
    unfold FH_spec_l2Like at h
    split at h
    · exact ⟨A_spec_l2Like _ _ _ _ _ _, rfl, th_spec_l2Like n _ _ _ _ _ _ r h⟩
    · cases h) hd
/-! ### spec.l2Sign -/
def A_spec_l2Sign (x0 : Bool) (x1 : Bool) : List AV := [(.c (.p (.b x0))), (.c (.p (.b x1)))]
def O_spec_l2Sign (r : Int) : AV := (.c (.p (.i .i64 r)))
abbrev CT_spec_l2Sign (n : Nat) : CTab := mkCT []
abbrev LT_spec_l2Sign (n : Nat) : LTab := mkLT []
def T_spec_l2Sign (n : Nat) (x0 : Bool) (x1 : Bool) : Tr (Int) := (.ask (x0) (.done (-1 : Int)) (.ask (x1) (.done (1 : Int)) (.done (0 : Int))))
def F_spec_l2Sign : Nat → Bool → Bool → Option (Int)
  | 0, _, _ => none
  | n + 1, x0, x1 => (T_spec_l2Sign n x0 x1).run
theorem ft_spec_l2Sign (n : Nat) (x0 : Bool) (x1 : Bool) : funT (CT_spec_l2Sign n) (LT_spec_l2Sign n) K_spec_l2Sign (A_spec_l2Sign x0 x1) = (T_spec_l2Sign n x0 x1).bind fun r => .done (O_spec_l2Sign r) := by kernel_rfl
theorem ct_spec_l2Sign (n : Nat) : CTok (CT_spec_l2Sign n) (runs KP lib n) := mkCT_nil
theorem th_spec_l2Sign : ∀ (n : Nat) (x0 : Bool) (x1 : Bool) (r : Int), F_spec_l2Sign n x0 x1 = some r → runs KP lib n 56 (A_spec_l2Sign x0 x1) [] = some ⟨O_spec_l2Sign r, [], []⟩
  | 0, x0, x1, r, h => by cases h
  | n + 1, x0, x1, r, h => fun_step (kf := K_spec_l2Sign) rfl (ct_spec_l2Sign n) (noLoops rfl) (ft_spec_l2Sign n x0 x1) h
def FH_spec_l2Sign (n : Nat) : List (List (List Hv)) → Option (Int)
  | [[[.b x0]], [[.b x1]]] => F_spec_l2Sign n x0 x1
  | _ => none
def E_spec_l2Sign (n : Nat) (d : List AV → Tr AV) : List AV → Tr AV := cent (A_spec_l2Sign (false) (false)) (FH_spec_l2Sign n) O_spec_l2Sign d
theorem eo_spec_l2Sign (n : Nat) {d : List AV → Tr AV} (hd : ∀ ar r, (d ar).run = some r → runs KP lib n 56 ar [] = some ⟨r, [], []⟩) : ∀ ar r, (E_spec_l2Sign n d ar).run = some r → runs KP lib n 56 ar [] = some ⟨r, [], []⟩ :=
  cent_ok (fun hs r h => by
    unfold FH_spec_l2Sign at h
    split at h
    · exact ⟨A_spec_l2Sign _ _, rfl, th_spec_l2Sign n _ _ r h⟩
    · cases h) hd
/-! ### spec.Order -/
def A_spec_Order (x0 : Int) (x1 : Int) (x2 : ByteArray) (x3 : Int) (x4 : Int) (x5 : ByteArray) : List AV := [(.agg [(.p (.i .i64 x0)), (.p (.i .i64 x1)), (.p (.s x2))]), (.agg [(.p (.i .i64 x3)), (.p (.i .i64 x4)), (.p (.s x5))])]
def O_spec_Order (r : Int) : AV := (.c (.p (.i .i64 r)))
abbrev CT_spec_Order (n : Nat) : CTab := mkCT [(56, E_spec_l2Sign n (noEnt))]
abbrev LT_spec_Order (n : Nat) : LTab := mkLT []
def T_spec_Order (n : Nat) (x0 : Int) (x1 : Int) (x2 : ByteArray) (x3 : Int) (x4 : Int) (x5 : ByteArray) : Tr (Int) := (.ask ((x0 != x3)) (.opt (F_spec_l2Sign n (decide (x0 < x3)) true) fun r22 => (.done r22)) (.ask ((x1 != x4)) (.opt (F_spec_l2Sign n (decide (x1 < x4)) true) fun r23 => (.done r23)) (.opt (F_spec_l2Sign n (Op.bytesLess x2.toList x5.toList) (!(Op.bytesLess x2.toList x5.toList || x2.toList == x5.toList))) fun r24 => (.done r24))))
def F_spec_Order : Nat → Int → Int → ByteArray → Int → Int → ByteArray → Option (Int)
  | 0, _, _, _, _, _, _ => none
  | n + 1, x0, x1, x2, x3, x4, x5 => (T_spec_Order n x0 x1 x2 x3 x4 x5).run
theorem ft_spec_Order (n : Nat) (x0 : Int) (x1 : Int) (x2 : ByteArray) (x3 : Int) (x4 : Int) (x5 : ByteArray) : funT (CT_spec_Order n) (LT_spec_Order n) K_spec_Order (A_spec_Order x0 x1 x2 x3 x4 x5) = (T_spec_Order n x0 x1 x2 x3 x4 x5).bind fun r => .done (O_spec_Order r) := by kernel_rfl
theorem ct_spec_Order (n : Nat) : CTok (CT_spec_Order n) (runs KP lib n) := mkCT_cons (eo_spec_l2Sign n (noEnt_ok)) (mkCT_nil)
theorem th_spec_Order : ∀ (n : Nat) (x0 : Int) (x1 : Int) (x2 : ByteArray) (x3 : Int) (x4 : Int) (x5 : ByteArray) (r : Int), F_spec_Order n x0 x1 x2 x3 x4 x5 = some r → runs KP lib n 26 (A_spec_Order x0 x1 x2 x3 x4 x5) [] = some ⟨O_spec_Order r, [], []⟩
  | 0, x0, x1, x2, x3, x4, x5, r, h => by cases h
  | n + 1, x0, x1, x2, x3, x4, x5, r, h => fun_step (kf := K_spec_Order) rfl (ct_spec_Order n) (noLoops rfl) (ft_spec_Order n x0 x1 x2 x3 x4 x5) h
def FH_spec_Order (n : Nat) : List (List (List Hv)) → Option (Int)
  | [[[.i x0], [.i x1], [.s x2]], [[.i x3], [.i x4], [.s x5]]] => F_spec_Order n x0 x1 x2 x3 x4 x5
  | _ => none
def E_spec_Order (n : Nat) (d : List AV → Tr AV) : List AV → Tr AV := cent (A_spec_Order (0) (0) (⟨#[]⟩) (0) (0) (⟨#[]⟩)) (FH_spec_Order n) O_spec_Order d
theorem eo_spec_Order (n : Nat) {d : List AV → Tr AV} (hd : ∀ ar r, (d ar).run = some r → runs KP lib n 26 ar [] = some ⟨r, [], []⟩) : ∀ ar r, (E_spec_Order n d ar).run = some r → runs KP lib n 26 ar [] = some ⟨r, [], []⟩ :=
  cent_ok (fun hs r h => by
    unfold FH_spec_Order at h
    split at h
    · exact ⟨A_spec_Order _ _ _ _ _ _, rfl, th_spec_Order n _ _ _ _ _ _ r h⟩
    · cases h) hd
/-! ### spec.l2Flag -/
def A_spec_l2Flag (x0 : Bool) : List AV := [(.c (.p (.b x0)))]
def O_spec_l2Flag (r : Int × Int × ByteArray) : AV := (.agg [(.p (.i .i64 r.1)), (.p (.i .i64 r.2.1)), (.p (.s r.2.2))])
abbrev CT_spec_l2Flag (n : Nat) : CTab := mkCT []
abbrev LT_spec_l2Flag (n : Nat) : LTab := mkLT []
def T_spec_l2Flag (n : Nat) (x0 : Bool) : Tr (Int × Int × ByteArray) := (.ask (x0) (.done ((3 : Int), (1 : Int), (⟨#[]⟩ : ByteArray))) (.done ((3 : Int), (0 : Int), (⟨#[]⟩ : ByteArray))))
def F_spec_l2Flag : Nat → Bool → Option (Int × Int × ByteArray)
  | 0, _ => none
  | n + 1, x0 => (T_spec_l2Flag n x0).run
theorem ft_spec_l2Flag (n : Nat) (x0 : Bool) : funT (CT_spec_l2Flag n) (LT_spec_l2Flag n) K_spec_l2Flag (A_spec_l2Flag x0) = (T_spec_l2Flag n x0).bind fun r => .done (O_spec_l2Flag r) := by kernel_rfl
theorem ct_spec_l2Flag (n : Nat) : CTok (CT_spec_l2Flag n) (runs KP lib n) := mkCT_nil
theorem th_spec_l2Flag : ∀ (n : Nat) (x0 : Bool) (r : Int × Int × ByteArray), F_spec_l2Flag n x0 = some r → runs KP lib n 46 (A_spec_l2Flag x0) [] = some ⟨O_spec_l2Flag r, [], []⟩
  | 0, x0, r, h => by cases h
  | n + 1, x0, r, h => fun_step (kf := K_spec_l2Flag) rfl (ct_spec_l2Flag n) (noLoops rfl) (ft_spec_l2Flag n x0) h
def FH_spec_l2Flag (n : Nat) : List (List (List Hv)) → Option (Int × Int × ByteArray)
  | [[[.b x0]]] => F_spec_l2Flag n x0
  | _ => none
def E_spec_l2Flag (n : Nat) (d : List AV → Tr AV) : List AV → Tr AV := cent (A_spec_l2Flag (false)) (FH_spec_l2Flag n) O_spec_l2Flag d
theorem eo_spec_l2Flag (n : Nat) {d : List AV → Tr AV} (hd : ∀ ar r, (d ar).run = some r → runs KP lib n 46 ar [] = some ⟨r, [], []⟩) : ∀ ar r, (E_spec_l2Flag n d ar).run = some r → runs KP lib n 46 ar [] = some ⟨r, [], []⟩ :=
  cent_ok (fun hs r h => by
    unfold FH_spec_l2Flag at h
    split at h
    · exact ⟨A_spec_l2Flag _, rfl, th_spec_l2Flag n _ r h⟩
    · cases h) hd
/-! ### spec.Held -/
def A_spec_Held (x0 : Int) (x1 : Int) (x2 : Int) (x3 : ByteArray) (x4 : Int) (x5 : Int) (x6 : ByteArray) : List AV := [(.c (.p (.i .i64 x0))), (.agg [(.p (.i .i64 x1)), (.p (.i .i64 x2)), (.p (.s x3))]), (.agg [(.p (.i .i64 x4)), (.p (.i .i64 x5)), (.p (.s x6))])]
def O_spec_Held (r : Int × Int × ByteArray) : AV := (.agg [(.p (.i .i64 r.1)), (.p (.i .i64 r.2.1)), (.p (.s r.2.2))])
abbrev CT_spec_Held (n : Nat) : CTab := mkCT [(28, E_spec_ValueOk n (noEnt)), (40, E_spec_l2Error n (noEnt)), (44, E_spec_l1In n (noEnt)), (45, E_spec_l2Like n (noEnt)), (26, E_spec_Order n (noEnt)), (46, E_spec_l2Flag n (noEnt))]
abbrev LT_spec_Held (n : Nat) : LTab := mkLT []
def T_spec_Held (n : Nat) (x0 : Int) (x1 : Int) (x2 : Int) (x3 : ByteArray) (x4 : Int) (x5 : Int) (x6 : ByteArray) : Tr (Int × Int × ByteArray) := (.opt (F_spec_ValueOk n x1 x2 x3) fun r14 => (.ask ((!r14)) (.opt (F_spec_l2Error n (2 : Int)) fun r15 => (.done (r15.1, r15.2.1, r15.2.2))) (.opt (F_spec_ValueOk n x4 x5 x6) fun r16 => (.ask ((!r16)) (.opt (F_spec_l2Error n (2 : Int)) fun r17 => (.done (r17.1, r17.2.1, r17.2.2))) (.opt (F_spec_l1In n x0 (6 : Int) (11 : Int)) fun r18 => (.ask ((!r18)) (.opt (F_spec_l2Error n (2 : Int)) fun r19 => (.done (r19.1, r19.2.1, r19.2.2))) (.ask ((x1 == (4 : Int))) (.done (x1, x2, x3)) (.ask ((x4 == (4 : Int))) (.done (x4, x5, x6)) (.opt (F_spec_l2Like n x1 x2 x3 x4 x5 x6) fun r20 => (.opt (F_spec_l2Like n x4 x5 x6 x1 x2 x3) fun r21 => (.opt (F_spec_Order n r20.1 r20.2.1 r20.2.2 r21.1 r21.2.1 r21.2.2) fun r25 => (.ask ((x0 == (6 : Int))) (.opt (F_spec_l2Flag n (r25 == (0 : Int))) fun r26 => (.done (r26.1, r26.2.1, r26.2.2))) (.ask ((x0 == (7 : Int))) (.opt (F_spec_l2Flag n (r25 != (0 : Int))) fun r27 => (.done (r27.1, r27.2.1, r27.2.2))) (.ask ((x0 == (8 : Int))) (.opt (F_spec_l2Flag n (decide (r25 < (0 : Int)))) fun r28 => (.done (r28.1, r28.2.1, r28.2.2))) (.ask ((x0 == (9 : Int))) (.opt (F_spec_l2Flag n (decide (r25 ≤ (0 : Int)))) fun r29 => (.done (r29.1, r29.2.1, r29.2.2))) (.ask ((x0 == (10 : Int))) (.opt (F_spec_l2Flag n (decide (r25 > (0 : Int)))) fun r30 => (.done (r30.1, r30.2.1, r30.2.2))) (.opt (F_spec_l2Flag n (decide (r25 ≥ (0 : Int)))) fun r31 => (.done (r31.1, r31.2.1, r31.2.2)))))))))))))))))))
def F_spec_Held : Nat → Int → Int → Int → ByteArray → Int → Int → ByteArray → Option (Int × Int × ByteArray)
  | 0, _, _, _, _, _, _, _ => none
  | n + 1, x0, x1, x2, x3, x4, x5, x6 => (T_spec_Held n x0 x1 x2 x3 x4 x5 x6).run
theorem ft_spec_Held (n : Nat) (x0 : Int) (x1 : Int) (x2 : Int) (x3 : ByteArray) (x4 : Int) (x5 : Int) (x6 : ByteArray) : funT (CT_spec_Held n) (LT_spec_Held n) K_spec_Held (A_spec_Held x0 x1 x2 x3 x4 x5 x6) = (T_spec_Held n x0 x1 x2 x3 x4 x5 x6).bind fun r => .done (O_spec_Held r) := by kernel_rfl
theorem ct_spec_Held (n : Nat) : CTok (CT_spec_Held n) (runs KP lib n) := mkCT_cons (eo_spec_ValueOk n (noEnt_ok)) (mkCT_cons (eo_spec_l2Error n (noEnt_ok)) (mkCT_cons (eo_spec_l1In n (noEnt_ok)) (mkCT_cons (eo_spec_l2Like n (noEnt_ok)) (mkCT_cons (eo_spec_Order n (noEnt_ok)) (mkCT_cons (eo_spec_l2Flag n (noEnt_ok)) (mkCT_nil))))))
theorem th_spec_Held : ∀ (n : Nat) (x0 : Int) (x1 : Int) (x2 : Int) (x3 : ByteArray) (x4 : Int) (x5 : Int) (x6 : ByteArray) (r : Int × Int × ByteArray), F_spec_Held n x0 x1 x2 x3 x4 x5 x6 = some r → runs KP lib n 20 (A_spec_Held x0 x1 x2 x3 x4 x5 x6) [] = some ⟨O_spec_Held r, [], []⟩
  | 0, x0, x1, x2, x3, x4, x5, x6, r, h => by cases h
  | n + 1, x0, x1, x2, x3, x4, x5, x6, r, h => fun_step (kf := K_spec_Held) rfl (ct_spec_Held n) (noLoops rfl) (ft_spec_Held n x0 x1 x2 x3 x4 x5 x6) h
def FH_spec_Held (n : Nat) : List (List (List Hv)) → Option (Int × Int × ByteArray)
  | [[[.i x0]], [[.i x1], [.i x2], [.s x3]], [[.i x4], [.i x5], [.s x6]]] => F_spec_Held n x0 x1 x2 x3 x4 x5 x6
  | _ => none
def E_spec_Held (n : Nat) (d : List AV → Tr AV) : List AV → Tr AV := cent (A_spec_Held (0) (0) (0) (⟨#[]⟩) (0) (0) (⟨#[]⟩)) (FH_spec_Held n) O_spec_Held d
theorem eo_spec_Held (n : Nat) {d : List AV → Tr AV} (hd : ∀ ar r, (d ar).run = some r → runs KP lib n 20 ar [] = some ⟨r, [], []⟩) : ∀ ar r, (E_spec_Held n d ar).run = some r → runs KP lib n 20 ar [] = some ⟨r, [], []⟩ :=
  cent_ok (fun hs r h => by
    unfold FH_spec_Held at h
    split at h
    · exact ⟨A_spec_Held _ _ _ _ _ _ _, rfl, th_spec_Held n _ _ _ _ _ _ _ r h⟩
    · cases h) hd
/-! ### impl.isText -/
def A_impl_isText (x0 : ByteArray) (x1 : Int) : List AV := [(.c (.p (.s x0))), (.c (.p (.i .i64 x1)))]
def O_impl_isText (r : Bool) : AV := (.c (.p (.b r)))
abbrev CT_impl_isText (n : Nat) : CTab := mkCT []
def S_impl_isText_13 (v : ByteArray × Int × Int × Int) : St := ⟨[(0, (.c (.p (.s v.1)))), (1, (.c (.p (.i .i64 v.2.1)))), (7, (.c (.p (.i .i64 v.2.2.1)))), (8, (.c (.p (.i .i64 v.2.2.2))))], [], []⟩
def B_impl_isText_13 (n : Nat) (v : ByteArray × Int × Int × Int) : Tr ((ByteArray × Int × Int × Int) ⊕ ((Bool) ⊕ (ByteArray × Int))) := (.ask ((decide (v.2.2.2 < v.2.2.1))) (.ask (decide (0 ≤ v.2.2.2)) (.opt (v.1.toList[(v.2.2.2).toNat]?) fun c35 => (.ask ((decide ((c35.toNat : Int) < (32 : Int)))) (.done (.inr (.inl (false)))) (.ask (decide (0 ≤ v.2.2.2)) (.opt (v.1.toList[(v.2.2.2).toNat]?) fun c36 => (.ask ((decide ((c36.toNat : Int) > (126 : Int)))) (.done (.inr (.inl (false)))) (.done (.inl (v.1, v.2.1, v.2.2.1, (IntKind.i64.wrap (v.2.2.2 + (1 : Int)))))))) .fail))) .fail) (.done (.inr (.inr ((v.1, v.2.1))))))
def D_impl_isText_13 : ((Bool) ⊕ (ByteArray × Int)) → Ex × St := fun | .inl r => (.ret, ⟨[(4, (.c (.p (.b r))))], [], []⟩) | .inr r => (fun r => ((.exit 0), ⟨[(0, (.c (.p (.s r.1)))), (1, (.c (.p (.i .i64 r.2))))], [], []⟩)) r
def DT_impl_isText_13 : ((Bool) ⊕ (ByteArray × Int)) → Tr (Ex × St) := fun r => .alt r (fun r => .done (.ret, ⟨[(4, (.c (.p (.b r))))], [], []⟩)) (fun r => .done ((.exit 0), ⟨[(0, (.c (.p (.s r.1)))), (1, (.c (.p (.i .i64 r.2))))], [], []⟩))
def VH_impl_isText_13 : List (List (List Hv)) × List (List (List Hv)) → Option (ByteArray × Int × Int × Int)
  | ([[[.s w0]], [[.i w1]], [[.i w2]], [[.i w3]]], []) => some (w0, w1, w2, w3)
  | _ => none
abbrev LE_impl_isText_13 (n : Nat) : St → Tr (Ex × St) := lent (S_impl_isText_13 (⟨#[]⟩, 0, 0, 0)) VH_impl_isText_13 (B_impl_isText_13 n) DT_impl_isText_13 n
abbrev LT_impl_isText (n : Nat) : LTab := mkLT [(13, LE_impl_isText_13 n)]
def T_impl_isText (n : Nat) (x0 : ByteArray) (x1 : Int) : Tr (Bool) := (.opt (loopF (B_impl_isText_13 n) n (x0, x1, (x0.size : Int), (0 : Int))) fun r37 => (.alt r37 (fun r38 => (.done r38)) (fun r39 => (.done (decide ((r39.1.size : Int) ≤ r39.2))))))
def F_impl_isText : Nat → ByteArray → Int → Option (Bool)
  | 0, _, _ => none
  | n + 1, x0, x1 => (T_impl_isText n x0 x1).run
theorem ft_impl_isText (n : Nat) (x0 : ByteArray) (x1 : Int) : funT (CT_impl_isText n) (LT_impl_isText n) K_impl_isText (A_impl_isText x0 x1) = (T_impl_isText n x0 x1).bind fun r => .done (O_impl_isText r) := by kernel_rfl
theorem ct_impl_isText (n : Nat) : CTok (CT_impl_isText n) (runs KP lib n) := mkCT_nil
theorem lt_impl_isText_13 (n : Nat) (v : ByteArray × Int × Int × Int) : (evalCT (CT_impl_isText n) (mkLT []) K_impl_isText_L13 (S_impl_isText_13 v) []).bind (ltail [0, 1, 7, 8] [(.ret, [4]), ((.exit 0), [0, 1])]) = (B_impl_isText_13 n v).bind (lenc S_impl_isText_13 D_impl_isText_13) := by
  obtain ⟨w0, w1, w2, w3⟩ := v
  kernel_rfl
theorem le_impl_isText_13 (n : Nat) : LEok (runs KP lib n) n (13, [0, 1, 7, 8], [(.ret, [4]), ((.exit 0), [0, 1])], K_impl_isText_L13) (LE_impl_isText_13 n) := fun st e s h =>
  lent_ok (ct_impl_isText n) (noLoops rfl) (lt_impl_isText_13 n) (fun r => by
    rcases r with r | r <;> (intro h; cases h)) (fun r y h => by
    rcases r with r | r <;> (cases h; rfl)) (fun hs v h => by
    unfold VH_impl_isText_13 at h
    split at h <;> cases h
    rfl) h
theorem lo_impl_isText (n : Nat) : LTok (LT_impl_isText n) (runs KP lib n) n K_impl_isText.body := mkLT_ok (by
  intro x hx
  have hx : x ∈ ([(13, [0, 1, 7, 8], [(.ret, [4]), ((.exit 0), [0, 1])], K_impl_isText_L13)] : List (Nat × List Nat × List (Ex × List Nat) × KCode)) := hx
  simp only [List.mem_cons, List.not_mem_nil, or_false] at hx
  rcases hx with rfl
  · exact ⟨LE_impl_isText_13 n, fun st => rfl, le_impl_isText_13 n⟩)
theorem th_impl_isText : ∀ (n : Nat) (x0 : ByteArray) (x1 : Int) (r : Bool), F_impl_isText n x0 x1 = some r → runs KP lib n 64 (A_impl_isText x0 x1) [] = some ⟨O_impl_isText r, [], []⟩
  | 0, x0, x1, r, h => by cases h
  | n + 1, x0, x1, r, h => fun_step (kf := K_impl_isText) rfl (ct_impl_isText n) (lo_impl_isText n) (ft_impl_isText n x0 x1) h
def FH_impl_isText (n : Nat) : List (List (List Hv)) → Option (Bool)
  | [[[.s x0]], [[.i x1]]] => F_impl_isText n x0 x1
  | _ => none
def E_impl_isText (n : Nat) (d : List AV → Tr AV) : List AV → Tr AV := cent (A_impl_isText (⟨#[]⟩) (0)) (FH_impl_isText n) O_impl_isText d
theorem eo_impl_isText (n : Nat) {d : List AV → Tr AV} (hd : ∀ ar r, (d ar).run = some r → runs KP lib n 64 ar [] = some ⟨r, [], []⟩) : ∀ ar r, (E_impl_isText n d ar).run = some r → runs KP lib n 64 ar [] = some ⟨r, [], []⟩ :=
  cent_ok (fun hs r h => by
    unfold FH_impl_isText at h
    split at h
    · exact ⟨A_impl_isText _ _, rfl, th_impl_isText n _ _ r h⟩
    · cases h) hd
/-! ### impl.within -/
def A_impl_within (x0 : Int) (x1 : Int) (x2 : Int) : List AV := [(.c (.p (.i .i64 x0))), (.c (.p (.i .i64 x1))), (.c (.p (.i .i64 x2)))]
def O_impl_within (r : Bool) : AV := (.c (.p (.b r)))
abbrev CT_impl_within (n : Nat) : CTab := mkCT []
abbrev LT_impl_within (n : Nat) : LTab := mkLT []
def T_impl_within (n : Nat) (x0 : Int) (x1 : Int) (x2 : Int) : Tr (Bool) := (.ask ((decide (x0 ≥ x1))) (.done (decide (x0 ≤ x2))) (.done false))
def F_impl_within : Nat → Int → Int → Int → Option (Bool)
  | 0, _, _, _ => none
  | n + 1, x0, x1, x2 => (T_impl_within n x0 x1 x2).run
theorem ft_impl_within (n : Nat) (x0 : Int) (x1 : Int) (x2 : Int) : funT (CT_impl_within n) (LT_impl_within n) K_impl_within (A_impl_within x0 x1 x2) = (T_impl_within n x0 x1 x2).bind fun r => .done (O_impl_within r) := by kernel_rfl
theorem ct_impl_within (n : Nat) : CTok (CT_impl_within n) (runs KP lib n) := mkCT_nil
theorem th_impl_within : ∀ (n : Nat) (x0 : Int) (x1 : Int) (x2 : Int) (r : Bool), F_impl_within n x0 x1 x2 = some r → runs KP lib n 48 (A_impl_within x0 x1 x2) [] = some ⟨O_impl_within r, [], []⟩
  | 0, x0, x1, x2, r, h => by cases h
  | n + 1, x0, x1, x2, r, h => fun_step (kf := K_impl_within) rfl (ct_impl_within n) (noLoops rfl) (ft_impl_within n x0 x1 x2) h
def FH_impl_within (n : Nat) : List (List (List Hv)) → Option (Bool)
  | [[[.i x0]], [[.i x1]], [[.i x2]]] => F_impl_within n x0 x1 x2
  | _ => none
def E_impl_within (n : Nat) (d : List AV → Tr AV) : List AV → Tr AV := cent (A_impl_within (0) (0) (0)) (FH_impl_within n) O_impl_within d
theorem eo_impl_within (n : Nat) {d : List AV → Tr AV} (hd : ∀ ar r, (d ar).run = some r → runs KP lib n 48 ar [] = some ⟨r, [], []⟩) : ∀ ar r, (E_impl_within n d ar).run = some r → runs KP lib n 48 ar [] = some ⟨r, [], []⟩ :=
  cent_ok (fun hs r h => by
    unfold FH_impl_within at h
    split at h
    · exact ⟨A_impl_within _ _ _, rfl, th_impl_within n _ _ _ r h⟩
    · cases h) hd
/-! ### impl.ValueOk -/
def A_impl_ValueOk (x0 : Int) (x1 : Int) (x2 : ByteArray) : List AV := [(.agg [(.p (.i .i64 x0)), (.p (.i .i64 x1)), (.p (.s x2))])]
def O_impl_ValueOk (r : Bool) : AV := (.c (.p (.b r)))
abbrev CT_impl_ValueOk (n : Nat) : CTab := mkCT [(64, E_impl_isText n (noEnt)), (48, E_impl_within n (noEnt))]
abbrev LT_impl_ValueOk (n : Nat) : LTab := mkLT []
def T_impl_ValueOk (n : Nat) (x0 : Int) (x1 : Int) (x2 : ByteArray) : Tr (Bool) := (.ask ((x0 == (2 : Int))) (.ask ((x1 == (0 : Int))) (.opt (F_impl_isText n x2 (200 : Int)) fun r40 => (.done r40)) (.done false)) (.ask ((!(x2.toList == (⟨#[]⟩ : ByteArray).toList))) (.done false) (.ask ((x0 == (0 : Int))) (.done (x1 == (0 : Int))) (.ask ((x0 == (1 : Int))) (.opt (F_impl_within n x1 (-1000000000000000 : Int) (1000000000000000 : Int)) fun r41 => (.done r41)) (.ask ((x0 == (3 : Int))) (.opt (F_impl_within n x1 (0 : Int) (1 : Int)) fun r42 => (.done r42)) (.ask ((x0 == (4 : Int))) (.opt (F_impl_within n x1 (1 : Int) (5 : Int)) fun r43 => (.done r43)) (.done false)))))))
def F_impl_ValueOk : Nat → Int → Int → ByteArray → Option (Bool)
  | 0, _, _, _ => none
  | n + 1, x0, x1, x2 => (T_impl_ValueOk n x0 x1 x2).run
theorem ft_impl_ValueOk (n : Nat) (x0 : Int) (x1 : Int) (x2 : ByteArray) : funT (CT_impl_ValueOk n) (LT_impl_ValueOk n) K_impl_ValueOk (A_impl_ValueOk x0 x1 x2) = (T_impl_ValueOk n x0 x1 x2).bind fun r => .done (O_impl_ValueOk r) := by kernel_rfl
theorem ct_impl_ValueOk (n : Nat) : CTok (CT_impl_ValueOk n) (runs KP lib n) := mkCT_cons (eo_impl_isText n (noEnt_ok)) (mkCT_cons (eo_impl_within n (noEnt_ok)) (mkCT_nil))
theorem th_impl_ValueOk : ∀ (n : Nat) (x0 : Int) (x1 : Int) (x2 : ByteArray) (r : Bool), F_impl_ValueOk n x0 x1 x2 = some r → runs KP lib n 47 (A_impl_ValueOk x0 x1 x2) [] = some ⟨O_impl_ValueOk r, [], []⟩
  | 0, x0, x1, x2, r, h => by cases h
  | n + 1, x0, x1, x2, r, h => fun_step (kf := K_impl_ValueOk) rfl (ct_impl_ValueOk n) (noLoops rfl) (ft_impl_ValueOk n x0 x1 x2) h
def FH_impl_ValueOk (n : Nat) : List (List (List Hv)) → Option (Bool)
  | [[[.i x0], [.i x1], [.s x2]]] => F_impl_ValueOk n x0 x1 x2
  | _ => none
def E_impl_ValueOk (n : Nat) (d : List AV → Tr AV) : List AV → Tr AV := cent (A_impl_ValueOk (0) (0) (⟨#[]⟩)) (FH_impl_ValueOk n) O_impl_ValueOk d
theorem eo_impl_ValueOk (n : Nat) {d : List AV → Tr AV} (hd : ∀ ar r, (d ar).run = some r → runs KP lib n 47 ar [] = some ⟨r, [], []⟩) : ∀ ar r, (E_impl_ValueOk n d ar).run = some r → runs KP lib n 47 ar [] = some ⟨r, [], []⟩ :=
  cent_ok (fun hs r h => by
    unfold FH_impl_ValueOk at h
    split at h
    · exact ⟨A_impl_ValueOk _ _ _, rfl, th_impl_ValueOk n _ _ _ r h⟩
    · cases h) hd
/-! ### impl.fault -/
def A_impl_fault (x0 : Int) : List AV := [(.c (.p (.i .i64 x0)))]
def O_impl_fault (r : Int × Int × ByteArray) : AV := (.agg [(.p (.i .i64 r.1)), (.p (.i .i64 r.2.1)), (.p (.s r.2.2))])
abbrev CT_impl_fault (n : Nat) : CTab := mkCT []
abbrev LT_impl_fault (n : Nat) : LTab := mkLT []
def T_impl_fault (n : Nat) (x0 : Int) : Tr (Int × Int × ByteArray) := (.done ((4 : Int), x0, (⟨#[]⟩ : ByteArray)))
def F_impl_fault : Nat → Int → Option (Int × Int × ByteArray)
  | 0, _ => none
  | n + 1, x0 => (T_impl_fault n x0).run
theorem ft_impl_fault (n : Nat) (x0 : Int) : funT (CT_impl_fault n) (LT_impl_fault n) K_impl_fault (A_impl_fault x0) = (T_impl_fault n x0).bind fun r => .done (O_impl_fault r) := by kernel_rfl
theorem ct_impl_fault (n : Nat) : CTok (CT_impl_fault n) (runs KP lib n) := mkCT_nil
theorem th_impl_fault : ∀ (n : Nat) (x0 : Int) (r : Int × Int × ByteArray), F_impl_fault n x0 = some r → runs KP lib n 42 (A_impl_fault x0) [] = some ⟨O_impl_fault r, [], []⟩
  | 0, x0, r, h => by cases h
  | n + 1, x0, r, h => fun_step (kf := K_impl_fault) rfl (ct_impl_fault n) (noLoops rfl) (ft_impl_fault n x0) h
def FH_impl_fault (n : Nat) : List (List (List Hv)) → Option (Int × Int × ByteArray)
  | [[[.i x0]]] => F_impl_fault n x0
  | _ => none
def E_impl_fault (n : Nat) (d : List AV → Tr AV) : List AV → Tr AV := cent (A_impl_fault (0)) (FH_impl_fault n) O_impl_fault d
theorem eo_impl_fault (n : Nat) {d : List AV → Tr AV} (hd : ∀ ar r, (d ar).run = some r → runs KP lib n 42 ar [] = some ⟨r, [], []⟩) : ∀ ar r, (E_impl_fault n d ar).run = some r → runs KP lib n 42 ar [] = some ⟨r, [], []⟩ :=
  cent_ok (fun hs r h => by
    unfold FH_impl_fault at h
    split at h
    · exact ⟨A_impl_fault _, rfl, th_impl_fault n _ r h⟩
    · cases h) hd
/-! ### cmp.isNaN[int64] -/
def A_cmp_isNaN_int64 (x0 : Int) : List AV := [(.c (.p (.i .i64 x0)))]
def O_cmp_isNaN_int64 (r : Bool) : AV := (.c (.p (.b r)))
abbrev CT_cmp_isNaN_int64 (n : Nat) : CTab := mkCT []
abbrev LT_cmp_isNaN_int64 (n : Nat) : LTab := mkLT []
def T_cmp_isNaN_int64 (n : Nat) (x0 : Int) : Tr (Bool) := (.done (x0 != x0))
def F_cmp_isNaN_int64 : Nat → Int → Option (Bool)
  | 0, _ => none
  | n + 1, x0 => (T_cmp_isNaN_int64 n x0).run
theorem ft_cmp_isNaN_int64 (n : Nat) (x0 : Int) : funT (CT_cmp_isNaN_int64 n) (LT_cmp_isNaN_int64 n) K_cmp_isNaN_int64 (A_cmp_isNaN_int64 x0) = (T_cmp_isNaN_int64 n x0).bind fun r => .done (O_cmp_isNaN_int64 r) := by kernel_rfl
theorem ct_cmp_isNaN_int64 (n : Nat) : CTok (CT_cmp_isNaN_int64 n) (runs KP lib n) := mkCT_nil
theorem th_cmp_isNaN_int64 : ∀ (n : Nat) (x0 : Int) (r : Bool), F_cmp_isNaN_int64 n x0 = some r → runs KP lib n 67 (A_cmp_isNaN_int64 x0) [] = some ⟨O_cmp_isNaN_int64 r, [], []⟩
  | 0, x0, r, h => by cases h
  | n + 1, x0, r, h => fun_step (kf := K_cmp_isNaN_int64) rfl (ct_cmp_isNaN_int64 n) (noLoops rfl) (ft_cmp_isNaN_int64 n x0) h
def FH_cmp_isNaN_int64 (n : Nat) : List (List (List Hv)) → Option (Bool)
  | [[[.i x0]]] => F_cmp_isNaN_int64 n x0
  | _ => none
def E_cmp_isNaN_int64 (n : Nat) (d : List AV → Tr AV) : List AV → Tr AV := cent (A_cmp_isNaN_int64 (0)) (FH_cmp_isNaN_int64 n) O_cmp_isNaN_int64 d
theorem eo_cmp_isNaN_int64 (n : Nat) {d : List AV → Tr AV} (hd : ∀ ar r, (d ar).run = some r → runs KP lib n 67 ar [] = some ⟨r, [], []⟩) : ∀ ar r, (E_cmp_isNaN_int64 n d ar).run = some r → runs KP lib n 67 ar [] = some ⟨r, [], []⟩ :=
  cent_ok (fun hs r h => by
    unfold FH_cmp_isNaN_int64 at h
    split at h
    · exact ⟨A_cmp_isNaN_int64 _, rfl, th_cmp_isNaN_int64 n _ r h⟩
    · cases h) hd
/-! ### cmp.Compare[int64] -/
def A_cmp_Compare_int64 (x0 : Int) (x1 : Int) : List AV := [(.c (.p (.i .i64 x0))), (.c (.p (.i .i64 x1)))]
def O_cmp_Compare_int64 (r : Int) : AV := (.c (.p (.i .i64 r)))
abbrev CT_cmp_Compare_int64 (n : Nat) : CTab := mkCT [(67, E_cmp_isNaN_int64 n (noEnt))]
abbrev LT_cmp_Compare_int64 (n : Nat) : LTab := mkLT []
def T_cmp_Compare_int64 (n : Nat) (x0 : Int) (x1 : Int) : Tr (Int) := (.opt (F_cmp_isNaN_int64 n x0) fun r50 => (.opt (F_cmp_isNaN_int64 n x1) fun r51 => (.ask (r50) (.ask (r51) (.done (0 : Int)) (.done (-1 : Int))) (.ask (r51) (.done (1 : Int)) (.ask ((decide (x0 < x1))) (.done (-1 : Int)) (.ask ((decide (x0 > x1))) (.done (1 : Int)) (.done (0 : Int))))))))
def F_cmp_Compare_int64 : Nat → Int → Int → Option (Int)
  | 0, _, _ => none
  | n + 1, x0, x1 => (T_cmp_Compare_int64 n x0 x1).run
theorem ft_cmp_Compare_int64 (n : Nat) (x0 : Int) (x1 : Int) : funT (CT_cmp_Compare_int64 n) (LT_cmp_Compare_int64 n) K_cmp_Compare_int64 (A_cmp_Compare_int64 x0 x1) = (T_cmp_Compare_int64 n x0 x1).bind fun r => .done (O_cmp_Compare_int64 r) := by kernel_rfl
theorem ct_cmp_Compare_int64 (n : Nat) : CTok (CT_cmp_Compare_int64 n) (runs KP lib n) := mkCT_cons (eo_cmp_isNaN_int64 n (noEnt_ok)) (mkCT_nil)
theorem th_cmp_Compare_int64 : ∀ (n : Nat) (x0 : Int) (x1 : Int) (r : Int), F_cmp_Compare_int64 n x0 x1 = some r → runs KP lib n 54 (A_cmp_Compare_int64 x0 x1) [] = some ⟨O_cmp_Compare_int64 r, [], []⟩
  | 0, x0, x1, r, h => by cases h
  | n + 1, x0, x1, r, h => fun_step (kf := K_cmp_Compare_int64) rfl (ct_cmp_Compare_int64 n) (noLoops rfl) (ft_cmp_Compare_int64 n x0 x1) h
def FH_cmp_Compare_int64 (n : Nat) : List (List (List Hv)) → Option (Int)
  | [[[.i x0]], [[.i x1]]] => F_cmp_Compare_int64 n x0 x1
  | _ => none
def E_cmp_Compare_int64 (n : Nat) (d : List AV → Tr AV) : List AV → Tr AV := cent (A_cmp_Compare_int64 (0) (0)) (FH_cmp_Compare_int64 n) O_cmp_Compare_int64 d
theorem eo_cmp_Compare_int64 (n : Nat) {d : List AV → Tr AV} (hd : ∀ ar r, (d ar).run = some r → runs KP lib n 54 ar [] = some ⟨r, [], []⟩) : ∀ ar r, (E_cmp_Compare_int64 n d ar).run = some r → runs KP lib n 54 ar [] = some ⟨r, [], []⟩ :=
  cent_ok (fun hs r h => by
    unfold FH_cmp_Compare_int64 at h
    split at h
    · exact ⟨A_cmp_Compare_int64 _ _, rfl, th_cmp_Compare_int64 n _ _ r h⟩
    · cases h) hd
/-! ### cmp.isNaN[string] -/
def A_cmp_isNaN_string (x0 : ByteArray) : List AV := [(.c (.p (.s x0)))]
def O_cmp_isNaN_string (r : Bool) : AV := (.c (.p (.b r)))
abbrev CT_cmp_isNaN_string (n : Nat) : CTab := mkCT []
abbrev LT_cmp_isNaN_string (n : Nat) : LTab := mkLT []
def T_cmp_isNaN_string (n : Nat) (x0 : ByteArray) : Tr (Bool) := (.done (!(x0.toList == x0.toList)))
def F_cmp_isNaN_string : Nat → ByteArray → Option (Bool)
  | 0, _ => none
  | n + 1, x0 => (T_cmp_isNaN_string n x0).run
theorem ft_cmp_isNaN_string (n : Nat) (x0 : ByteArray) : funT (CT_cmp_isNaN_string n) (LT_cmp_isNaN_string n) K_cmp_isNaN_string (A_cmp_isNaN_string x0) = (T_cmp_isNaN_string n x0).bind fun r => .done (O_cmp_isNaN_string r) := by kernel_rfl
theorem ct_cmp_isNaN_string (n : Nat) : CTok (CT_cmp_isNaN_string n) (runs KP lib n) := mkCT_nil
theorem th_cmp_isNaN_string : ∀ (n : Nat) (x0 : ByteArray) (r : Bool), F_cmp_isNaN_string n x0 = some r → runs KP lib n 68 (A_cmp_isNaN_string x0) [] = some ⟨O_cmp_isNaN_string r, [], []⟩
  | 0, x0, r, h => by cases h
  | n + 1, x0, r, h => fun_step (kf := K_cmp_isNaN_string) rfl (ct_cmp_isNaN_string n) (noLoops rfl) (ft_cmp_isNaN_string n x0) h
def FH_cmp_isNaN_string (n : Nat) : List (List (List Hv)) → Option (Bool)
  | [[[.s x0]]] => F_cmp_isNaN_string n x0
  | _ => none
def E_cmp_isNaN_string (n : Nat) (d : List AV → Tr AV) : List AV → Tr AV := cent (A_cmp_isNaN_string (⟨#[]⟩)) (FH_cmp_isNaN_string n) O_cmp_isNaN_string d
theorem eo_cmp_isNaN_string (n : Nat) {d : List AV → Tr AV} (hd : ∀ ar r, (d ar).run = some r → runs KP lib n 68 ar [] = some ⟨r, [], []⟩) : ∀ ar r, (E_cmp_isNaN_string n d ar).run = some r → runs KP lib n 68 ar [] = some ⟨r, [], []⟩ :=
  cent_ok (fun hs r h => by
    unfold FH_cmp_isNaN_string at h
    split at h
    · exact ⟨A_cmp_isNaN_string _, rfl, th_cmp_isNaN_string n _ r h⟩
    · cases h) hd
/-! ### cmp.Compare[string] -/
def A_cmp_Compare_string (x0 : ByteArray) (x1 : ByteArray) : List AV := [(.c (.p (.s x0))), (.c (.p (.s x1)))]
def O_cmp_Compare_string (r : Int) : AV := (.c (.p (.i .i64 r)))
abbrev CT_cmp_Compare_string (n : Nat) : CTab := mkCT [(68, E_cmp_isNaN_string n (noEnt))]
abbrev LT_cmp_Compare_string (n : Nat) : LTab := mkLT []
def T_cmp_Compare_string (n : Nat) (x0 : ByteArray) (x1 : ByteArray) : Tr (Int) := (.opt (F_cmp_isNaN_string n x0) fun r54 => (.opt (F_cmp_isNaN_string n x1) fun r55 => (.ask (r54) (.ask (r55) (.done (0 : Int)) (.done (-1 : Int))) (.ask (r55) (.done (1 : Int)) (.ask ((Op.bytesLess x0.toList x1.toList)) (.done (-1 : Int)) (.ask ((!(Op.bytesLess x0.toList x1.toList || x0.toList == x1.toList))) (.done (1 : Int)) (.done (0 : Int))))))))
def F_cmp_Compare_string : Nat → ByteArray → ByteArray → Option (Int)
  | 0, _, _ => none
  | n + 1, x0, x1 => (T_cmp_Compare_string n x0 x1).run
theorem ft_cmp_Compare_string (n : Nat) (x0 : ByteArray) (x1 : ByteArray) : funT (CT_cmp_Compare_string n) (LT_cmp_Compare_string n) K_cmp_Compare_string (A_cmp_Compare_string x0 x1) = (T_cmp_Compare_string n x0 x1).bind fun r => .done (O_cmp_Compare_string r) := by kernel_rfl
theorem ct_cmp_Compare_string (n : Nat) : CTok (CT_cmp_Compare_string n) (runs KP lib n) := mkCT_cons (eo_cmp_isNaN_string n (noEnt_ok)) (mkCT_nil)
theorem th_cmp_Compare_string : ∀ (n : Nat) (x0 : ByteArray) (x1 : ByteArray) (r : Int), F_cmp_Compare_string n x0 x1 = some r → runs KP lib n 55 (A_cmp_Compare_string x0 x1) [] = some ⟨O_cmp_Compare_string r, [], []⟩
  | 0, x0, x1, r, h => by cases h
  | n + 1, x0, x1, r, h => fun_step (kf := K_cmp_Compare_string) rfl (ct_cmp_Compare_string n) (noLoops rfl) (ft_cmp_Compare_string n x0 x1) h
def FH_cmp_Compare_string (n : Nat) : List (List (List Hv)) → Option (Int)
  | [[[.s x0]], [[.s x1]]] => F_cmp_Compare_string n x0 x1
  | _ => none
def E_cmp_Compare_string (n : Nat) (d : List AV → Tr AV) : List AV → Tr AV := cent (A_cmp_Compare_string (⟨#[]⟩) (⟨#[]⟩)) (FH_cmp_Compare_string n) O_cmp_Compare_string d
theorem eo_cmp_Compare_string (n : Nat) {d : List AV → Tr AV} (hd : ∀ ar r, (d ar).run = some r → runs KP lib n 55 ar [] = some ⟨r, [], []⟩) : ∀ ar r, (E_cmp_Compare_string n d ar).run = some r → runs KP lib n 55 ar [] = some ⟨r, [], []⟩ :=
  cent_ok (fun hs r h => by
    unfold FH_cmp_Compare_string at h
    split at h
    · exact ⟨A_cmp_Compare_string _ _, rfl, th_cmp_Compare_string n _ _ r h⟩
    · cases h) hd
/-! ### cmp.Or[int] -/
def A_cmp_Or_int (x0 : List (List PV)) : List AV := [(.c (.p (.ls x0)))]
def O_cmp_Or_int (r : Int) : AV := (.c (.p (.i .i64 r)))
abbrev CT_cmp_Or_int (n : Nat) : CTab := mkCT []
def S_cmp_Or_int_29 (v : Int × (List (List PV)) × Int × Int) : St := ⟨[(3, (.c (.p (.i .i64 v.1)))), (6, (.c (.p (.ls v.2.1)))), (7, (.c (.p (.i .i64 v.2.2.1)))), (8, (.c (.p (.i .i64 v.2.2.2))))], [], []⟩
def B_cmp_Or_int_29 (n : Nat) (v : Int × (List (List PV)) × Int × Int) : Tr ((Int × (List (List PV)) × Int × Int) ⊕ ((Int) ⊕ (Int))) := (.ask ((decide (v.2.2.2 < v.2.2.1))) (.ask (decide (0 ≤ v.2.2.2 ∧ v.2.2.2 < v.2.1.length)) (.opt (v.2.1[(v.2.2.2).toNat]?) fun e57 => (.ask (decide (e57.length = 1)) (.opt (cellI .i64 e57 0) fun y58 => (.ask ((y58 != v.1)) (.done (.inr (.inl (y58)))) (.done (.inl (v.1, v.2.1, v.2.2.1, (IntKind.i64.wrap (v.2.2.2 + (1 : Int)))))))) .fail)) .fail) (.done (.inr (.inr (v.1)))))
def D_cmp_Or_int_29 : ((Int) ⊕ (Int)) → Ex × St := fun | .inl r => (.ret, ⟨[(2, (.c (.p (.i .i64 r))))], [], []⟩) | .inr r => (fun r => ((.exit 0), ⟨[(3, (.c (.p (.i .i64 r))))], [], []⟩)) r
def DT_cmp_Or_int_29 : ((Int) ⊕ (Int)) → Tr (Ex × St) := fun r => .alt r (fun r => .done (.ret, ⟨[(2, (.c (.p (.i .i64 r))))], [], []⟩)) (fun r => .done ((.exit 0), ⟨[(3, (.c (.p (.i .i64 r))))], [], []⟩))
def VH_cmp_Or_int_29 : List (List (List Hv)) × List (List (List Hv)) → Option (Int × (List (List PV)) × Int × Int)
  | ([[[.i w0]], [[.r w1]], [[.i w2]], [[.i w3]]], []) => some (w0, w1, w2, w3)
  | _ => none
abbrev LE_cmp_Or_int_29 (n : Nat) : St → Tr (Ex × St) := lent (S_cmp_Or_int_29 (0, [], 0, 0)) VH_cmp_Or_int_29 (B_cmp_Or_int_29 n) DT_cmp_Or_int_29 n
abbrev LT_cmp_Or_int (n : Nat) : LTab := mkLT [(29, LE_cmp_Or_int_29 n)]
def T_cmp_Or_int (n : Nat) (x0 : List (List PV)) : Tr (Int) := (.opt (loopF (B_cmp_Or_int_29 n) n ((0 : Int), x0, (x0.length : Int), (0 : Int))) fun r59 => (.alt r59 (fun r60 => (.done r60)) (fun r61 => (.done r61))))
def F_cmp_Or_int : Nat → List (List PV) → Option (Int)
  | 0, _ => none
  | n + 1, x0 => (T_cmp_Or_int n x0).run
theorem ft_cmp_Or_int (n : Nat) (x0 : List (List PV)) : funT (CT_cmp_Or_int n) (LT_cmp_Or_int n) K_cmp_Or_int (A_cmp_Or_int x0) = (T_cmp_Or_int n x0).bind fun r => .done (O_cmp_Or_int r) := by kernel_rfl
theorem ct_cmp_Or_int (n : Nat) : CTok (CT_cmp_Or_int n) (runs KP lib n) := mkCT_nil
theorem lt_cmp_Or_int_29 (n : Nat) (v : Int × (List (List PV)) × Int × Int) : (evalCT (CT_cmp_Or_int n) (mkLT []) K_cmp_Or_int_L29 (S_cmp_Or_int_29 v) []).bind (ltail [3, 6, 7, 8] [(.ret, [2]), ((.exit 0), [3])]) = (B_cmp_Or_int_29 n v).bind (lenc S_cmp_Or_int_29 D_cmp_Or_int_29) := by
  obtain ⟨w0, w1, w2, w3⟩ := v
  kernel_rfl
theorem le_cmp_Or_int_29 (n : Nat) : LEok (runs KP lib n) n (29, [3, 6, 7, 8], [(.ret, [2]), ((.exit 0), [3])], K_cmp_Or_int_L29) (LE_cmp_Or_int_29 n) := fun st e s h =>
  lent_ok (ct_cmp_Or_int n) (noLoops rfl) (lt_cmp_Or_int_29 n) (fun r => by
    rcases r with r | r <;> (intro h; cases h)) (fun r y h => by
    rcases r with r | r <;> (cases h; rfl)) (fun hs v h => by
    unfold VH_cmp_Or_int_29 at h
    split at h <;> cases h
    rfl) h
theorem lo_cmp_Or_int (n : Nat) : LTok (LT_cmp_Or_int n) (runs KP lib n) n K_cmp_Or_int.body := mkLT_ok (by
  intro x hx
  have hx : x ∈ ([(29, [3, 6, 7, 8], [(.ret, [2]), ((.exit 0), [3])], K_cmp_Or_int_L29)] : List (Nat × List Nat × List (Ex × List Nat) × KCode)) := hx
  simp only [List.mem_cons, List.not_mem_nil, or_false] at hx
  rcases hx with rfl
  · exact ⟨LE_cmp_Or_int_29 n, fun st => rfl, le_cmp_Or_int_29 n⟩)
theorem th_cmp_Or_int : ∀ (n : Nat) (x0 : List (List PV)) (r : Int), F_cmp_Or_int n x0 = some r → runs KP lib n 53 (A_cmp_Or_int x0) [] = some ⟨O_cmp_Or_int r, [], []⟩
  | 0, x0, r, h => by cases h
  | n + 1, x0, r, h => fun_step (kf := K_cmp_Or_int) rfl (ct_cmp_Or_int n) (lo_cmp_Or_int n) (ft_cmp_Or_int n x0) h
def FH_cmp_Or_int (n : Nat) : List (List (List Hv)) → Option (Int)
  | [[[.r x0]]] => F_cmp_Or_int n x0
  | _ => none
def E_cmp_Or_int (n : Nat) (d : List AV → Tr AV) : List AV → Tr AV := cent (A_cmp_Or_int ([])) (FH_cmp_Or_int n) O_cmp_Or_int d
theorem eo_cmp_Or_int (n : Nat) {d : List AV → Tr AV} (hd : ∀ ar r, (d ar).run = some r → runs KP lib n 53 ar [] = some ⟨r, [], []⟩) : ∀ ar r, (E_cmp_Or_int n d ar).run = some r → runs KP lib n 53 ar [] = some ⟨r, [], []⟩ :=
  cent_ok (fun hs r h => by
    unfold FH_cmp_Or_int at h
    split at h
    · exact ⟨A_cmp_Or_int _, rfl, th_cmp_Or_int n _ r h⟩
    · cases h) hd
/-! ### impl.Order -/
def A_impl_Order (x0 : Int) (x1 : Int) (x2 : ByteArray) (x3 : Int) (x4 : Int) (x5 : ByteArray) : List AV := [(.agg [(.p (.i .i64 x0)), (.p (.i .i64 x1)), (.p (.s x2))]), (.agg [(.p (.i .i64 x3)), (.p (.i .i64 x4)), (.p (.s x5))])]
def O_impl_Order (r : Int) : AV := (.c (.p (.i .i64 r)))
abbrev CT_impl_Order (n : Nat) : CTab := mkCT [(54, E_cmp_Compare_int64 n (noEnt)), (55, E_cmp_Compare_string n (noEnt)), (53, E_cmp_Or_int n (noEnt))]
abbrev LT_impl_Order (n : Nat) : LTab := mkLT []
def T_impl_Order (n : Nat) (x0 : Int) (x1 : Int) (x2 : ByteArray) (x3 : Int) (x4 : Int) (x5 : ByteArray) : Tr (Int) := (.opt (F_cmp_Compare_int64 n x0 x3) fun r52 => (.opt (F_cmp_Compare_int64 n x1 x4) fun r53 => (.opt (F_cmp_Compare_string n x2 x5) fun r56 => (.ask (decide (3 = ([[(.i .i64 r52)], [(.i .i64 r53)], [(.i .i64 r56)]] : List (List PV)).length)) (.opt (F_cmp_Or_int n ([[(.i .i64 r52)], [(.i .i64 r53)], [(.i .i64 r56)]] : List (List PV))) fun r62 => (.done r62)) .fail))))
def F_impl_Order : Nat → Int → Int → ByteArray → Int → Int → ByteArray → Option (Int)
  | 0, _, _, _, _, _, _ => none
  | n + 1, x0, x1, x2, x3, x4, x5 => (T_impl_Order n x0 x1 x2 x3 x4 x5).run
theorem ft_impl_Order (n : Nat) (x0 : Int) (x1 : Int) (x2 : ByteArray) (x3 : Int) (x4 : Int) (x5 : ByteArray) : funT (CT_impl_Order n) (LT_impl_Order n) K_impl_Order (A_impl_Order x0 x1 x2 x3 x4 x5) = (T_impl_Order n x0 x1 x2 x3 x4 x5).bind fun r => .done (O_impl_Order r) := by kernel_rfl
theorem ct_impl_Order (n : Nat) : CTok (CT_impl_Order n) (runs KP lib n) := mkCT_cons (eo_cmp_Compare_int64 n (noEnt_ok)) (mkCT_cons (eo_cmp_Compare_string n (noEnt_ok)) (mkCT_cons (eo_cmp_Or_int n (noEnt_ok)) (mkCT_nil)))
theorem th_impl_Order : ∀ (n : Nat) (x0 : Int) (x1 : Int) (x2 : ByteArray) (x3 : Int) (x4 : Int) (x5 : ByteArray) (r : Int), F_impl_Order n x0 x1 x2 x3 x4 x5 = some r → runs KP lib n 25 (A_impl_Order x0 x1 x2 x3 x4 x5) [] = some ⟨O_impl_Order r, [], []⟩
  | 0, x0, x1, x2, x3, x4, x5, r, h => by cases h
  | n + 1, x0, x1, x2, x3, x4, x5, r, h => fun_step (kf := K_impl_Order) rfl (ct_impl_Order n) (noLoops rfl) (ft_impl_Order n x0 x1 x2 x3 x4 x5) h
def FH_impl_Order (n : Nat) : List (List (List Hv)) → Option (Int)
  | [[[.i x0], [.i x1], [.s x2]], [[.i x3], [.i x4], [.s x5]]] => F_impl_Order n x0 x1 x2 x3 x4 x5
  | _ => none
def E_impl_Order (n : Nat) (d : List AV → Tr AV) : List AV → Tr AV := cent (A_impl_Order (0) (0) (⟨#[]⟩) (0) (0) (⟨#[]⟩)) (FH_impl_Order n) O_impl_Order d
theorem eo_impl_Order (n : Nat) {d : List AV → Tr AV} (hd : ∀ ar r, (d ar).run = some r → runs KP lib n 25 ar [] = some ⟨r, [], []⟩) : ∀ ar r, (E_impl_Order n d ar).run = some r → runs KP lib n 25 ar [] = some ⟨r, [], []⟩ :=
  cent_ok (fun hs r h => by
    unfold FH_impl_Order at h
    split at h
    · exact ⟨A_impl_Order _ _ _ _ _ _, rfl, th_impl_Order n _ _ _ _ _ _ r h⟩
    · cases h) hd
/-! ### impl.truth -/
def A_impl_truth (x0 : Bool) : List AV := [(.c (.p (.b x0)))]
def O_impl_truth (r : Int × Int × ByteArray) : AV := (.agg [(.p (.i .i64 r.1)), (.p (.i .i64 r.2.1)), (.p (.s r.2.2))])
abbrev CT_impl_truth (n : Nat) : CTab := mkCT []
abbrev LT_impl_truth (n : Nat) : LTab := mkLT []
def T_impl_truth (n : Nat) (x0 : Bool) : Tr (Int × Int × ByteArray) := (.ask (x0) (.done ((3 : Int), (1 : Int), (⟨#[]⟩ : ByteArray))) (.done ((3 : Int), (0 : Int), (⟨#[]⟩ : ByteArray))))
def F_impl_truth : Nat → Bool → Option (Int × Int × ByteArray)
  | 0, _ => none
  | n + 1, x0 => (T_impl_truth n x0).run
theorem ft_impl_truth (n : Nat) (x0 : Bool) : funT (CT_impl_truth n) (LT_impl_truth n) K_impl_truth (A_impl_truth x0) = (T_impl_truth n x0).bind fun r => .done (O_impl_truth r) := by kernel_rfl
theorem ct_impl_truth (n : Nat) : CTok (CT_impl_truth n) (runs KP lib n) := mkCT_nil
theorem th_impl_truth : ∀ (n : Nat) (x0 : Bool) (r : Int × Int × ByteArray), F_impl_truth n x0 = some r → runs KP lib n 49 (A_impl_truth x0) [] = some ⟨O_impl_truth r, [], []⟩
  | 0, x0, r, h => by cases h
  | n + 1, x0, r, h => fun_step (kf := K_impl_truth) rfl (ct_impl_truth n) (noLoops rfl) (ft_impl_truth n x0) h
def FH_impl_truth (n : Nat) : List (List (List Hv)) → Option (Int × Int × ByteArray)
  | [[[.b x0]]] => F_impl_truth n x0
  | _ => none
def E_impl_truth (n : Nat) (d : List AV → Tr AV) : List AV → Tr AV := cent (A_impl_truth (false)) (FH_impl_truth n) O_impl_truth d
theorem eo_impl_truth (n : Nat) {d : List AV → Tr AV} (hd : ∀ ar r, (d ar).run = some r → runs KP lib n 49 ar [] = some ⟨r, [], []⟩) : ∀ ar r, (E_impl_truth n d ar).run = some r → runs KP lib n 49 ar [] = some ⟨r, [], []⟩ :=
  cent_ok (fun hs r h => by
    unfold FH_impl_truth at h
    split at h
    · exact ⟨A_impl_truth _, rfl, th_impl_truth n _ r h⟩
    · cases h) hd
/-! ### impl.Held -/
def A_impl_Held (x0 : Int) (x1 : Int) (x2 : Int) (x3 : ByteArray) (x4 : Int) (x5 : Int) (x6 : ByteArray) : List AV := [(.c (.p (.i .i64 x0))), (.agg [(.p (.i .i64 x1)), (.p (.i .i64 x2)), (.p (.s x3))]), (.agg [(.p (.i .i64 x4)), (.p (.i .i64 x5)), (.p (.s x6))])]
def O_impl_Held (r : Int × Int × ByteArray) : AV := (.agg [(.p (.i .i64 r.1)), (.p (.i .i64 r.2.1)), (.p (.s r.2.2))])
abbrev CT_impl_Held (n : Nat) : CTab := mkCT [(47, E_impl_ValueOk n (noEnt)), (42, E_impl_fault n (noEnt)), (48, E_impl_within n (noEnt)), (25, E_impl_Order n (noEnt)), (49, E_impl_truth n (noEnt))]
abbrev LT_impl_Held (n : Nat) : LTab := mkLT []
def T_impl_Held (n : Nat) (x0 : Int) (x1 : Int) (x2 : Int) (x3 : ByteArray) (x4 : Int) (x5 : Int) (x6 : ByteArray) : Tr (Int × Int × ByteArray) := (.opt (F_impl_ValueOk n x1 x2 x3) fun r44 => (.ask ((!r44)) (.opt (F_impl_fault n (2 : Int)) fun r45 => (.done (r45.1, r45.2.1, r45.2.2))) (.opt (F_impl_ValueOk n x4 x5 x6) fun r46 => (.ask ((!r46)) (.opt (F_impl_fault n (2 : Int)) fun r47 => (.done (r47.1, r47.2.1, r47.2.2))) (.opt (F_impl_within n x0 (6 : Int) (11 : Int)) fun r48 => (.ask ((!r48)) (.opt (F_impl_fault n (2 : Int)) fun r49 => (.done (r49.1, r49.2.1, r49.2.2))) (.ask ((x1 == (4 : Int))) (.done (x1, x2, x3)) (.ask ((x4 == (4 : Int))) (.done (x4, x5, x6)) (.ask ((x1 == (0 : Int))) (.opt (F_impl_Order n x4 x2 x3 x4 x5 x6) fun r63 => (.ask (decide (6 = ([[(.b (r63 == (0 : Int)))], [(.b (r63 != (0 : Int)))], [(.b (decide (r63 < (0 : Int))))], [(.b (decide (r63 ≤ (0 : Int))))], [(.b (decide (r63 > (0 : Int))))], [(.b (decide (r63 ≥ (0 : Int))))]] : List (List PV)).length ∧ 0 ≤ (IntKind.i64.wrap (x0 - (6 : Int))) ∧ (IntKind.i64.wrap (x0 - (6 : Int))) < ((6 : Nat) : Int))) (.opt (([[(.b (r63 == (0 : Int)))], [(.b (r63 != (0 : Int)))], [(.b (decide (r63 < (0 : Int))))], [(.b (decide (r63 ≤ (0 : Int))))], [(.b (decide (r63 > (0 : Int))))], [(.b (decide (r63 ≥ (0 : Int))))]] : List (List PV))[((IntKind.i64.wrap (x0 - (6 : Int)))).toNat]?) fun e64 => (.opt (cellB e64 0) fun y65 => (.opt (F_impl_truth n y65) fun r66 => (.done (r66.1, r66.2.1, r66.2.2))))) .fail)) (.ask ((x4 == (0 : Int))) (.opt (F_impl_Order n x1 x2 x3 x1 x5 x6) fun r67 => (.ask (decide (6 = ([[(.b (r67 == (0 : Int)))], [(.b (r67 != (0 : Int)))], [(.b (decide (r67 < (0 : Int))))], [(.b (decide (r67 ≤ (0 : Int))))], [(.b (decide (r67 > (0 : Int))))], [(.b (decide (r67 ≥ (0 : Int))))]] : List (List PV)).length ∧ 0 ≤ (IntKind.i64.wrap (x0 - (6 : Int))) ∧ (IntKind.i64.wrap (x0 - (6 : Int))) < ((6 : Nat) : Int))) (.opt (([[(.b (r67 == (0 : Int)))], [(.b (r67 != (0 : Int)))], [(.b (decide (r67 < (0 : Int))))], [(.b (decide (r67 ≤ (0 : Int))))], [(.b (decide (r67 > (0 : Int))))], [(.b (decide (r67 ≥ (0 : Int))))]] : List (List PV))[((IntKind.i64.wrap (x0 - (6 : Int)))).toNat]?) fun e68 => (.opt (cellB e68 0) fun y69 => (.opt (F_impl_truth n y69) fun r70 => (.done (r70.1, r70.2.1, r70.2.2))))) .fail)) (.opt (F_impl_Order n x1 x2 x3 x4 x5 x6) fun r71 => (.ask (decide (6 = ([[(.b (r71 == (0 : Int)))], [(.b (r71 != (0 : Int)))], [(.b (decide (r71 < (0 : Int))))], [(.b (decide (r71 ≤ (0 : Int))))], [(.b (decide (r71 > (0 : Int))))], [(.b (decide (r71 ≥ (0 : Int))))]] : List (List PV)).length ∧ 0 ≤ (IntKind.i64.wrap (x0 - (6 : Int))) ∧ (IntKind.i64.wrap (x0 - (6 : Int))) < ((6 : Nat) : Int))) (.opt (([[(.b (r71 == (0 : Int)))], [(.b (r71 != (0 : Int)))], [(.b (decide (r71 < (0 : Int))))], [(.b (decide (r71 ≤ (0 : Int))))], [(.b (decide (r71 > (0 : Int))))], [(.b (decide (r71 ≥ (0 : Int))))]] : List (List PV))[((IntKind.i64.wrap (x0 - (6 : Int)))).toNat]?) fun e72 => (.opt (cellB e72 0) fun y73 => (.opt (F_impl_truth n y73) fun r74 => (.done (r74.1, r74.2.1, r74.2.2))))) .fail))))))))))))
def F_impl_Held : Nat → Int → Int → Int → ByteArray → Int → Int → ByteArray → Option (Int × Int × ByteArray)
  | 0, _, _, _, _, _, _, _ => none
  | n + 1, x0, x1, x2, x3, x4, x5, x6 => (T_impl_Held n x0 x1 x2 x3 x4 x5 x6).run
theorem ft_impl_Held (n : Nat) (x0 : Int) (x1 : Int) (x2 : Int) (x3 : ByteArray) (x4 : Int) (x5 : Int) (x6 : ByteArray) : funT (CT_impl_Held n) (LT_impl_Held n) K_impl_Held (A_impl_Held x0 x1 x2 x3 x4 x5 x6) = (T_impl_Held n x0 x1 x2 x3 x4 x5 x6).bind fun r => .done (O_impl_Held r) := by kernel_rfl
theorem ct_impl_Held (n : Nat) : CTok (CT_impl_Held n) (runs KP lib n) := mkCT_cons (eo_impl_ValueOk n (noEnt_ok)) (mkCT_cons (eo_impl_fault n (noEnt_ok)) (mkCT_cons (eo_impl_within n (noEnt_ok)) (mkCT_cons (eo_impl_Order n (noEnt_ok)) (mkCT_cons (eo_impl_truth n (noEnt_ok)) (mkCT_nil)))))
theorem th_impl_Held : ∀ (n : Nat) (x0 : Int) (x1 : Int) (x2 : Int) (x3 : ByteArray) (x4 : Int) (x5 : Int) (x6 : ByteArray) (r : Int × Int × ByteArray), F_impl_Held n x0 x1 x2 x3 x4 x5 x6 = some r → runs KP lib n 21 (A_impl_Held x0 x1 x2 x3 x4 x5 x6) [] = some ⟨O_impl_Held r, [], []⟩
  | 0, x0, x1, x2, x3, x4, x5, x6, r, h => by cases h
  | n + 1, x0, x1, x2, x3, x4, x5, x6, r, h => fun_step (kf := K_impl_Held) rfl (ct_impl_Held n) (noLoops rfl) (ft_impl_Held n x0 x1 x2 x3 x4 x5 x6) h
def FH_impl_Held (n : Nat) : List (List (List Hv)) → Option (Int × Int × ByteArray)
  | [[[.i x0]], [[.i x1], [.i x2], [.s x3]], [[.i x4], [.i x5], [.s x6]]] => F_impl_Held n x0 x1 x2 x3 x4 x5 x6
  | _ => none
def E_impl_Held (n : Nat) (d : List AV → Tr AV) : List AV → Tr AV := cent (A_impl_Held (0) (0) (0) (⟨#[]⟩) (0) (0) (⟨#[]⟩)) (FH_impl_Held n) O_impl_Held d
theorem eo_impl_Held (n : Nat) {d : List AV → Tr AV} (hd : ∀ ar r, (d ar).run = some r → runs KP lib n 21 ar [] = some ⟨r, [], []⟩) : ∀ ar r, (E_impl_Held n d ar).run = some r → runs KP lib n 21 ar [] = some ⟨r, [], []⟩ :=
  cent_ok (fun hs r h => by
    unfold FH_impl_Held at h
    split at h
    · exact ⟨A_impl_Held _ _ _ _ _ _ _, rfl, th_impl_Held n _ _ _ _ _ _ _ r h⟩
    · cases h) hd
/-! ### laws.eqValue -/
def A_laws_eqValue (x0 : Int) (x1 : Int) (x2 : ByteArray) (x3 : Int) (x4 : Int) (x5 : ByteArray) : List AV := [(.agg [(.p (.i .i64 x0)), (.p (.i .i64 x1)), (.p (.s x2))]), (.agg [(.p (.i .i64 x3)), (.p (.i .i64 x4)), (.p (.s x5))])]
def O_laws_eqValue (r : Bool) : AV := (.c (.p (.b r)))
abbrev CT_laws_eqValue (n : Nat) : CTab := mkCT []
abbrev LT_laws_eqValue (n : Nat) : LTab := mkLT []
def T_laws_eqValue (n : Nat) (x0 : Int) (x1 : Int) (x2 : ByteArray) (x3 : Int) (x4 : Int) (x5 : ByteArray) : Tr (Bool) := (.ask ((x0 != x3)) (.done false) (.ask ((x1 != x4)) (.done false) (.ask ((!(x2.toList == x5.toList))) (.done false) (.done true))))
def F_laws_eqValue : Nat → Int → Int → ByteArray → Int → Int → ByteArray → Option (Bool)
  | 0, _, _, _, _, _, _ => none
  | n + 1, x0, x1, x2, x3, x4, x5 => (T_laws_eqValue n x0 x1 x2 x3 x4 x5).run
theorem ft_laws_eqValue (n : Nat) (x0 : Int) (x1 : Int) (x2 : ByteArray) (x3 : Int) (x4 : Int) (x5 : ByteArray) : funT (CT_laws_eqValue n) (LT_laws_eqValue n) K_laws_eqValue (A_laws_eqValue x0 x1 x2 x3 x4 x5) = (T_laws_eqValue n x0 x1 x2 x3 x4 x5).bind fun r => .done (O_laws_eqValue r) := by kernel_rfl
theorem ct_laws_eqValue (n : Nat) : CTok (CT_laws_eqValue n) (runs KP lib n) := mkCT_nil
theorem th_laws_eqValue : ∀ (n : Nat) (x0 : Int) (x1 : Int) (x2 : ByteArray) (x3 : Int) (x4 : Int) (x5 : ByteArray) (r : Bool), F_laws_eqValue n x0 x1 x2 x3 x4 x5 = some r → runs KP lib n 15 (A_laws_eqValue x0 x1 x2 x3 x4 x5) [] = some ⟨O_laws_eqValue r, [], []⟩
  | 0, x0, x1, x2, x3, x4, x5, r, h => by cases h
  | n + 1, x0, x1, x2, x3, x4, x5, r, h => fun_step (kf := K_laws_eqValue) rfl (ct_laws_eqValue n) (noLoops rfl) (ft_laws_eqValue n x0 x1 x2 x3 x4 x5) h
def FH_laws_eqValue (n : Nat) : List (List (List Hv)) → Option (Bool)
  | [[[.i x0], [.i x1], [.s x2]], [[.i x3], [.i x4], [.s x5]]] => F_laws_eqValue n x0 x1 x2 x3 x4 x5
  | _ => none
def E_laws_eqValue (n : Nat) (d : List AV → Tr AV) : List AV → Tr AV := cent (A_laws_eqValue (0) (0) (⟨#[]⟩) (0) (0) (⟨#[]⟩)) (FH_laws_eqValue n) O_laws_eqValue d
theorem eo_laws_eqValue (n : Nat) {d : List AV → Tr AV} (hd : ∀ ar r, (d ar).run = some r → runs KP lib n 15 ar [] = some ⟨r, [], []⟩) : ∀ ar r, (E_laws_eqValue n d ar).run = some r → runs KP lib n 15 ar [] = some ⟨r, [], []⟩ :=
  cent_ok (fun hs r h => by
    unfold FH_laws_eqValue at h
    split at h
    · exact ⟨A_laws_eqValue _ _ _ _ _ _, rfl, th_laws_eqValue n _ _ _ _ _ _ r h⟩
    · cases h) hd
/-! ### laws.FnExactHeld -/
def A_laws_FnExactHeld (x0 : Int) (x1 : Int) (x2 : Int) (x3 : ByteArray) (x4 : Int) (x5 : Int) (x6 : ByteArray) : List AV := [(.c (.p (.i .i64 x0))), (.agg [(.p (.i .i64 x1)), (.p (.i .i64 x2)), (.p (.s x3))]), (.agg [(.p (.i .i64 x4)), (.p (.i .i64 x5)), (.p (.s x6))])]
def O_laws_FnExactHeld (r : Bool) : AV := (.c (.p (.b r)))
abbrev CT_laws_FnExactHeld (n : Nat) : CTab := mkCT [(11, E_laws_szValue n (noEnt)), (13, E_laws_toValue n (noEnt)), (20, E_spec_Held n (noEnt)), (21, E_impl_Held n (noEnt)), (15, E_laws_eqValue n (noEnt))]
abbrev LT_laws_FnExactHeld (n : Nat) : LTab := mkLT []
def T_laws_FnExactHeld (n : Nat) (x0 : Int) (x1 : Int) (x2 : Int) (x3 : ByteArray) (x4 : Int) (x5 : Int) (x6 : ByteArray) : Tr (Bool) := (.opt (F_laws_szValue n x1 x2 x3 (1048576 : Int)) fun r1 => (.ask ((decide (r1 < (0 : Int)))) (.done true) (.opt (F_laws_szValue n x4 x5 x6 r1) fun r2 => (.ask ((decide (r2 < (0 : Int)))) (.done true) (.opt (F_laws_toValue n x1 x2 x3) fun r3 => (.opt (F_laws_toValue n x4 x5 x6) fun r4 => (.opt (F_spec_Held n x0 r3.1 r3.2.1 r3.2.2 r4.1 r4.2.1 r4.2.2) fun r32 => (.opt (F_laws_toValue n x1 x2 x3) fun r33 => (.opt (F_laws_toValue n x4 x5 x6) fun r34 => (.opt (F_impl_Held n x0 r33.1 r33.2.1 r33.2.2 r34.1 r34.2.1 r34.2.2) fun r75 => (.opt (F_laws_eqValue n r75.1 r75.2.1 r75.2.2 r32.1 r32.2.1 r32.2.2) fun r76 => (.ask ((!r76)) (.done false) (.done true)))))))))))))
def F_laws_FnExactHeld : Nat → Int → Int → Int → ByteArray → Int → Int → ByteArray → Option (Bool)
  | 0, _, _, _, _, _, _, _ => none
  | n + 1, x0, x1, x2, x3, x4, x5, x6 => (T_laws_FnExactHeld n x0 x1 x2 x3 x4 x5 x6).run
theorem ft_laws_FnExactHeld (n : Nat) (x0 : Int) (x1 : Int) (x2 : Int) (x3 : ByteArray) (x4 : Int) (x5 : Int) (x6 : ByteArray) : funT (CT_laws_FnExactHeld n) (LT_laws_FnExactHeld n) K_laws_FnExactHeld (A_laws_FnExactHeld x0 x1 x2 x3 x4 x5 x6) = (T_laws_FnExactHeld n x0 x1 x2 x3 x4 x5 x6).bind fun r => .done (O_laws_FnExactHeld r) := by kernel_rfl
theorem ct_laws_FnExactHeld (n : Nat) : CTok (CT_laws_FnExactHeld n) (runs KP lib n) := mkCT_cons (eo_laws_szValue n (noEnt_ok)) (mkCT_cons (eo_laws_toValue n (noEnt_ok)) (mkCT_cons (eo_spec_Held n (noEnt_ok)) (mkCT_cons (eo_impl_Held n (noEnt_ok)) (mkCT_cons (eo_laws_eqValue n (noEnt_ok)) (mkCT_nil)))))
theorem th_laws_FnExactHeld : ∀ (n : Nat) (x0 : Int) (x1 : Int) (x2 : Int) (x3 : ByteArray) (x4 : Int) (x5 : Int) (x6 : ByteArray) (r : Bool), F_laws_FnExactHeld n x0 x1 x2 x3 x4 x5 x6 = some r → runs KP lib n 6 (A_laws_FnExactHeld x0 x1 x2 x3 x4 x5 x6) [] = some ⟨O_laws_FnExactHeld r, [], []⟩
  | 0, x0, x1, x2, x3, x4, x5, x6, r, h => by cases h
  | n + 1, x0, x1, x2, x3, x4, x5, x6, r, h => fun_step (kf := K_laws_FnExactHeld) rfl (ct_laws_FnExactHeld n) (noLoops rfl) (ft_laws_FnExactHeld n x0 x1 x2 x3 x4 x5 x6) h
def FH_laws_FnExactHeld (n : Nat) : List (List (List Hv)) → Option (Bool)
  | [[[.i x0]], [[.i x1], [.i x2], [.s x3]], [[.i x4], [.i x5], [.s x6]]] => F_laws_FnExactHeld n x0 x1 x2 x3 x4 x5 x6
  | _ => none
def E_laws_FnExactHeld (n : Nat) (d : List AV → Tr AV) : List AV → Tr AV := cent (A_laws_FnExactHeld (0) (0) (0) (⟨#[]⟩) (0) (0) (⟨#[]⟩)) (FH_laws_FnExactHeld n) O_laws_FnExactHeld d
theorem eo_laws_FnExactHeld (n : Nat) {d : List AV → Tr AV} (hd : ∀ ar r, (d ar).run = some r → runs KP lib n 6 ar [] = some ⟨r, [], []⟩) : ∀ ar r, (E_laws_FnExactHeld n d ar).run = some r → runs KP lib n 6 ar [] = some ⟨r, [], []⟩ :=
  cent_ok (fun hs r h => by
    unfold FH_laws_FnExactHeld at h
    split at h
    · exact ⟨A_laws_FnExactHeld _ _ _ _ _ _ _, rfl, th_laws_FnExactHeld n _ _ _ _ _ _ _ r h⟩
    · cases h) hd
end Go.Proofs.Ytaannlnlddbgdaa.KFnExactHeld
