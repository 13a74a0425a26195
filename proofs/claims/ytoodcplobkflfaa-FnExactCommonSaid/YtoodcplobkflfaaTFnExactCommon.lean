/-
  The trees of what FnExactCommon calls: plain functions, and that the engine reckons just these. No condition.
-/
import Derived.Test.YtoodcplobkflfaaKFnExactCommon
import Derived.Test.YtoodcplobkflfaaE31
import Derived.KernelRfl
namespace Go.Proofs.Ytoodcplobkflfaa.KFnExactCommon
open Go.Eng
set_option linter.unusedVariables false
set_option maxRecDepth 100000
def lib : FuncId → List AV → Option AV := fun _ _ => none
/-! ### laws.toRef -/
def A_laws_toRef (x0 : Int) (x1 : Int) : List AV := [(.agg [(.p (.i .i64 x0)), (.p (.i .i64 x1))])]
def O_laws_toRef (r : Int × Int) : AV := (.agg [(.p (.i .i64 r.1)), (.p (.i .i64 r.2))])
abbrev CT_laws_toRef (n : Nat) : CTab := mkCT []
abbrev LT_laws_toRef (n : Nat) : LTab := mkLT []
def T_laws_toRef (n : Nat) (x0 : Int) (x1 : Int) : Tr (Int × Int) := (.done (x0, x1))
def F_laws_toRef : Nat → Int → Int → Option (Int × Int)
  | 0, _, _ => none
  | n + 1, x0, x1 => (T_laws_toRef n x0 x1).run
theorem ft_laws_toRef (n : Nat) (x0 : Int) (x1 : Int) : funT (CT_laws_toRef n) (LT_laws_toRef n) K_laws_toRef (A_laws_toRef x0 x1) = (T_laws_toRef n x0 x1).bind fun r => .done (O_laws_toRef r) := by kernel_rfl
theorem ct_laws_toRef (n : Nat) : CTok (CT_laws_toRef n) (runs KP lib n) := mkCT_nil
theorem th_laws_toRef : ∀ (n : Nat) (x0 : Int) (x1 : Int) (r : Int × Int), F_laws_toRef n x0 x1 = some r → runs KP lib n 16 (A_laws_toRef x0 x1) [] = some ⟨O_laws_toRef r, [], []⟩
  | 0, x0, x1, r, h => by cases h
  | n + 1, x0, x1, r, h => fun_step (kf := K_laws_toRef) rfl (ct_laws_toRef n) (noLoops rfl) (ft_laws_toRef n x0 x1) h
def FH_laws_toRef (n : Nat) : List (List (List Hv)) → Option (Int × Int)
  | [[[.i x0], [.i x1]]] => F_laws_toRef n x0 x1
  | _ => none
def E_laws_toRef (n : Nat) (d : List AV → Tr AV) : List AV → Tr AV := cent (A_laws_toRef (0) (0)) (FH_laws_toRef n) O_laws_toRef d
theorem eo_laws_toRef (n : Nat) {d : List AV → Tr AV} (hd : ∀ ar r, (d ar).run = some r → runs KP lib n 16 ar [] = some ⟨r, [], []⟩) : ∀ ar r, (E_laws_toRef n d ar).run = some r → runs KP lib n 16 ar [] = some ⟨r, [], []⟩ :=
  cent_ok (fun hs r h => by
    unfold FH_laws_toRef at h
    split at h
    · exact ⟨A_laws_toRef _ _, rfl, th_laws_toRef n _ _ r h⟩
    · cases h) hd
/-! ### laws.toArea -/
def A_laws_toArea (x0 : Int) (x1 : Int) (x2 : Int) (x3 : Int) : List AV := [(.agg [(.p (.i .i64 x0)), (.p (.i .i64 x1)), (.p (.i .i64 x2)), (.p (.i .i64 x3))])]
def O_laws_toArea (r : Int × Int × Int × Int) : AV := (.agg [(.p (.i .i64 r.1)), (.p (.i .i64 r.2.1)), (.p (.i .i64 r.2.2.1)), (.p (.i .i64 r.2.2.2))])
abbrev CT_laws_toArea (n : Nat) : CTab := mkCT [(16, E_laws_toRef n (noEnt))]
abbrev LT_laws_toArea (n : Nat) : LTab := mkLT []
def T_laws_toArea (n : Nat) (x0 : Int) (x1 : Int) (x2 : Int) (x3 : Int) : Tr (Int × Int × Int × Int) := (.opt (F_laws_toRef n x0 x1) fun r1 => (.opt (F_laws_toRef n x2 x3) fun r2 => (.done (r1.1, r1.2, r2.1, r2.2))))
def F_laws_toArea : Nat → Int → Int → Int → Int → Option (Int × Int × Int × Int)
  | 0, _, _, _, _ => none
  | n + 1, x0, x1, x2, x3 => (T_laws_toArea n x0 x1 x2 x3).run
theorem ft_laws_toArea (n : Nat) (x0 : Int) (x1 : Int) (x2 : Int) (x3 : Int) : funT (CT_laws_toArea n) (LT_laws_toArea n) K_laws_toArea (A_laws_toArea x0 x1 x2 x3) = (T_laws_toArea n x0 x1 x2 x3).bind fun r => .done (O_laws_toArea r) := by kernel_rfl
theorem ct_laws_toArea (n : Nat) : CTok (CT_laws_toArea n) (runs KP lib n) := mkCT_cons (eo_laws_toRef n (noEnt_ok)) (mkCT_nil)
theorem th_laws_toArea : ∀ (n : Nat) (x0 : Int) (x1 : Int) (x2 : Int) (x3 : Int) (r : Int × Int × Int × Int), F_laws_toArea n x0 x1 x2 x3 = some r → runs KP lib n 21 (A_laws_toArea x0 x1 x2 x3) [] = some ⟨O_laws_toArea r, [], []⟩
  | 0, x0, x1, x2, x3, r, h => by cases h
  | n + 1, x0, x1, x2, x3, r, h => fun_step (kf := K_laws_toArea) rfl (ct_laws_toArea n) (noLoops rfl) (ft_laws_toArea n x0 x1 x2 x3) h
def FH_laws_toArea (n : Nat) : List (List (List Hv)) → Option (Int × Int × Int × Int)
  | [[[.i x0], [.i x1], [.i x2], [.i x3]]] => F_laws_toArea n x0 x1 x2 x3
  | _ => none
def E_laws_toArea (n : Nat) (d : List AV → Tr AV) : List AV → Tr AV := cent (A_laws_toArea (0) (0) (0) (0)) (FH_laws_toArea n) O_laws_toArea d
theorem eo_laws_toArea (n : Nat) {d : List AV → Tr AV} (hd : ∀ ar r, (d ar).run = some r → runs KP lib n 21 ar [] = some ⟨r, [], []⟩) : ∀ ar r, (E_laws_toArea n d ar).run = some r → runs KP lib n 21 ar [] = some ⟨r, [], []⟩ :=
  cent_ok (fun hs r h => by
    unfold FH_laws_toArea at h
    split at h
    · exact ⟨A_laws_toArea _ _ _ _, rfl, th_laws_toArea n _ _ _ _ r h⟩
    · cases h) hd
/-! ### spec.l1In -/
def A_spec_l1In (x0 : Int) (x1 : Int) (x2 : Int) : List AV := [(.c (.p (.i .i64 x0))), (.c (.p (.i .i64 x1))), (.c (.p (.i .i64 x2)))]
def O_spec_l1In (r : Bool) : AV := (.c (.p (.b r)))
abbrev CT_spec_l1In (n : Nat) : CTab := mkCT []
abbrev LT_spec_l1In (n : Nat) : LTab := mkLT []
def T_spec_l1In (n : Nat) (x0 : Int) (x1 : Int) (x2 : Int) : Tr (Bool) := (.ask ((decide (x0 ≥ x1))) (.done (decide (x0 ≤ x2))) (.done false))
def F_spec_l1In : Nat → Int → Int → Int → Option (Bool)
  | 0, _, _, _ => none
  | n + 1, x0, x1, x2 => (T_spec_l1In n x0 x1 x2).run
theorem ft_spec_l1In (n : Nat) (x0 : Int) (x1 : Int) (x2 : Int) : funT (CT_spec_l1In n) (LT_spec_l1In n) K_spec_l1In (A_spec_l1In x0 x1 x2) = (T_spec_l1In n x0 x1 x2).bind fun r => .done (O_spec_l1In r) := by kernel_rfl
theorem ct_spec_l1In (n : Nat) : CTok (CT_spec_l1In n) (runs KP lib n) := mkCT_nil
theorem th_spec_l1In : ∀ (n : Nat) (x0 : Int) (x1 : Int) (x2 : Int) (r : Bool), F_spec_l1In n x0 x1 x2 = some r → runs KP lib n 51 (A_spec_l1In x0 x1 x2) [] = some ⟨O_spec_l1In r, [], []⟩
  | 0, x0, x1, x2, r, h => by cases h
  | n + 1, x0, x1, x2, r, h => fun_step (kf := K_spec_l1In) rfl (ct_spec_l1In n) (noLoops rfl) (ft_spec_l1In n x0 x1 x2) h
def FH_spec_l1In (n : Nat) : List (List (List Hv)) → Option (Bool)
  | [[[.i x0]], [[.i x1]], [[.i x2]]] => F_spec_l1In n x0 x1 x2
  | _ => none
def E_spec_l1In (n : Nat) (d : List AV → Tr AV) : List AV → Tr AV := cent (A_spec_l1In (0) (0) (0)) (FH_spec_l1In n) O_spec_l1In d
theorem eo_spec_l1In (n : Nat) {d : List AV → Tr AV} (hd : ∀ ar r, (d ar).run = some r → runs KP lib n 51 ar [] = some ⟨r, [], []⟩) : ∀ ar r, (E_spec_l1In n d ar).run = some r → runs KP lib n 51 ar [] = some ⟨r, [], []⟩ :=
  cent_ok (fun hs r h => by
    unfold FH_spec_l1In at h
    split at h
    · exact ⟨A_spec_l1In _ _ _, rfl, th_spec_l1In n _ _ _ r h⟩
    · cases h) hd
/-! ### spec.RefOk -/
def A_spec_RefOk (x0 : Int) (x1 : Int) : List AV := [(.agg [(.p (.i .i64 x0)), (.p (.i .i64 x1))])]
def O_spec_RefOk (r : Bool) : AV := (.c (.p (.b r)))
abbrev CT_spec_RefOk (n : Nat) : CTab := mkCT [(51, E_spec_l1In n (noEnt))]
abbrev LT_spec_RefOk (n : Nat) : LTab := mkLT []
def T_spec_RefOk (n : Nat) (x0 : Int) (x1 : Int) : Tr (Bool) := (.opt (F_spec_l1In n x0 (1 : Int) (52 : Int)) fun r5 => (.ask (r5) (.opt (F_spec_l1In n x1 (1 : Int) (99 : Int)) fun r6 => (.done r6)) (.done false)))
def F_spec_RefOk : Nat → Int → Int → Option (Bool)
  | 0, _, _ => none
  | n + 1, x0, x1 => (T_spec_RefOk n x0 x1).run
theorem ft_spec_RefOk (n : Nat) (x0 : Int) (x1 : Int) : funT (CT_spec_RefOk n) (LT_spec_RefOk n) K_spec_RefOk (A_spec_RefOk x0 x1) = (T_spec_RefOk n x0 x1).bind fun r => .done (O_spec_RefOk r) := by kernel_rfl
theorem ct_spec_RefOk (n : Nat) : CTok (CT_spec_RefOk n) (runs KP lib n) := mkCT_cons (eo_spec_l1In n (noEnt_ok)) (mkCT_nil)
theorem th_spec_RefOk : ∀ (n : Nat) (x0 : Int) (x1 : Int) (r : Bool), F_spec_RefOk n x0 x1 = some r → runs KP lib n 15 (A_spec_RefOk x0 x1) [] = some ⟨O_spec_RefOk r, [], []⟩
  | 0, x0, x1, r, h => by cases h
  | n + 1, x0, x1, r, h => fun_step (kf := K_spec_RefOk) rfl (ct_spec_RefOk n) (noLoops rfl) (ft_spec_RefOk n x0 x1) h
def FH_spec_RefOk (n : Nat) : List (List (List Hv)) → Option (Bool)
  | [[[.i x0], [.i x1]]] => F_spec_RefOk n x0 x1
  | _ => none
def E_spec_RefOk (n : Nat) (d : List AV → Tr AV) : List AV → Tr AV := cent (A_spec_RefOk (0) (0)) (FH_spec_RefOk n) O_spec_RefOk d
theorem eo_spec_RefOk (n : Nat) {d : List AV → Tr AV} (hd : ∀ ar r, (d ar).run = some r → runs KP lib n 15 ar [] = some ⟨r, [], []⟩) : ∀ ar r, (E_spec_RefOk n d ar).run = some r → runs KP lib n 15 ar [] = some ⟨r, [], []⟩ :=
  cent_ok (fun hs r h => by
    unfold FH_spec_RefOk at h
    split at h
    · exact ⟨A_spec_RefOk _ _, rfl, th_spec_RefOk n _ _ r h⟩
    · cases h) hd
/-! ### spec.AreaOk -/
def A_spec_AreaOk (x0 : Int) (x1 : Int) (x2 : Int) (x3 : Int) : List AV := [(.agg [(.p (.i .i64 x0)), (.p (.i .i64 x1)), (.p (.i .i64 x2)), (.p (.i .i64 x3))])]
def O_spec_AreaOk (r : Bool) : AV := (.c (.p (.b r)))
abbrev CT_spec_AreaOk (n : Nat) : CTab := mkCT [(15, E_spec_RefOk n (noEnt))]
abbrev LT_spec_AreaOk (n : Nat) : LTab := mkLT []
def T_spec_AreaOk (n : Nat) (x0 : Int) (x1 : Int) (x2 : Int) (x3 : Int) : Tr (Bool) := (.opt (F_spec_RefOk n x0 x1) fun r7 => (.ask (r7) (.opt (F_spec_RefOk n x2 x3) fun r8 => (.ask (r8) (.ask ((decide (x0 ≤ x2))) (.done (decide (x1 ≤ x3))) (.done false)) (.done false))) (.done false)))
def F_spec_AreaOk : Nat → Int → Int → Int → Int → Option (Bool)
  | 0, _, _, _, _ => none
  | n + 1, x0, x1, x2, x3 => (T_spec_AreaOk n x0 x1 x2 x3).run
theorem ft_spec_AreaOk (n : Nat) (x0 : Int) (x1 : Int) (x2 : Int) (x3 : Int) : funT (CT_spec_AreaOk n) (LT_spec_AreaOk n) K_spec_AreaOk (A_spec_AreaOk x0 x1 x2 x3) = (T_spec_AreaOk n x0 x1 x2 x3).bind fun r => .done (O_spec_AreaOk r) := by kernel_rfl
theorem ct_spec_AreaOk (n : Nat) : CTok (CT_spec_AreaOk n) (runs KP lib n) := mkCT_cons (eo_spec_RefOk n (noEnt_ok)) (mkCT_nil)
theorem th_spec_AreaOk : ∀ (n : Nat) (x0 : Int) (x1 : Int) (x2 : Int) (x3 : Int) (r : Bool), F_spec_AreaOk n x0 x1 x2 x3 = some r → runs KP lib n 20 (A_spec_AreaOk x0 x1 x2 x3) [] = some ⟨O_spec_AreaOk r, [], []⟩
  | 0, x0, x1, x2, x3, r, h => by cases h
  | n + 1, x0, x1, x2, x3, r, h => fun_step (kf := K_spec_AreaOk) rfl (ct_spec_AreaOk n) (noLoops rfl) (ft_spec_AreaOk n x0 x1 x2 x3) h
def FH_spec_AreaOk (n : Nat) : List (List (List Hv)) → Option (Bool)
  | [[[.i x0], [.i x1], [.i x2], [.i x3]]] => F_spec_AreaOk n x0 x1 x2 x3
  | _ => none
def E_spec_AreaOk (n : Nat) (d : List AV → Tr AV) : List AV → Tr AV := cent (A_spec_AreaOk (0) (0) (0) (0)) (FH_spec_AreaOk n) O_spec_AreaOk d
theorem eo_spec_AreaOk (n : Nat) {d : List AV → Tr AV} (hd : ∀ ar r, (d ar).run = some r → runs KP lib n 20 ar [] = some ⟨r, [], []⟩) : ∀ ar r, (E_spec_AreaOk n d ar).run = some r → runs KP lib n 20 ar [] = some ⟨r, [], []⟩ :=
  cent_ok (fun hs r h => by
    unfold FH_spec_AreaOk at h
    split at h
    · exact ⟨A_spec_AreaOk _ _ _ _, rfl, th_spec_AreaOk n _ _ _ _ r h⟩
    · cases h) hd
/-! ### spec.Common -/
def A_spec_Common (x0 : Int) (x1 : Int) (x2 : Int) (x3 : Int) (x4 : Int) (x5 : Int) (x6 : Int) (x7 : Int) : List AV := [(.agg [(.p (.i .i64 x0)), (.p (.i .i64 x1)), (.p (.i .i64 x2)), (.p (.i .i64 x3))]), (.agg [(.p (.i .i64 x4)), (.p (.i .i64 x5)), (.p (.i .i64 x6)), (.p (.i .i64 x7))])]
def O_spec_Common (r : Int × Int × Int × Int × Bool) : AV := (.tup [(true, [(.p (.i .i64 r.1)), (.p (.i .i64 r.2.1)), (.p (.i .i64 r.2.2.1)), (.p (.i .i64 r.2.2.2.1))]), (false, [(.p (.b r.2.2.2.2))])])
abbrev CT_spec_Common (n : Nat) : CTab := mkCT [(20, E_spec_AreaOk n (noEnt))]
abbrev LT_spec_Common (n : Nat) : LTab := mkLT []
def T_spec_Common (n : Nat) (x0 : Int) (x1 : Int) (x2 : Int) (x3 : Int) (x4 : Int) (x5 : Int) (x6 : Int) (x7 : Int) : Tr (Int × Int × Int × Int × Bool) := (.opt (F_spec_AreaOk n x0 x1 x2 x3) fun r9 => (.ask ((!r9)) (.done ((0 : Int), (0 : Int), (0 : Int), (0 : Int), false)) (.opt (F_spec_AreaOk n x4 x5 x6 x7) fun r10 => (.ask ((!r10)) (.done ((0 : Int), (0 : Int), (0 : Int), (0 : Int), false)) (.opt (F_spec_AreaOk n (if x4 > x0 then x4 else x0) (if x5 > x1 then x5 else x1) (if x6 < x2 then x6 else x2) (if x7 < x3 then x7 else x3)) fun r11 => (.ask ((!r11)) (.done ((0 : Int), (0 : Int), (0 : Int), (0 : Int), false)) (.done ((if x4 > x0 then x4 else x0), (if x5 > x1 then x5 else x1), (if x6 < x2 then x6 else x2), (if x7 < x3 then x7 else x3), true))))))))
def F_spec_Common : Nat → Int → Int → Int → Int → Int → Int → Int → Int → Option (Int × Int × Int × Int × Bool)
  | 0, _, _, _, _, _, _, _, _ => none
  | n + 1, x0, x1, x2, x3, x4, x5, x6, x7 => (T_spec_Common n x0 x1 x2 x3 x4 x5 x6 x7).run
theorem ft_spec_Common (n : Nat) (x0 : Int) (x1 : Int) (x2 : Int) (x3 : Int) (x4 : Int) (x5 : Int) (x6 : Int) (x7 : Int) : funT (CT_spec_Common n) (LT_spec_Common n) K_spec_Common (A_spec_Common x0 x1 x2 x3 x4 x5 x6 x7) = (T_spec_Common n x0 x1 x2 x3 x4 x5 x6 x7).bind fun r => .done (O_spec_Common r) := by kernel_rfl
theorem ct_spec_Common (n : Nat) : CTok (CT_spec_Common n) (runs KP lib n) := mkCT_cons (eo_spec_AreaOk n (noEnt_ok)) (mkCT_nil)
theorem th_spec_Common : ∀ (n : Nat) (x0 : Int) (x1 : Int) (x2 : Int) (x3 : Int) (x4 : Int) (x5 : Int) (x6 : Int) (x7 : Int) (r : Int × Int × Int × Int × Bool), F_spec_Common n x0 x1 x2 x3 x4 x5 x6 x7 = some r → runs KP lib n 25 (A_spec_Common x0 x1 x2 x3 x4 x5 x6 x7) [] = some ⟨O_spec_Common r, [], []⟩
  | 0, x0, x1, x2, x3, x4, x5, x6, x7, r, h => by cases h
  | n + 1, x0, x1, x2, x3, x4, x5, x6, x7, r, h => fun_step (kf := K_spec_Common) rfl (ct_spec_Common n) (noLoops rfl) (ft_spec_Common n x0 x1 x2 x3 x4 x5 x6 x7) h
def FH_spec_Common (n : Nat) : List (List (List Hv)) → Option (Int × Int × Int × Int × Bool)
  | [[[.i x0], [.i x1], [.i x2], [.i x3]], [[.i x4], [.i x5], [.i x6], [.i x7]]] => F_spec_Common n x0 x1 x2 x3 x4 x5 x6 x7
  | _ => none
def E_spec_Common (n : Nat) (d : List AV → Tr AV) : List AV → Tr AV := cent (A_spec_Common (0) (0) (0) (0) (0) (0) (0) (0)) (FH_spec_Common n) O_spec_Common d
theorem eo_spec_Common (n : Nat) {d : List AV → Tr AV} (hd : ∀ ar r, (d ar).run = some r → runs KP lib n 25 ar [] = some ⟨r, [], []⟩) : ∀ ar r, (E_spec_Common n d ar).run = some r → runs KP lib n 25 ar [] = some ⟨r, [], []⟩ :=
  cent_ok (fun hs r h => by
    unfold FH_spec_Common at h
    split at h
    · exact ⟨A_spec_Common _ _ _ _ _ _ _ _, rfl, th_spec_Common n _ _ _ _ _ _ _ _ r h⟩
    · cases h) hd
/-! ### impl.within -/
def A_impl_within (x0 : Int) (x1 : Int) (x2 : Int) : List AV := [(.c (.p (.i .i64 x0))), (.c (.p (.i .i64 x1))), (.c (.p (.i .i64 x2)))]
def O_impl_within (r : Bool) : AV := (.c (.p (.b r)))
abbrev CT_impl_within (n : Nat) : CTab := mkCT []
abbrev LT_impl_within (n : Nat) : LTab := mkLT []
def T_impl_within (n : Nat) (x0 : Int) (x1 : Int) (x2 : Int) : Tr (Bool) := (.ask ((decide (x0 ≥ x1))) (.done (decide (x0 ≤ x2))) (.done false))
def F_impl_within : Nat → Int → Int → Int → Option (Bool)
  | 0, _, _, _ => none
  | n + 1, x0, x1, x2 => (T_impl_within n x0 x1 x2).run
theorem ft_impl_within (n : Nat) (x0 : Int) (x1 : Int) (x2 : Int) : funT (CT_impl_within n) (LT_impl_within n) K_impl_within (A_impl_within x0 x1 x2) = (T_impl_within n x0 x1 x2).bind fun r => .done (O_impl_within r) := by kernel_rfl
theorem ct_impl_within (n : Nat) : CTok (CT_impl_within n) (runs KP lib n) := mkCT_nil
theorem th_impl_within : ∀ (n : Nat) (x0 : Int) (x1 : Int) (x2 : Int) (r : Bool), F_impl_within n x0 x1 x2 = some r → runs KP lib n 52 (A_impl_within x0 x1 x2) [] = some ⟨O_impl_within r, [], []⟩
  | 0, x0, x1, x2, r, h => by cases h
  | n + 1, x0, x1, x2, r, h => fun_step (kf := K_impl_within) rfl (ct_impl_within n) (noLoops rfl) (ft_impl_within n x0 x1 x2) h
def FH_impl_within (n : Nat) : List (List (List Hv)) → Option (Bool)
  | [[[.i x0]], [[.i x1]], [[.i x2]]] => F_impl_within n x0 x1 x2
  | _ => none
def E_impl_within (n : Nat) (d : List AV → Tr AV) : List AV → Tr AV := cent (A_impl_within (0) (0) (0)) (FH_impl_within n) O_impl_within d
theorem eo_impl_within (n : Nat) {d : List AV → Tr AV} (hd : ∀ ar r, (d ar).run = some r → runs KP lib n 52 ar [] = some ⟨r, [], []⟩) : ∀ ar r, (E_impl_within n d ar).run = some r → runs KP lib n 52 ar [] = some ⟨r, [], []⟩ :=
  cent_ok (fun hs r h => by
    unfold FH_impl_within at h
    split at h
    · exact ⟨A_impl_within _ _ _, rfl, th_impl_within n _ _ _ r h⟩
    · cases h) hd
/-! ### impl.RefOk -/
def A_impl_RefOk (x0 : Int) (x1 : Int) : List AV := [(.agg [(.p (.i .i64 x0)), (.p (.i .i64 x1))])]
def O_impl_RefOk (r : Bool) : AV := (.c (.p (.b r)))
abbrev CT_impl_RefOk (n : Nat) : CTab := mkCT [(52, E_impl_within n (noEnt))]
abbrev LT_impl_RefOk (n : Nat) : LTab := mkLT []
def T_impl_RefOk (n : Nat) (x0 : Int) (x1 : Int) : Tr (Bool) := (.opt (F_impl_within n x0 (1 : Int) (52 : Int)) fun r15 => (.ask (r15) (.opt (F_impl_within n x1 (1 : Int) (99 : Int)) fun r16 => (.done r16)) (.done false)))
def F_impl_RefOk : Nat → Int → Int → Option (Bool)
  | 0, _, _ => none
  | n + 1, x0, x1 => (T_impl_RefOk n x0 x1).run
theorem ft_impl_RefOk (n : Nat) (x0 : Int) (x1 : Int) : funT (CT_impl_RefOk n) (LT_impl_RefOk n) K_impl_RefOk (A_impl_RefOk x0 x1) = (T_impl_RefOk n x0 x1).bind fun r => .done (O_impl_RefOk r) := by kernel_rfl
theorem ct_impl_RefOk (n : Nat) : CTok (CT_impl_RefOk n) (runs KP lib n) := mkCT_cons (eo_impl_within n (noEnt_ok)) (mkCT_nil)
theorem th_impl_RefOk : ∀ (n : Nat) (x0 : Int) (x1 : Int) (r : Bool), F_impl_RefOk n x0 x1 = some r → runs KP lib n 17 (A_impl_RefOk x0 x1) [] = some ⟨O_impl_RefOk r, [], []⟩
  | 0, x0, x1, r, h => by cases h
  | n + 1, x0, x1, r, h => fun_step (kf := K_impl_RefOk) rfl (ct_impl_RefOk n) (noLoops rfl) (ft_impl_RefOk n x0 x1) h
def FH_impl_RefOk (n : Nat) : List (List (List Hv)) → Option (Bool)
  | [[[.i x0], [.i x1]]] => F_impl_RefOk n x0 x1
  | _ => none
def E_impl_RefOk (n : Nat) (d : List AV → Tr AV) : List AV → Tr AV := cent (A_impl_RefOk (0) (0)) (FH_impl_RefOk n) O_impl_RefOk d
theorem eo_impl_RefOk (n : Nat) {d : List AV → Tr AV} (hd : ∀ ar r, (d ar).run = some r → runs KP lib n 17 ar [] = some ⟨r, [], []⟩) : ∀ ar r, (E_impl_RefOk n d ar).run = some r → runs KP lib n 17 ar [] = some ⟨r, [], []⟩ :=
  cent_ok (fun hs r h => by
    unfold FH_impl_RefOk at h
    split at h
    · exact ⟨A_impl_RefOk _ _, rfl, th_impl_RefOk n _ _ r h⟩
    · cases h) hd
/-! ### impl.AreaOk -/
def A_impl_AreaOk (x0 : Int) (x1 : Int) (x2 : Int) (x3 : Int) : List AV := [(.agg [(.p (.i .i64 x0)), (.p (.i .i64 x1)), (.p (.i .i64 x2)), (.p (.i .i64 x3))])]
def O_impl_AreaOk (r : Bool) : AV := (.c (.p (.b r)))
abbrev CT_impl_AreaOk (n : Nat) : CTab := mkCT [(17, E_impl_RefOk n (noEnt))]
abbrev LT_impl_AreaOk (n : Nat) : LTab := mkLT []
def T_impl_AreaOk (n : Nat) (x0 : Int) (x1 : Int) (x2 : Int) (x3 : Int) : Tr (Bool) := (.opt (F_impl_RefOk n x0 x1) fun r17 => (.ask (r17) (.opt (F_impl_RefOk n x2 x3) fun r18 => (.ask (r18) (.ask ((decide (x0 ≤ x2))) (.done (decide (x1 ≤ x3))) (.done false)) (.done false))) (.done false)))
def F_impl_AreaOk : Nat → Int → Int → Int → Int → Option (Bool)
  | 0, _, _, _, _ => none
  | n + 1, x0, x1, x2, x3 => (T_impl_AreaOk n x0 x1 x2 x3).run
theorem ft_impl_AreaOk (n : Nat) (x0 : Int) (x1 : Int) (x2 : Int) (x3 : Int) : funT (CT_impl_AreaOk n) (LT_impl_AreaOk n) K_impl_AreaOk (A_impl_AreaOk x0 x1 x2 x3) = (T_impl_AreaOk n x0 x1 x2 x3).bind fun r => .done (O_impl_AreaOk r) := by kernel_rfl
theorem ct_impl_AreaOk (n : Nat) : CTok (CT_impl_AreaOk n) (runs KP lib n) := mkCT_cons (eo_impl_RefOk n (noEnt_ok)) (mkCT_nil)
theorem th_impl_AreaOk : ∀ (n : Nat) (x0 : Int) (x1 : Int) (x2 : Int) (x3 : Int) (r : Bool), F_impl_AreaOk n x0 x1 x2 x3 = some r → runs KP lib n 22 (A_impl_AreaOk x0 x1 x2 x3) [] = some ⟨O_impl_AreaOk r, [], []⟩
  | 0, x0, x1, x2, x3, r, h => by cases h
  | n + 1, x0, x1, x2, x3, r, h => fun_step (kf := K_impl_AreaOk) rfl (ct_impl_AreaOk n) (noLoops rfl) (ft_impl_AreaOk n x0 x1 x2 x3) h
def FH_impl_AreaOk (n : Nat) : List (List (List Hv)) → Option (Bool)
  | [[[.i x0], [.i x1], [.i x2], [.i x3]]] => F_impl_AreaOk n x0 x1 x2 x3
  | _ => none
def E_impl_AreaOk (n : Nat) (d : List AV → Tr AV) : List AV → Tr AV := cent (A_impl_AreaOk (0) (0) (0) (0)) (FH_impl_AreaOk n) O_impl_AreaOk d
theorem eo_impl_AreaOk (n : Nat) {d : List AV → Tr AV} (hd : ∀ ar r, (d ar).run = some r → runs KP lib n 22 ar [] = some ⟨r, [], []⟩) : ∀ ar r, (E_impl_AreaOk n d ar).run = some r → runs KP lib n 22 ar [] = some ⟨r, [], []⟩ :=
  cent_ok (fun hs r h => by
    unfold FH_impl_AreaOk at h
    split at h
    · exact ⟨A_impl_AreaOk _ _ _ _, rfl, th_impl_AreaOk n _ _ _ _ r h⟩
    · cases h) hd
/-! ### impl.Common -/
def A_impl_Common (x0 : Int) (x1 : Int) (x2 : Int) (x3 : Int) (x4 : Int) (x5 : Int) (x6 : Int) (x7 : Int) : List AV := [(.agg [(.p (.i .i64 x0)), (.p (.i .i64 x1)), (.p (.i .i64 x2)), (.p (.i .i64 x3))]), (.agg [(.p (.i .i64 x4)), (.p (.i .i64 x5)), (.p (.i .i64 x6)), (.p (.i .i64 x7))])]
def O_impl_Common (r : Int × Int × Int × Int × Bool) : AV := (.tup [(true, [(.p (.i .i64 r.1)), (.p (.i .i64 r.2.1)), (.p (.i .i64 r.2.2.1)), (.p (.i .i64 r.2.2.2.1))]), (false, [(.p (.b r.2.2.2.2))])])
abbrev CT_impl_Common (n : Nat) : CTab := mkCT [(22, E_impl_AreaOk n (noEnt))]
abbrev LT_impl_Common (n : Nat) : LTab := mkLT []
def T_impl_Common (n : Nat) (x0 : Int) (x1 : Int) (x2 : Int) (x3 : Int) (x4 : Int) (x5 : Int) (x6 : Int) (x7 : Int) : Tr (Int × Int × Int × Int × Bool) := (.opt (F_impl_AreaOk n x0 x1 x2 x3) fun r19 => (.ask ((!r19)) (.done ((0 : Int), (0 : Int), (0 : Int), (0 : Int), false)) (.opt (F_impl_AreaOk n x4 x5 x6 x7) fun r20 => (.ask ((!r20)) (.done ((0 : Int), (0 : Int), (0 : Int), (0 : Int), false)) (.opt (F_impl_AreaOk n (if x4 > x0 then x4 else x0) (if x5 > x1 then x5 else x1) (if x6 < x2 then x6 else x2) (if x7 < x3 then x7 else x3)) fun r21 => (.ask ((!r21)) (.done ((0 : Int), (0 : Int), (0 : Int), (0 : Int), false)) (.done ((if x4 > x0 then x4 else x0), (if x5 > x1 then x5 else x1), (if x6 < x2 then x6 else x2), (if x7 < x3 then x7 else x3), true))))))))
def F_impl_Common : Nat → Int → Int → Int → Int → Int → Int → Int → Int → Option (Int × Int × Int × Int × Bool)
  | 0, _, _, _, _, _, _, _, _ => none
  | n + 1, x0, x1, x2, x3, x4, x5, x6, x7 => (T_impl_Common n x0 x1 x2 x3 x4 x5 x6 x7).run
theorem ft_impl_Common (n : Nat) (x0 : Int) (x1 : Int) (x2 : Int) (x3 : Int) (x4 : Int) (x5 : Int) (x6 : Int) (x7 : Int) : funT (CT_impl_Common n) (LT_impl_Common n) K_impl_Common (A_impl_Common x0 x1 x2 x3 x4 x5 x6 x7) = (T_impl_Common n x0 x1 x2 x3 x4 x5 x6 x7).bind fun r => .done (O_impl_Common r) := by kernel_rfl
theorem ct_impl_Common (n : Nat) : CTok (CT_impl_Common n) (runs KP lib n) := mkCT_cons (eo_impl_AreaOk n (noEnt_ok)) (mkCT_nil)
theorem th_impl_Common : ∀ (n : Nat) (x0 : Int) (x1 : Int) (x2 : Int) (x3 : Int) (x4 : Int) (x5 : Int) (x6 : Int) (x7 : Int) (r : Int × Int × Int × Int × Bool), F_impl_Common n x0 x1 x2 x3 x4 x5 x6 x7 = some r → runs KP lib n 26 (A_impl_Common x0 x1 x2 x3 x4 x5 x6 x7) [] = some ⟨O_impl_Common r, [], []⟩
  | 0, x0, x1, x2, x3, x4, x5, x6, x7, r, h => by cases h
  | n + 1, x0, x1, x2, x3, x4, x5, x6, x7, r, h => fun_step (kf := K_impl_Common) rfl (ct_impl_Common n) (noLoops rfl) (ft_impl_Common n x0 x1 x2 x3 x4 x5 x6 x7) h
def FH_impl_Common (n : Nat) : List (List (List Hv)) → Option (Int × Int × Int × Int × Bool)
  | [[[.i x0], [.i x1], [.i x2], [.i x3]], [[.i x4], [.i x5], [.i x6], [.i x7]]] => F_impl_Common n x0 x1 x2 x3 x4 x5 x6 x7
  | _ => none
def E_impl_Common (n : Nat) (d : List AV → Tr AV) : List AV → Tr AV := cent (A_impl_Common (0) (0) (0) (0) (0) (0) (0) (0)) (FH_impl_Common n) O_impl_Common d
theorem eo_impl_Common (n : Nat) {d : List AV → Tr AV} (hd : ∀ ar r, (d ar).run = some r → runs KP lib n 26 ar [] = some ⟨r, [], []⟩) : ∀ ar r, (E_impl_Common n d ar).run = some r → runs KP lib n 26 ar [] = some ⟨r, [], []⟩ :=
  cent_ok (fun hs r h => by
    unfold FH_impl_Common at h
    split at h
    · exact ⟨A_impl_Common _ _ _ _ _ _ _ _, rfl, th_impl_Common n _ _ _ _ _ _ _ _ r h⟩
    · cases h) hd
/-! ### laws.eqRef -/
def A_laws_eqRef (x0 : Int) (x1 : Int) (x2 : Int) (x3 : Int) : List AV := [(.agg [(.p (.i .i64 x0)), (.p (.i .i64 x1))]), (.agg [(.p (.i .i64 x2)), (.p (.i .i64 x3))])]
def O_laws_eqRef (r : Bool) : AV := (.c (.p (.b r)))
abbrev CT_laws_eqRef (n : Nat) : CTab := mkCT []
abbrev LT_laws_eqRef (n : Nat) : LTab := mkLT []
def T_laws_eqRef (n : Nat) (x0 : Int) (x1 : Int) (x2 : Int) (x3 : Int) : Tr (Bool) := (.ask ((x0 != x2)) (.done false) (.ask ((x1 != x3)) (.done false) (.done true)))
def F_laws_eqRef : Nat → Int → Int → Int → Int → Option (Bool)
  | 0, _, _, _, _ => none
  | n + 1, x0, x1, x2, x3 => (T_laws_eqRef n x0 x1 x2 x3).run
theorem ft_laws_eqRef (n : Nat) (x0 : Int) (x1 : Int) (x2 : Int) (x3 : Int) : funT (CT_laws_eqRef n) (LT_laws_eqRef n) K_laws_eqRef (A_laws_eqRef x0 x1 x2 x3) = (T_laws_eqRef n x0 x1 x2 x3).bind fun r => .done (O_laws_eqRef r) := by kernel_rfl
theorem ct_laws_eqRef (n : Nat) : CTok (CT_laws_eqRef n) (runs KP lib n) := mkCT_nil
theorem th_laws_eqRef : ∀ (n : Nat) (x0 : Int) (x1 : Int) (x2 : Int) (x3 : Int) (r : Bool), F_laws_eqRef n x0 x1 x2 x3 = some r → runs KP lib n 53 (A_laws_eqRef x0 x1 x2 x3) [] = some ⟨O_laws_eqRef r, [], []⟩
  | 0, x0, x1, x2, x3, r, h => by cases h
  | n + 1, x0, x1, x2, x3, r, h => fun_step (kf := K_laws_eqRef) rfl (ct_laws_eqRef n) (noLoops rfl) (ft_laws_eqRef n x0 x1 x2 x3) h
def FH_laws_eqRef (n : Nat) : List (List (List Hv)) → Option (Bool)
  | [[[.i x0], [.i x1]], [[.i x2], [.i x3]]] => F_laws_eqRef n x0 x1 x2 x3
  | _ => none
def E_laws_eqRef (n : Nat) (d : List AV → Tr AV) : List AV → Tr AV := cent (A_laws_eqRef (0) (0) (0) (0)) (FH_laws_eqRef n) O_laws_eqRef d
theorem eo_laws_eqRef (n : Nat) {d : List AV → Tr AV} (hd : ∀ ar r, (d ar).run = some r → runs KP lib n 53 ar [] = some ⟨r, [], []⟩) : ∀ ar r, (E_laws_eqRef n d ar).run = some r → runs KP lib n 53 ar [] = some ⟨r, [], []⟩ :=
  cent_ok (fun hs r h => by
    unfold FH_laws_eqRef at h
    split at h
    · exact ⟨A_laws_eqRef _ _ _ _, rfl, th_laws_eqRef n _ _ _ _ r h⟩
    · cases h) hd
/-! ### laws.eqArea -/
def A_laws_eqArea (x0 : Int) (x1 : Int) (x2 : Int) (x3 : Int) (x4 : Int) (x5 : Int) (x6 : Int) (x7 : Int) : List AV := [(.agg [(.p (.i .i64 x0)), (.p (.i .i64 x1)), (.p (.i .i64 x2)), (.p (.i .i64 x3))]), (.agg [(.p (.i .i64 x4)), (.p (.i .i64 x5)), (.p (.i .i64 x6)), (.p (.i .i64 x7))])]
def O_laws_eqArea (r : Bool) : AV := (.c (.p (.b r)))
abbrev CT_laws_eqArea (n : Nat) : CTab := mkCT [(53, E_laws_eqRef n (noEnt))]
abbrev LT_laws_eqArea (n : Nat) : LTab := mkLT []
def T_laws_eqArea (n : Nat) (x0 : Int) (x1 : Int) (x2 : Int) (x3 : Int) (x4 : Int) (x5 : Int) (x6 : Int) (x7 : Int) : Tr (Bool) := (.opt (F_laws_eqRef n x0 x1 x4 x5) fun r23 => (.ask ((!r23)) (.done false) (.opt (F_laws_eqRef n x2 x3 x6 x7) fun r24 => (.ask ((!r24)) (.done false) (.done true)))))
def F_laws_eqArea : Nat → Int → Int → Int → Int → Int → Int → Int → Int → Option (Bool)
  | 0, _, _, _, _, _, _, _, _ => none
  | n + 1, x0, x1, x2, x3, x4, x5, x6, x7 => (T_laws_eqArea n x0 x1 x2 x3 x4 x5 x6 x7).run
theorem ft_laws_eqArea (n : Nat) (x0 : Int) (x1 : Int) (x2 : Int) (x3 : Int) (x4 : Int) (x5 : Int) (x6 : Int) (x7 : Int) : funT (CT_laws_eqArea n) (LT_laws_eqArea n) K_laws_eqArea (A_laws_eqArea x0 x1 x2 x3 x4 x5 x6 x7) = (T_laws_eqArea n x0 x1 x2 x3 x4 x5 x6 x7).bind fun r => .done (O_laws_eqArea r) := by kernel_rfl
theorem ct_laws_eqArea (n : Nat) : CTok (CT_laws_eqArea n) (runs KP lib n) := mkCT_cons (eo_laws_eqRef n (noEnt_ok)) (mkCT_nil)
theorem th_laws_eqArea : ∀ (n : Nat) (x0 : Int) (x1 : Int) (x2 : Int) (x3 : Int) (x4 : Int) (x5 : Int) (x6 : Int) (x7 : Int) (r : Bool), F_laws_eqArea n x0 x1 x2 x3 x4 x5 x6 x7 = some r → runs KP lib n 27 (A_laws_eqArea x0 x1 x2 x3 x4 x5 x6 x7) [] = some ⟨O_laws_eqArea r, [], []⟩
  | 0, x0, x1, x2, x3, x4, x5, x6, x7, r, h => by cases h
  | n + 1, x0, x1, x2, x3, x4, x5, x6, x7, r, h => fun_step (kf := K_laws_eqArea) rfl (ct_laws_eqArea n) (noLoops rfl) (ft_laws_eqArea n x0 x1 x2 x3 x4 x5 x6 x7) h
def FH_laws_eqArea (n : Nat) : List (List (List Hv)) → Option (Bool)
  | [[[.i x0], [.i x1], [.i x2], [.i x3]], [[.i x4], [.i x5], [.i x6], [.i x7]]] => F_laws_eqArea n x0 x1 x2 x3 x4 x5 x6 x7
  | _ => none
def E_laws_eqArea (n : Nat) (d : List AV → Tr AV) : List AV → Tr AV := cent (A_laws_eqArea (0) (0) (0) (0) (0) (0) (0) (0)) (FH_laws_eqArea n) O_laws_eqArea d
theorem eo_laws_eqArea (n : Nat) {d : List AV → Tr AV} (hd : ∀ ar r, (d ar).run = some r → runs KP lib n 27 ar [] = some ⟨r, [], []⟩) : ∀ ar r, (E_laws_eqArea n d ar).run = some r → runs KP lib n 27 ar [] = some ⟨r, [], []⟩ :=
  cent_ok (fun hs r h => by
    unfold FH_laws_eqArea at h
    split at h
    · exact ⟨A_laws_eqArea _ _ _ _ _ _ _ _, rfl, th_laws_eqArea n _ _ _ _ _ _ _ _ r h⟩
    · cases h) hd
/-! ### laws.FnExactCommon -/
def A_laws_FnExactCommon (x0 : Int) (x1 : Int) (x2 : Int) (x3 : Int) (x4 : Int) (x5 : Int) (x6 : Int) (x7 : Int) : List AV := [(.agg [(.p (.i .i64 x0)), (.p (.i .i64 x1)), (.p (.i .i64 x2)), (.p (.i .i64 x3))]), (.agg [(.p (.i .i64 x4)), (.p (.i .i64 x5)), (.p (.i .i64 x6)), (.p (.i .i64 x7))])]
def O_laws_FnExactCommon (r : Bool) : AV := (.c (.p (.b r)))
abbrev CT_laws_FnExactCommon (n : Nat) : CTab := mkCT [(21, E_laws_toArea n (noEnt)), (25, E_spec_Common n (noEnt)), (26, E_impl_Common n (noEnt)), (27, E_laws_eqArea n (noEnt))]
abbrev LT_laws_FnExactCommon (n : Nat) : LTab := mkLT []
def T_laws_FnExactCommon (n : Nat) (x0 : Int) (x1 : Int) (x2 : Int) (x3 : Int) (x4 : Int) (x5 : Int) (x6 : Int) (x7 : Int) : Tr (Bool) := (.opt (F_laws_toArea n x0 x1 x2 x3) fun r3 => (.opt (F_laws_toArea n x4 x5 x6 x7) fun r4 => (.opt (F_spec_Common n r3.1 r3.2.1 r3.2.2.1 r3.2.2.2 r4.1 r4.2.1 r4.2.2.1 r4.2.2.2) fun r12 => (.opt (F_laws_toArea n x0 x1 x2 x3) fun r13 => (.opt (F_laws_toArea n x4 x5 x6 x7) fun r14 => (.opt (F_impl_Common n r13.1 r13.2.1 r13.2.2.1 r13.2.2.2 r14.1 r14.2.1 r14.2.2.1 r14.2.2.2) fun r22 => (.opt (F_laws_eqArea n r22.1 r22.2.1 r22.2.2.1 r22.2.2.2.1 r12.1 r12.2.1 r12.2.2.1 r12.2.2.2.1) fun r25 => (.ask ((!r25)) (.done false) (.ask ((!(r22.2.2.2.2 == r12.2.2.2.2))) (.done false) (.done true))))))))))
def F_laws_FnExactCommon : Nat → Int → Int → Int → Int → Int → Int → Int → Int → Option (Bool)
  | 0, _, _, _, _, _, _, _, _ => none
  | n + 1, x0, x1, x2, x3, x4, x5, x6, x7 => (T_laws_FnExactCommon n x0 x1 x2 x3 x4 x5 x6 x7).run
theorem ft_laws_FnExactCommon (n : Nat) (x0 : Int) (x1 : Int) (x2 : Int) (x3 : Int) (x4 : Int) (x5 : Int) (x6 : Int) (x7 : Int) : funT (CT_laws_FnExactCommon n) (LT_laws_FnExactCommon n) K_laws_FnExactCommon (A_laws_FnExactCommon x0 x1 x2 x3 x4 x5 x6 x7) = (T_laws_FnExactCommon n x0 x1 x2 x3 x4 x5 x6 x7).bind fun r => .done (O_laws_FnExactCommon r) := by kernel_rfl
theorem ct_laws_FnExactCommon (n : Nat) : CTok (CT_laws_FnExactCommon n) (runs KP lib n) := mkCT_cons (eo_laws_toArea n (noEnt_ok)) (mkCT_cons (eo_spec_Common n (noEnt_ok)) (mkCT_cons (eo_impl_Common n (noEnt_ok)) (mkCT_cons (eo_laws_eqArea n (noEnt_ok)) (mkCT_nil))))
theorem th_laws_FnExactCommon : ∀ (n : Nat) (x0 : Int) (x1 : Int) (x2 : Int) (x3 : Int) (x4 : Int) (x5 : Int) (x6 : Int) (x7 : Int) (r : Bool), F_laws_FnExactCommon n x0 x1 x2 x3 x4 x5 x6 x7 = some r → runs KP lib n 8 (A_laws_FnExactCommon x0 x1 x2 x3 x4 x5 x6 x7) [] = some ⟨O_laws_FnExactCommon r, [], []⟩
  | 0, x0, x1, x2, x3, x4, x5, x6, x7, r, h => by cases h
  | n + 1, x0, x1, x2, x3, x4, x5, x6, x7, r, h => fun_step (kf := K_laws_FnExactCommon) rfl (ct_laws_FnExactCommon n) (noLoops rfl) (ft_laws_FnExactCommon n x0 x1 x2 x3 x4 x5 x6 x7) h
def FH_laws_FnExactCommon (n : Nat) : List (List (List Hv)) → Option (Bool)
  | [[[.i x0], [.i x1], [.i x2], [.i x3]], [[.i x4], [.i x5], [.i x6], [.i x7]]] => F_laws_FnExactCommon n x0 x1 x2 x3 x4 x5 x6 x7
  | _ => none
def E_laws_FnExactCommon (n : Nat) (d : List AV → Tr AV) : List AV → Tr AV := cent (A_laws_FnExactCommon (0) (0) (0) (0) (0) (0) (0) (0)) (FH_laws_FnExactCommon n) O_laws_FnExactCommon d
theorem eo_laws_FnExactCommon (n : Nat) {d : List AV → Tr AV} (hd : ∀ ar r, (d ar).run = some r → runs KP lib n 8 ar [] = some ⟨r, [], []⟩) : ∀ ar r, (E_laws_FnExactCommon n d ar).run = some r → runs KP lib n 8 ar [] = some ⟨r, [], []⟩ :=
  cent_ok (fun hs r h => by
    unfold FH_laws_FnExactCommon at h
    split at h
    · exact ⟨A_laws_FnExactCommon _ _ _ _ _ _ _ _, rfl, th_laws_FnExactCommon n _ _ _ _ _ _ _ _ r h⟩
    · cases h) hd
end Go.Proofs.Ytoodcplobkflfaa.KFnExactCommon
