/-
  The trees of what FnExactOrder calls: plain functions, and that the engine reckons just these. No condition.
-/
import Derived.Test.YtoodcplobkflfaaKFnExactOrder
import Derived.Test.YtoodcplobkflfaaE31
import Derived.KernelRfl
namespace Go.Proofs.Ytoodcplobkflfaa.KFnExactOrder
open Go.Eng
set_option linter.unusedVariables false
set_option maxRecDepth 100000
def lib : FuncId → List AV → Option AV := fun _ _ => none
/-! ### laws.szValue -/
def A_laws_szValue (x0 : Int) (x1 : Int) (x2 : ByteArray) (x3 : Int) : List AV := [(.agg [(.p (.i .i64 x0)), (.p (.i .i64 x1)), (.p (.s x2))]), (.c (.p (.i .i64 x3)))]
def O_laws_szValue (r : Int) : AV := (.c (.p (.i .i64 r)))
abbrev CT_laws_szValue (n : Nat) : CTab := mkCT []
abbrev LT_laws_szValue (n : Nat) : LTab := mkLT []
def T_laws_szValue (n : Nat) (x0 : Int) (x1 : Int) (x2 : ByteArray) (x3 : Int) : Tr (Int) := (.ask ((decide ((IntKind.i64.wrap (x3 - (x2.size : Int))) < (0 : Int)))) (.done (-1 : Int)) (.done (IntKind.i64.wrap (x3 - (x2.size : Int)))))
def F_laws_szValue : Nat → Int → Int → ByteArray → Int → Option (Int)
  | 0, _, _, _, _ => none
  | n + 1, x0, x1, x2, x3 => (T_laws_szValue n x0 x1 x2 x3).run
theorem ft_laws_szValue (n : Nat) (x0 : Int) (x1 : Int) (x2 : ByteArray) (x3 : Int) : funT (CT_laws_szValue n) (LT_laws_szValue n) K_laws_szValue (A_laws_szValue x0 x1 x2 x3) = (T_laws_szValue n x0 x1 x2 x3).bind fun r => .done (O_laws_szValue r) := by kernel_rfl
theorem ct_laws_szValue (n : Nat) : CTok (CT_laws_szValue n) (runs KP lib n) := mkCT_nil
theorem th_laws_szValue : ∀ (n : Nat) (x0 : Int) (x1 : Int) (x2 : ByteArray) (x3 : Int) (r : Int), F_laws_szValue n x0 x1 x2 x3 = some r → runs KP lib n 28 (A_laws_szValue x0 x1 x2 x3) [] = some ⟨O_laws_szValue r, [], []⟩
  | 0, x0, x1, x2, x3, r, h => by cases h
  | n + 1, x0, x1, x2, x3, r, h => fun_step (kf := K_laws_szValue) rfl (ct_laws_szValue n) (noLoops rfl) (ft_laws_szValue n x0 x1 x2 x3) h
def FH_laws_szValue (n : Nat) : List (List (List Hv)) → Option (Int)
  | [[[.i x0], [.i x1], [.s x2]], [[.i x3]]] => F_laws_szValue n x0 x1 x2 x3
  | _ => none
def E_laws_szValue (n : Nat) (d : List AV → Tr AV) : List AV → Tr AV := cent (A_laws_szValue (0) (0) (⟨#[]⟩) (0)) (FH_laws_szValue n) O_laws_szValue d
theorem eo_laws_szValue (n : Nat) {d : List AV → Tr AV} (hd : ∀ ar r, (d ar).run = some r → runs KP lib n 28 ar [] = some ⟨r, [], []⟩) : ∀ ar r, (E_laws_szValue n d ar).run = some r → runs KP lib n 28 ar [] = some ⟨r, [], []⟩ :=
  cent_ok (fun hs r h => by
    unfold FH_laws_szValue at h
    split at h
    · exact ⟨A_laws_szValue _ _ _ _, rfl, th_laws_szValue n _ _ _ _ r h⟩
    · cases h) hd
/-! ### laws.toValue -/
def A_laws_toValue (x0 : Int) (x1 : Int) (x2 : ByteArray) : List AV := [(.agg [(.p (.i .i64 x0)), (.p (.i .i64 x1)), (.p (.s x2))])]
def O_laws_toValue (r : Int × Int × ByteArray) : AV := (.agg [(.p (.i .i64 r.1)), (.p (.i .i64 r.2.1)), (.p (.s r.2.2))])
abbrev CT_laws_toValue (n : Nat) : CTab := mkCT []
abbrev LT_laws_toValue (n : Nat) : LTab := mkLT []
def T_laws_toValue (n : Nat) (x0 : Int) (x1 : Int) (x2 : ByteArray) : Tr (Int × Int × ByteArray) := (.done (x0, x1, x2))
def F_laws_toValue : Nat → Int → Int → ByteArray → Option (Int × Int × ByteArray)
  | 0, _, _, _ => none
  | n + 1, x0, x1, x2 => (T_laws_toValue n x0 x1 x2).run
theorem ft_laws_toValue (n : Nat) (x0 : Int) (x1 : Int) (x2 : ByteArray) : funT (CT_laws_toValue n) (LT_laws_toValue n) K_laws_toValue (A_laws_toValue x0 x1 x2) = (T_laws_toValue n x0 x1 x2).bind fun r => .done (O_laws_toValue r) := by kernel_rfl
theorem ct_laws_toValue (n : Nat) : CTok (CT_laws_toValue n) (runs KP lib n) := mkCT_nil
theorem th_laws_toValue : ∀ (n : Nat) (x0 : Int) (x1 : Int) (x2 : ByteArray) (r : Int × Int × ByteArray), F_laws_toValue n x0 x1 x2 = some r → runs KP lib n 30 (A_laws_toValue x0 x1 x2) [] = some ⟨O_laws_toValue r, [], []⟩
  | 0, x0, x1, x2, r, h => by cases h
  | n + 1, x0, x1, x2, r, h => fun_step (kf := K_laws_toValue) rfl (ct_laws_toValue n) (noLoops rfl) (ft_laws_toValue n x0 x1 x2) h
def FH_laws_toValue (n : Nat) : List (List (List Hv)) → Option (Int × Int × ByteArray)
  | [[[.i x0], [.i x1], [.s x2]]] => F_laws_toValue n x0 x1 x2
  | _ => none
def E_laws_toValue (n : Nat) (d : List AV → Tr AV) : List AV → Tr AV := cent (A_laws_toValue (0) (0) (⟨#[]⟩)) (FH_laws_toValue n) O_laws_toValue d
theorem eo_laws_toValue (n : Nat) {d : List AV → Tr AV} (hd : ∀ ar r, (d ar).run = some r → runs KP lib n 30 ar [] = some ⟨r, [], []⟩) : ∀ ar r, (E_laws_toValue n d ar).run = some r → runs KP lib n 30 ar [] = some ⟨r, [], []⟩ :=
  cent_ok (fun hs r h => by
    unfold FH_laws_toValue at h
    split at h
    · exact ⟨A_laws_toValue _ _ _, rfl, th_laws_toValue n _ _ _ r h⟩
    · cases h) hd
/-! ### spec.l2Sign -/
def A_spec_l2Sign (x0 : Bool) (x1 : Bool) : List AV := [(.c (.p (.b x0))), (.c (.p (.b x1)))]
def O_spec_l2Sign (r : Int) : AV := (.c (.p (.i .i64 r)))
abbrev CT_spec_l2Sign (n : Nat) : CTab := mkCT []
abbrev LT_spec_l2Sign (n : Nat) : LTab := mkLT []
def T_spec_l2Sign (n : Nat) (x0 : Bool) (x1 : Bool) : Tr (Int) := (.ask (x0) (.done (-1 : Int)) (.ask (x1) (.done (1 : Int)) (.done (0 : Int))))
def F_spec_l2Sign : Nat → Bool → Bool → Option (Int)
  | 0, _, _ => none
  | n + 1, x0, x1 => (T_spec_l2Sign n x0 x1).run
theorem ft_spec_l2Sign (n : Nat) (x0 : Bool) (x1 : Bool) : funT (CT_spec_l2Sign n) (LT_spec_l2Sign n) K_spec_l2Sign (A_spec_l2Sign x0 x1) = (T_spec_l2Sign n x0 x1).bind fun r => .done (O_spec_l2Sign r) := by kernel_rfl
theorem ct_spec_l2Sign (n : Nat) : CTok (CT_spec_l2Sign n) (runs KP lib n) := mkCT_nil
theorem th_spec_l2Sign : ∀ (n : Nat) (x0 : Bool) (x1 : Bool) (r : Int), F_spec_l2Sign n x0 x1 = some r → runs KP lib n 56 (A_spec_l2Sign x0 x1) [] = some ⟨O_spec_l2Sign r, [], []⟩
  | 0, x0, x1, r, h => by cases h
  | n + 1, x0, x1, r, h => fun_step (kf := K_spec_l2Sign) rfl (ct_spec_l2Sign n) (noLoops rfl) (ft_spec_l2Sign n x0 x1) h
def FH_spec_l2Sign (n : Nat) : List (List (List Hv)) → Option (Int)
  | [[[.b x0]], [[.b x1]]] => F_spec_l2Sign n x0 x1
  | _ => none
def E_spec_l2Sign (n : Nat) (d : List AV → Tr AV) : List AV → Tr AV := cent (A_spec_l2Sign (false) (false)) (FH_spec_l2Sign n) O_spec_l2Sign d
theorem eo_spec_l2Sign (n : Nat) {d : List AV → Tr AV} (hd : ∀ ar r, (d ar).run = some r → runs KP lib n 56 ar [] = some ⟨r, [], []⟩) : ∀ ar r, (E_spec_l2Sign n d ar).run = some r → runs KP lib n 56 ar [] = some ⟨r, [], []⟩ :=
  cent_ok (fun hs r h => by
    unfold FH_spec_l2Sign at h
    split at h
    · exact ⟨A_spec_l2Sign _ _, rfl, th_spec_l2Sign n _ _ r h⟩
    · cases h) hd
/-! ### spec.Order -/
def A_spec_Order (x0 : Int) (x1 : Int) (x2 : ByteArray) (x3 : Int) (x4 : Int) (x5 : ByteArray) : List AV := [(.agg [(.p (.i .i64 x0)), (.p (.i .i64 x1)), (.p (.s x2))]), (.agg [(.p (.i .i64 x3)), (.p (.i .i64 x4)), (.p (.s x5))])]
def O_spec_Order (r : Int) : AV := (.c (.p (.i .i64 r)))
abbrev CT_spec_Order (n : Nat) : CTab := mkCT [(56, E_spec_l2Sign n (noEnt))]
abbrev LT_spec_Order (n : Nat) : LTab := mkLT []
def T_spec_Order (n : Nat) (x0 : Int) (x1 : Int) (x2 : ByteArray) (x3 : Int) (x4 : Int) (x5 : ByteArray) : Tr (Int) := (.ask ((x0 != x3)) (.opt (F_spec_l2Sign n (decide (x0 < x3)) true) fun r5 => (.done r5)) (.ask ((x1 != x4)) (.opt (F_spec_l2Sign n (decide (x1 < x4)) true) fun r6 => (.done r6)) (.opt (F_spec_l2Sign n (Op.bytesLess x2.toList x5.toList) (!(Op.bytesLess x2.toList x5.toList || x2.toList == x5.toList))) fun r7 => (.done r7))))
def F_spec_Order : Nat → Int → Int → ByteArray → Int → Int → ByteArray → Option (Int)
  | 0, _, _, _, _, _, _ => none
  | n + 1, x0, x1, x2, x3, x4, x5 => (T_spec_Order n x0 x1 x2 x3 x4 x5).run
theorem ft_spec_Order (n : Nat) (x0 : Int) (x1 : Int) (x2 : ByteArray) (x3 : Int) (x4 : Int) (x5 : ByteArray) : funT (CT_spec_Order n) (LT_spec_Order n) K_spec_Order (A_spec_Order x0 x1 x2 x3 x4 x5) = (T_spec_Order n x0 x1 x2 x3 x4 x5).bind fun r => .done (O_spec_Order r) := by kernel_rfl
theorem ct_spec_Order (n : Nat) : CTok (CT_spec_Order n) (runs KP lib n) := mkCT_cons (eo_spec_l2Sign n (noEnt_ok)) (mkCT_nil)
theorem th_spec_Order : ∀ (n : Nat) (x0 : Int) (x1 : Int) (x2 : ByteArray) (x3 : Int) (x4 : Int) (x5 : ByteArray) (r : Int), F_spec_Order n x0 x1 x2 x3 x4 x5 = some r → runs KP lib n 32 (A_spec_Order x0 x1 x2 x3 x4 x5) [] = some ⟨O_spec_Order r, [], []⟩
  | 0, x0, x1, x2, x3, x4, x5, r, h => by cases h
  | n + 1, x0, x1, x2, x3, x4, x5, r, h => fun_step (kf := K_spec_Order) rfl (ct_spec_Order n) (noLoops rfl) (ft_spec_Order n x0 x1 x2 x3 x4 x5) h
def FH_spec_Order (n : Nat) : List (List (List Hv)) → Option (Int)
  | [[[.i x0], [.i x1], [.s x2]], [[.i x3], [.i x4], [.s x5]]] => F_spec_Order n x0 x1 x2 x3 x4 x5
  | _ => none
def E_spec_Order (n : Nat) (d : List AV → Tr AV) : List AV → Tr AV := cent (A_spec_Order (0) (0) (⟨#[]⟩) (0) (0) (⟨#[]⟩)) (FH_spec_Order n) O_spec_Order d
theorem eo_spec_Order (n : Nat) {d : List AV → Tr AV} (hd : ∀ ar r, (d ar).run = some r → runs KP lib n 32 ar [] = some ⟨r, [], []⟩) : ∀ ar r, (E_spec_Order n d ar).run = some r → runs KP lib n 32 ar [] = some ⟨r, [], []⟩ :=
  cent_ok (fun hs r h => by
    unfold FH_spec_Order at h
    split at h
    · exact ⟨A_spec_Order _ _ _ _ _ _, rfl, th_spec_Order n _ _ _ _ _ _ r h⟩
    · cases h) hd
/-! ### cmp.isNaN[int64] -/
def A_cmp_isNaN_int64 (x0 : Int) : List AV := [(.c (.p (.i .i64 x0)))]
def O_cmp_isNaN_int64 (r : Bool) : AV := (.c (.p (.b r)))
abbrev CT_cmp_isNaN_int64 (n : Nat) : CTab := mkCT []
abbrev LT_cmp_isNaN_int64 (n : Nat) : LTab := mkLT []
def T_cmp_isNaN_int64 (n : Nat) (x0 : Int) : Tr (Bool) := (.done (x0 != x0))
def F_cmp_isNaN_int64 : Nat → Int → Option (Bool)
  | 0, _ => none
  | n + 1, x0 => (T_cmp_isNaN_int64 n x0).run
theorem ft_cmp_isNaN_int64 (n : Nat) (x0 : Int) : funT (CT_cmp_isNaN_int64 n) (LT_cmp_isNaN_int64 n) K_cmp_isNaN_int64 (A_cmp_isNaN_int64 x0) = (T_cmp_isNaN_int64 n x0).bind fun r => .done (O_cmp_isNaN_int64 r) := by kernel_rfl
theorem ct_cmp_isNaN_int64 (n : Nat) : CTok (CT_cmp_isNaN_int64 n) (runs KP lib n) := mkCT_nil
theorem th_cmp_isNaN_int64 : ∀ (n : Nat) (x0 : Int) (r : Bool), F_cmp_isNaN_int64 n x0 = some r → runs KP lib n 71 (A_cmp_isNaN_int64 x0) [] = some ⟨O_cmp_isNaN_int64 r, [], []⟩
  | 0, x0, r, h => by cases h
  | n + 1, x0, r, h => fun_step (kf := K_cmp_isNaN_int64) rfl (ct_cmp_isNaN_int64 n) (noLoops rfl) (ft_cmp_isNaN_int64 n x0) h
def FH_cmp_isNaN_int64 (n : Nat) : List (List (List Hv)) → Option (Bool)
  | [[[.i x0]]] => F_cmp_isNaN_int64 n x0
  | _ => none
def E_cmp_isNaN_int64 (n : Nat) (d : List AV → Tr AV) : List AV → Tr AV := cent (A_cmp_isNaN_int64 (0)) (FH_cmp_isNaN_int64 n) O_cmp_isNaN_int64 d
theorem eo_cmp_isNaN_int64 (n : Nat) {d : List AV → Tr AV} (hd : ∀ ar r, (d ar).run = some r → runs KP lib n 71 ar [] = some ⟨r, [], []⟩) : ∀ ar r, (E_cmp_isNaN_int64 n d ar).run = some r → runs KP lib n 71 ar [] = some ⟨r, [], []⟩ :=
  cent_ok (fun hs r h => by
    unfold FH_cmp_isNaN_int64 at h
    split at h
    · exact ⟨A_cmp_isNaN_int64 _, rfl, th_cmp_isNaN_int64 n _ r h⟩
    · cases h) hd
/-! ### cmp.Compare[int64] -/
def A_cmp_Compare_int64 (x0 : Int) (x1 : Int) : List AV := [(.c (.p (.i .i64 x0))), (.c (.p (.i .i64 x1)))]
def O_cmp_Compare_int64 (r : Int) : AV := (.c (.p (.i .i64 r)))
abbrev CT_cmp_Compare_int64 (n : Nat) : CTab := mkCT [(71, E_cmp_isNaN_int64 n (noEnt))]
abbrev LT_cmp_Compare_int64 (n : Nat) : LTab := mkLT []
def T_cmp_Compare_int64 (n : Nat) (x0 : Int) (x1 : Int) : Tr (Int) := (.opt (F_cmp_isNaN_int64 n x0) fun r11 => (.opt (F_cmp_isNaN_int64 n x1) fun r12 => (.ask (r11) (.ask (r12) (.done (0 : Int)) (.done (-1 : Int))) (.ask (r12) (.done (1 : Int)) (.ask ((decide (x0 < x1))) (.done (-1 : Int)) (.ask ((decide (x0 > x1))) (.done (1 : Int)) (.done (0 : Int))))))))
def F_cmp_Compare_int64 : Nat → Int → Int → Option (Int)
  | 0, _, _ => none
  | n + 1, x0, x1 => (T_cmp_Compare_int64 n x0 x1).run
theorem ft_cmp_Compare_int64 (n : Nat) (x0 : Int) (x1 : Int) : funT (CT_cmp_Compare_int64 n) (LT_cmp_Compare_int64 n) K_cmp_Compare_int64 (A_cmp_Compare_int64 x0 x1) = (T_cmp_Compare_int64 n x0 x1).bind fun r => .done (O_cmp_Compare_int64 r) := by kernel_rfl
theorem ct_cmp_Compare_int64 (n : Nat) : CTok (CT_cmp_Compare_int64 n) (runs KP lib n) := mkCT_cons (eo_cmp_isNaN_int64 n (noEnt_ok)) (mkCT_nil)
theorem th_cmp_Compare_int64 : ∀ (n : Nat) (x0 : Int) (x1 : Int) (r : Int), F_cmp_Compare_int64 n x0 x1 = some r → runs KP lib n 58 (A_cmp_Compare_int64 x0 x1) [] = some ⟨O_cmp_Compare_int64 r, [], []⟩
  | 0, x0, x1, r, h => by cases h
  | n + 1, x0, x1, r, h => fun_step (kf := K_cmp_Compare_int64) rfl (ct_cmp_Compare_int64 n) (noLoops rfl) (ft_cmp_Compare_int64 n x0 x1) h
def FH_cmp_Compare_int64 (n : Nat) : List (List (List Hv)) → Option (Int)
  | [[[.i x0]], [[.i x1]]] => F_cmp_Compare_int64 n x0 x1
  | _ => none
def E_cmp_Compare_int64 (n : Nat) (d : List AV → Tr AV) : List AV → Tr AV := cent (A_cmp_Compare_int64 (0) (0)) (FH_cmp_Compare_int64 n) O_cmp_Compare_int64 d
theorem eo_cmp_Compare_int64 (n : Nat) {d : List AV → Tr AV} (hd : ∀ ar r, (d ar).run = some r → runs KP lib n 58 ar [] = some ⟨r, [], []⟩) : ∀ ar r, (E_cmp_Compare_int64 n d ar).run = some r → runs KP lib n 58 ar [] = some ⟨r, [], []⟩ :=
  cent_ok (fun hs r h => by
    unfold FH_cmp_Compare_int64 at h
    split at h
    · exact ⟨A_cmp_Compare_int64 _ _, rfl, th_cmp_Compare_int64 n _ _ r h⟩
    · cases h) hd
/-! ### cmp.isNaN[string] -/
def A_cmp_isNaN_string (x0 : ByteArray) : List AV := [(.c (.p (.s x0)))]
def O_cmp_isNaN_string (r : Bool) : AV := (.c (.p (.b r)))
abbrev CT_cmp_isNaN_string (n : Nat) : CTab := mkCT []
abbrev LT_cmp_isNaN_string (n : Nat) : LTab := mkLT []
def T_cmp_isNaN_string (n : Nat) (x0 : ByteArray) : Tr (Bool) := (.done (!(x0.toList == x0.toList)))
def F_cmp_isNaN_string : Nat → ByteArray → Option (Bool)
  | 0, _ => none
  | n + 1, x0 => (T_cmp_isNaN_string n x0).run
theorem ft_cmp_isNaN_string (n : Nat) (x0 : ByteArray) : funT (CT_cmp_isNaN_string n) (LT_cmp_isNaN_string n) K_cmp_isNaN_string (A_cmp_isNaN_string x0) = (T_cmp_isNaN_string n x0).bind fun r => .done (O_cmp_isNaN_string r) := by kernel_rfl
theorem ct_cmp_isNaN_string (n : Nat) : CTok (CT_cmp_isNaN_string n) (runs KP lib n) := mkCT_nil
theorem th_cmp_isNaN_string : ∀ (n : Nat) (x0 : ByteArray) (r : Bool), F_cmp_isNaN_string n x0 = some r → runs KP lib n 72 (A_cmp_isNaN_string x0) [] = some ⟨O_cmp_isNaN_string r, [], []⟩
  | 0, x0, r, h => by cases h
  | n + 1, x0, r, h => fun_step (kf := K_cmp_isNaN_string) rfl (ct_cmp_isNaN_string n) (noLoops rfl) (ft_cmp_isNaN_string n x0) h
def FH_cmp_isNaN_string (n : Nat) : List (List (List Hv)) → Option (Bool)
  | [[[.s x0]]] => F_cmp_isNaN_string n x0
  | _ => none
def E_cmp_isNaN_string (n : Nat) (d : List AV → Tr AV) : List AV → Tr AV := cent (A_cmp_isNaN_string (⟨#[]⟩)) (FH_cmp_isNaN_string n) O_cmp_isNaN_string d
theorem eo_cmp_isNaN_string (n : Nat) {d : List AV → Tr AV} (hd : ∀ ar r, (d ar).run = some r → runs KP lib n 72 ar [] = some ⟨r, [], []⟩) : ∀ ar r, (E_cmp_isNaN_string n d ar).run = some r → runs KP lib n 72 ar [] = some ⟨r, [], []⟩ :=
  cent_ok (fun hs r h => by
    unfold FH_cmp_isNaN_string at h
    split at h
    · exact ⟨A_cmp_isNaN_string _, rfl, th_cmp_isNaN_string n _ r h⟩
    · cases h) hd
/-! ### cmp.Compare[string] -/
def A_cmp_Compare_string (x0 : ByteArray) (x1 : ByteArray) : List AV := [(.c (.p (.s x0))), (.c (.p (.s x1)))]
def O_cmp_Compare_string (r : Int) : AV := (.c (.p (.i .i64 r)))
abbrev CT_cmp_Compare_string (n : Nat) : CTab := mkCT [(72, E_cmp_isNaN_string n (noEnt))]
abbrev LT_cmp_Compare_string (n : Nat) : LTab := mkLT []
def T_cmp_Compare_string (n : Nat) (x0 : ByteArray) (x1 : ByteArray) : Tr (Int) := (.opt (F_cmp_isNaN_string n x0) fun r15 => (.opt (F_cmp_isNaN_string n x1) fun r16 => (.ask (r15) (.ask (r16) (.done (0 : Int)) (.done (-1 : Int))) (.ask (r16) (.done (1 : Int)) (.ask ((Op.bytesLess x0.toList x1.toList)) (.done (-1 : Int)) (.ask ((!(Op.bytesLess x0.toList x1.toList || x0.toList == x1.toList))) (.done (1 : Int)) (.done (0 : Int))))))))
def F_cmp_Compare_string : Nat → ByteArray → ByteArray → Option (Int)
  | 0, _, _ => none
  | n + 1, x0, x1 => (T_cmp_Compare_string n x0 x1).run
theorem ft_cmp_Compare_string (n : Nat) (x0 : ByteArray) (x1 : ByteArray) : funT (CT_cmp_Compare_string n) (LT_cmp_Compare_string n) K_cmp_Compare_string (A_cmp_Compare_string x0 x1) = (T_cmp_Compare_string n x0 x1).bind fun r => .done (O_cmp_Compare_string r) := by kernel_rfl
theorem ct_cmp_Compare_string (n : Nat) : CTok (CT_cmp_Compare_string n) (runs KP lib n) := mkCT_cons (eo_cmp_isNaN_string n (noEnt_ok)) (mkCT_nil)
theorem th_cmp_Compare_string : ∀ (n : Nat) (x0 : ByteArray) (x1 : ByteArray) (r : Int), F_cmp_Compare_string n x0 x1 = some r → runs KP lib n 59 (A_cmp_Compare_string x0 x1) [] = some ⟨O_cmp_Compare_string r, [], []⟩
  | 0, x0, x1, r, h => by cases h
  | n + 1, x0, x1, r, h => fun_step (kf := K_cmp_Compare_string) rfl (ct_cmp_Compare_string n) (noLoops rfl) (ft_cmp_Compare_string n x0 x1) h
def FH_cmp_Compare_string (n : Nat) : List (List (List Hv)) → Option (Int)
  | [[[.s x0]], [[.s x1]]] => F_cmp_Compare_string n x0 x1
  | _ => none
def E_cmp_Compare_string (n : Nat) (d : List AV → Tr AV) : List AV → Tr AV := cent (A_cmp_Compare_string (⟨#[]⟩) (⟨#[]⟩)) (FH_cmp_Compare_string n) O_cmp_Compare_string d
theorem eo_cmp_Compare_string (n : Nat) {d : List AV → Tr AV} (hd : ∀ ar r, (d ar).run = some r → runs KP lib n 59 ar [] = some ⟨r, [], []⟩) : ∀ ar r, (E_cmp_Compare_string n d ar).run = some r → runs KP lib n 59 ar [] = some ⟨r, [], []⟩ :=
  cent_ok (fun hs r h => by
    unfold FH_cmp_Compare_string at h
    split at h
    · exact ⟨A_cmp_Compare_string _ _, rfl, th_cmp_Compare_string n _ _ r h⟩
    · cases h) hd
/-! ### cmp.Or[int] -/
def A_cmp_Or_int (x0 : List (List PV)) : List AV := [(.c (.p (.ls x0)))]
def O_cmp_Or_int (r : Int) : AV := (.c (.p (.i .i64 r)))
abbrev CT_cmp_Or_int (n : Nat) : CTab := mkCT []
def S_cmp_Or_int_29 (v : Int × (List (List PV)) × Int × Int) : St := ⟨[(3, (.c (.p (.i .i64 v.1)))), (6, (.c (.p (.ls v.2.1)))), (7, (.c (.p (.i .i64 v.2.2.1)))), (8, (.c (.p (.i .i64 v.2.2.2))))], [], []⟩
def B_cmp_Or_int_29 (n : Nat) (v : Int × (List (List PV)) × Int × Int) : Tr ((Int × (List (List PV)) × Int × Int) ⊕ ((Int) ⊕ (Int))) := (.ask ((decide (v.2.2.2 < v.2.2.1))) (.ask (decide (0 ≤ v.2.2.2 ∧ v.2.2.2 < v.2.1.length)) (.opt (v.2.1[(v.2.2.2).toNat]?) fun e18 => (.ask (decide (e18.length = 1)) (.opt (cellI .i64 e18 0) fun y19 => (.ask ((y19 != v.1)) (.done (.inr (.inl (y19)))) (.done (.inl (v.1, v.2.1, v.2.2.1, (IntKind.i64.wrap (v.2.2.2 + (1 : Int)))))))) .fail)) .fail) (.done (.inr (.inr (v.1)))))
def D_cmp_Or_int_29 : ((Int) ⊕ (Int)) → Ex × St := fun | .inl r => (.ret, ⟨[(2, (.c (.p (.i .i64 r))))], [], []⟩) | .inr r => (fun r => ((.exit 0), ⟨[(3, (.c (.p (.i .i64 r))))], [], []⟩)) r
def DT_cmp_Or_int_29 : ((Int) ⊕ (Int)) → Tr (Ex × St) := fun r => .alt r (fun r => .done (.ret, ⟨[(2, (.c (.p (.i .i64 r))))], [], []⟩)) (fun r => .done ((.exit 0), ⟨[(3, (.c (.p (.i .i64 r))))], [], []⟩))
def VH_cmp_Or_int_29 : List (List (List Hv)) × List (List (List Hv)) → Option (Int × (List (List PV)) × Int × Int)
  | ([[[.i w0]], [[.r w1]], [[.i w2]], [[.i w3]]], []) => some (w0, w1, w2, w3)
  | _ => none
abbrev LE_cmp_Or_int_29 (n : Nat) : St → Tr (Ex × St) := lent (S_cmp_Or_int_29 (0, [], 0, 0)) VH_cmp_Or_int_29 (B_cmp_Or_int_29 n) DT_cmp_Or_int_29 n
abbrev LT_cmp_Or_int (n : Nat) : LTab := mkLT [(29, LE_cmp_Or_int_29 n)]
def T_cmp_Or_int (n : Nat) (x0 : List (List PV)) : Tr (Int) := (.opt (loopF (B_cmp_Or_int_29 n) n ((0 : Int), x0, (x0.length : Int), (0 : Int))) fun r20 => (.alt r20 (fun r21 => (.done r21)) (fun r22 => (.done r22))))
def F_cmp_Or_int : Nat → List (List PV) → Option (Int)
  | 0, _ => none
  | n + 1, x0 => (T_cmp_Or_int n x0).run
theorem ft_cmp_Or_int (n : Nat) (x0 : List (List PV)) : funT (CT_cmp_Or_int n) (LT_cmp_Or_int n) K_cmp_Or_int (A_cmp_Or_int x0) = (T_cmp_Or_int n x0).bind fun r => .done (O_cmp_Or_int r) := by kernel_rfl
theorem ct_cmp_Or_int (n : Nat) : CTok (CT_cmp_Or_int n) (runs KP lib n) := mkCT_nil
theorem lt_cmp_Or_int_29 (n : Nat) (v : Int × (List (List PV)) × Int × Int) : (evalCT (CT_cmp_Or_int n) (mkLT []) K_cmp_Or_int_L29 (S_cmp_Or_int_29 v) []).bind (ltail [3, 6, 7, 8] [(.ret, [2]), ((.exit 0), [3])]) = (B_cmp_Or_int_29 n v).bind (lenc S_cmp_Or_int_29 D_cmp_Or_int_29) := by
  obtain ⟨w0, w1, w2, w3⟩ := v
  kernel_rfl
theorem le_cmp_Or_int_29 (n : Nat) : LEok (runs KP lib n) n (29, [3, 6, 7, 8], [(.ret, [2]), ((.exit 0), [3])], K_cmp_Or_int_L29) (LE_cmp_Or_int_29 n) := fun st e s h =>
  lent_ok (ct_cmp_Or_int n) (noLoops rfl) (lt_cmp_Or_int_29 n) (fun r => by
    rcases r with r | r <;> (intro h; cases h)) (fun r y h => by
    rcases r with r | r <;> (cases h; rfl)) (fun hs v h => by
    unfold VH_cmp_Or_int_29 at h
    split at h <;> cases h
    rfl) h
theorem lo_cmp_Or_int (n : Nat) : LTok (LT_cmp_Or_int n) (runs KP lib n) n K_cmp_Or_int.body := mkLT_ok (by
  intro x hx
  have hx : x ∈ ([(29, [3, 6, 7, 8], [(.ret, [2]), ((.exit 0), [3])], K_cmp_Or_int_L29)] : List (Nat × List Nat × List (Ex × List Nat) × KCode)) := hx
  simp only [List.mem_cons, List.not_mem_nil, or_false] at hx
  rcases hx with rfl
  · exact ⟨LE_cmp_Or_int_29 n, fun st => rfl, le_cmp_Or_int_29 n⟩)
theorem th_cmp_Or_int : ∀ (n : Nat) (x0 : List (List PV)) (r : Int), F_cmp_Or_int n x0 = some r → runs KP lib n 57 (A_cmp_Or_int x0) [] = some ⟨O_cmp_Or_int r, [], []⟩
  | 0, x0, r, h => by cases h
  | n + 1, x0, r, h => fun_step (kf := K_cmp_Or_int) rfl (ct_cmp_Or_int n) (lo_cmp_Or_int n) (ft_cmp_Or_int n x0) h
def FH_cmp_Or_int (n : Nat) : List (List (List Hv)) → Option (Int)
  | [[[.r x0]]] => F_cmp_Or_int n x0
  | _ => none
def E_cmp_Or_int (n : Nat) (d : List AV → Tr AV) : List AV → Tr AV := cent (A_cmp_Or_int ([])) (FH_cmp_Or_int n) O_cmp_Or_int d
theorem eo_cmp_Or_int (n : Nat) {d : List AV → Tr AV} (hd : ∀ ar r, (d ar).run = some r → runs KP lib n 57 ar [] = some ⟨r, [], []⟩) : ∀ ar r, (E_cmp_Or_int n d ar).run = some r → runs KP lib n 57 ar [] = some ⟨r, [], []⟩ :=
  cent_ok (fun hs r h => by
    unfold FH_cmp_Or_int at h
    split at h
    · exact ⟨A_cmp_Or_int _, rfl, th_cmp_Or_int n _ r h⟩
    · cases h) hd
/-! ### impl.Order -/
def A_impl_Order (x0 : Int) (x1 : Int) (x2 : ByteArray) (x3 : Int) (x4 : Int) (x5 : ByteArray) : List AV := [(.agg [(.p (.i .i64 x0)), (.p (.i .i64 x1)), (.p (.s x2))]), (.agg [(.p (.i .i64 x3)), (.p (.i .i64 x4)), (.p (.s x5))])]
def O_impl_Order (r : Int) : AV := (.c (.p (.i .i64 r)))
abbrev CT_impl_Order (n : Nat) : CTab := mkCT [(58, E_cmp_Compare_int64 n (noEnt)), (59, E_cmp_Compare_string n (noEnt)), (57, E_cmp_Or_int n (noEnt))]
abbrev LT_impl_Order (n : Nat) : LTab := mkLT []
def T_impl_Order (n : Nat) (x0 : Int) (x1 : Int) (x2 : ByteArray) (x3 : Int) (x4 : Int) (x5 : ByteArray) : Tr (Int) := (.opt (F_cmp_Compare_int64 n x0 x3) fun r13 => (.opt (F_cmp_Compare_int64 n x1 x4) fun r14 => (.opt (F_cmp_Compare_string n x2 x5) fun r17 => (.ask (decide (3 = ([[(.i .i64 r13)], [(.i .i64 r14)], [(.i .i64 r17)]] : List (List PV)).length)) (.opt (F_cmp_Or_int n ([[(.i .i64 r13)], [(.i .i64 r14)], [(.i .i64 r17)]] : List (List PV))) fun r23 => (.done r23)) .fail))))
def F_impl_Order : Nat → Int → Int → ByteArray → Int → Int → ByteArray → Option (Int)
  | 0, _, _, _, _, _, _ => none
  | n + 1, x0, x1, x2, x3, x4, x5 => (T_impl_Order n x0 x1 x2 x3 x4 x5).run
theorem ft_impl_Order (n : Nat) (x0 : Int) (x1 : Int) (x2 : ByteArray) (x3 : Int) (x4 : Int) (x5 : ByteArray) : funT (CT_impl_Order n) (LT_impl_Order n) K_impl_Order (A_impl_Order x0 x1 x2 x3 x4 x5) = (T_impl_Order n x0 x1 x2 x3 x4 x5).bind fun r => .done (O_impl_Order r) := by kernel_rfl
theorem ct_impl_Order (n : Nat) : CTok (CT_impl_Order n) (runs KP lib n) := mkCT_cons (eo_cmp_Compare_int64 n (noEnt_ok)) (mkCT_cons (eo_cmp_Compare_string n (noEnt_ok)) (mkCT_cons (eo_cmp_Or_int n (noEnt_ok)) (mkCT_nil)))
theorem th_impl_Order : ∀ (n : Nat) (x0 : Int) (x1 : Int) (x2 : ByteArray) (x3 : Int) (x4 : Int) (x5 : ByteArray) (r : Int), F_impl_Order n x0 x1 x2 x3 x4 x5 = some r → runs KP lib n 33 (A_impl_Order x0 x1 x2 x3 x4 x5) [] = some ⟨O_impl_Order r, [], []⟩
  | 0, x0, x1, x2, x3, x4, x5, r, h => by cases h
  | n + 1, x0, x1, x2, x3, x4, x5, r, h => fun_step (kf := K_impl_Order) rfl (ct_impl_Order n) (noLoops rfl) (ft_impl_Order n x0 x1 x2 x3 x4 x5) h
def FH_impl_Order (n : Nat) : List (List (List Hv)) → Option (Int)
  | [[[.i x0], [.i x1], [.s x2]], [[.i x3], [.i x4], [.s x5]]] => F_impl_Order n x0 x1 x2 x3 x4 x5
  | _ => none
def E_impl_Order (n : Nat) (d : List AV → Tr AV) : List AV → Tr AV := cent (A_impl_Order (0) (0) (⟨#[]⟩) (0) (0) (⟨#[]⟩)) (FH_impl_Order n) O_impl_Order d
theorem eo_impl_Order (n : Nat) {d : List AV → Tr AV} (hd : ∀ ar r, (d ar).run = some r → runs KP lib n 33 ar [] = some ⟨r, [], []⟩) : ∀ ar r, (E_impl_Order n d ar).run = some r → runs KP lib n 33 ar [] = some ⟨r, [], []⟩ :=
  cent_ok (fun hs r h => by
    unfold FH_impl_Order at h
    split at h
    · exact ⟨A_impl_Order _ _ _ _ _ _, rfl, th_impl_Order n _ _ _ _ _ _ r h⟩
    · cases h) hd
/-! ### laws.FnExactOrder -/
def A_laws_FnExactOrder (x0 : Int) (x1 : Int) (x2 : ByteArray) (x3 : Int) (x4 : Int) (x5 : ByteArray) : List AV := [(.agg [(.p (.i .i64 x0)), (.p (.i .i64 x1)), (.p (.s x2))]), (.agg [(.p (.i .i64 x3)), (.p (.i .i64 x4)), (.p (.s x5))])]
def O_laws_FnExactOrder (r : Bool) : AV := (.c (.p (.b r)))
abbrev CT_laws_FnExactOrder (n : Nat) : CTab := mkCT [(28, E_laws_szValue n (noEnt)), (30, E_laws_toValue n (noEnt)), (32, E_spec_Order n (noEnt)), (33, E_impl_Order n (noEnt))]
abbrev LT_laws_FnExactOrder (n : Nat) : LTab := mkLT []
def T_laws_FnExactOrder (n : Nat) (x0 : Int) (x1 : Int) (x2 : ByteArray) (x3 : Int) (x4 : Int) (x5 : ByteArray) : Tr (Bool) := (.opt (F_laws_szValue n x0 x1 x2 (1048576 : Int)) fun r1 => (.ask ((decide (r1 < (0 : Int)))) (.done true) (.opt (F_laws_szValue n x3 x4 x5 r1) fun r2 => (.ask ((decide (r2 < (0 : Int)))) (.done true) (.opt (F_laws_toValue n x0 x1 x2) fun r3 => (.opt (F_laws_toValue n x3 x4 x5) fun r4 => (.opt (F_spec_Order n r3.1 r3.2.1 r3.2.2 r4.1 r4.2.1 r4.2.2) fun r8 => (.opt (F_laws_toValue n x0 x1 x2) fun r9 => (.opt (F_laws_toValue n x3 x4 x5) fun r10 => (.opt (F_impl_Order n r9.1 r9.2.1 r9.2.2 r10.1 r10.2.1 r10.2.2) fun r24 => (.ask ((r24 != r8)) (.done false) (.done true))))))))))))
def F_laws_FnExactOrder : Nat → Int → Int → ByteArray → Int → Int → ByteArray → Option (Bool)
  | 0, _, _, _, _, _, _ => none
  | n + 1, x0, x1, x2, x3, x4, x5 => (T_laws_FnExactOrder n x0 x1 x2 x3 x4 x5).run
theorem ft_laws_FnExactOrder (n : Nat) (x0 : Int) (x1 : Int) (x2 : ByteArray) (x3 : Int) (x4 : Int) (x5 : ByteArray) : funT (CT_laws_FnExactOrder n) (LT_laws_FnExactOrder n) K_laws_FnExactOrder (A_laws_FnExactOrder x0 x1 x2 x3 x4 x5) = (T_laws_FnExactOrder n x0 x1 x2 x3 x4 x5).bind fun r => .done (O_laws_FnExactOrder r) := by kernel_rfl
theorem ct_laws_FnExactOrder (n : Nat) : CTok (CT_laws_FnExactOrder n) (runs KP lib n) := mkCT_cons (eo_laws_szValue n (noEnt_ok)) (mkCT_cons (eo_laws_toValue n (noEnt_ok)) (mkCT_cons (eo_spec_Order n (noEnt_ok)) (mkCT_cons (eo_impl_Order n (noEnt_ok)) (mkCT_nil))))
theorem th_laws_FnExactOrder : ∀ (n : Nat) (x0 : Int) (x1 : Int) (x2 : ByteArray) (x3 : Int) (x4 : Int) (x5 : ByteArray) (r : Bool), F_laws_FnExactOrder n x0 x1 x2 x3 x4 x5 = some r → runs KP lib n 10 (A_laws_FnExactOrder x0 x1 x2 x3 x4 x5) [] = some ⟨O_laws_FnExactOrder r, [], []⟩
  | 0, x0, x1, x2, x3, x4, x5, r, h => by cases h
  | n + 1, x0, x1, x2, x3, x4, x5, r, h => fun_step (kf := K_laws_FnExactOrder) rfl (ct_laws_FnExactOrder n) (noLoops rfl) (ft_laws_FnExactOrder n x0 x1 x2 x3 x4 x5) h
def FH_laws_FnExactOrder (n : Nat) : List (List (List Hv)) → Option (Bool)
  | [[[.i x0], [.i x1], [.s x2]], [[.i x3], [.i x4], [.s x5]]] => F_laws_FnExactOrder n x0 x1 x2 x3 x4 x5
  | _ => none
def E_laws_FnExactOrder (n : Nat) (d : List AV → Tr AV) : List AV → Tr AV := cent (A_laws_FnExactOrder (0) (0) (⟨#[]⟩) (0) (0) (⟨#[]⟩)) (FH_laws_FnExactOrder n) O_laws_FnExactOrder d
theorem eo_laws_FnExactOrder (n : Nat) {d : List AV → Tr AV} (hd : ∀ ar r, (d ar).run = some r → runs KP lib n 10 ar [] = some ⟨r, [], []⟩) : ∀ ar r, (E_laws_FnExactOrder n d ar).run = some r → runs KP lib n 10 ar [] = some ⟨r, [], []⟩ :=
  cent_ok (fun hs r h => by
    unfold FH_laws_FnExactOrder at h
    split at h
    · exact ⟨A_laws_FnExactOrder _ _ _ _ _ _, rfl, th_laws_FnExactOrder n _ _ _ _ _ _ r h⟩
    · cases h) hd
end Go.Proofs.Ytoodcplobkflfaa.KFnExactOrder
