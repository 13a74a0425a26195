/-
  The trees of what FnExactReadValue calls: plain functions, and that the engine reckons just these. No condition.
-/
import Derived.Test.YtaannlnlddbgdaaDoorKFnExactReadValue
import Derived.Test.YtaannlnlddbgdaaDoorE33
import Derived.KernelRfl
namespace Go.Proofs.YtaannlnlddbgdaaDoor.KFnExactReadValue
open Go.Eng
set_option linter.unusedVariables false
set_option maxRecDepth 100000
def lib : FuncId → List AV → Option AV := libCons 34 Q_strings_CutPrefix (libCons 38 Q_strconv_ParseInt (libCons 56 Q_strconv_FormatInt (libNil)))
/-! ### spec.l1In -/
def A_spec_l1In (x0 : Int) (x1 : Int) (x2 : Int) : List AV := [(.c (.p (.i .i64 x0))), (.c (.p (.i .i64 x1))), (.c (.p (.i .i64 x2)))]
def U_spec_l1In (x0 : Int) (x1 : Int) (x2 : Int) : List Go.Eng.Frame := []
def O_spec_l1In (r : Bool) : Res := ⟨(.c (.p (.b r))), [], []⟩
abbrev CT_spec_l1In (n : Nat) : CTab := mkCT []
abbrev LT_spec_l1In (n : Nat) : LTab := mkLT []
def T_spec_l1In (n : Nat) (x0 : Int) (x1 : Int) (x2 : Int) : Tr (Bool) := (.ask ((decide (x0 ≥ x1))) (.done (decide (x0 ≤ x2))) (.done false))
def F_spec_l1In : Nat → Int → Int → Int → Option (Bool)
  | 0, _, _, _ => none
  | n + 1, x0, x1, x2 => (T_spec_l1In n x0 x1 x2).run
theorem ft_spec_l1In (n : Nat) (x0 : Int) (x1 : Int) (x2 : Int) : funT (CT_spec_l1In n) (LT_spec_l1In n) K_spec_l1In (A_spec_l1In x0 x1 x2) (U_spec_l1In x0 x1 x2) = (T_spec_l1In n x0 x1 x2).bind fun r => .done (O_spec_l1In r) := by kernel_rfl
theorem ct_spec_l1In (n : Nat) : CTok (CT_spec_l1In n) (runs KP lib n) := mkCT_nil
theorem th_spec_l1In : ∀ (n : Nat) (x0 : Int) (x1 : Int) (x2 : Int) (r : Bool), F_spec_l1In n x0 x1 x2 = some r → runs KP lib n 44 (A_spec_l1In x0 x1 x2) (U_spec_l1In x0 x1 x2) = some (O_spec_l1In r)
  | 0, x0, x1, x2, r, h => by cases h
  | n + 1, x0, x1, x2, r, h => fun_step (kf := K_spec_l1In) rfl (ct_spec_l1In n) (noLoops rfl) (ft_spec_l1In n x0 x1 x2) h
def FH_spec_l1In (n : Nat) : Cont → Option (Bool)
  | ([[[.i x0]], [[.i x1]], [[.i x2]]], []) => F_spec_l1In n x0 x1 x2
  | _ => none
def E_spec_l1In (n : Nat) (d : List AV → List Go.Eng.Frame → Tr Res) : List AV → List Go.Eng.Frame → Tr Res := cent (A_spec_l1In (0) (0) (0)) (U_spec_l1In (0) (0) (0)) (FH_spec_l1In n) O_spec_l1In d
theorem eo_spec_l1In (n : Nat) {d : List AV → List Go.Eng.Frame → Tr Res} (hd : ∀ ar up r, (d ar up).run = some r → runs KP lib n 44 ar up = some r) : ∀ ar up r, (E_spec_l1In n d ar up).run = some r → runs KP lib n 44 ar up = some r :=
  cent_ok (fun hs r h => by
    unfold FH_spec_l1In at h
    split at h
    · exact ⟨A_spec_l1In _ _ _, U_spec_l1In _ _ _, rfl, rfl, th_spec_l1In n _ _ _ r h⟩
    · cases h) hd
/-! ### spec.l2Plain -/
def A_spec_l2Plain (x0 : ByteArray) : List AV := [(.c (.p (.s x0)))]
def U_spec_l2Plain (x0 : ByteArray) : List Go.Eng.Frame := []
def O_spec_l2Plain (r : Bool) : Res := ⟨(.c (.p (.b r))), [], []⟩
abbrev CT_spec_l2Plain (n : Nat) : CTab := mkCT []
def S_spec_l2Plain_13 (v : ByteArray × Int) : St := ⟨[(0, (.c (.p (.s v.1)))), (3, (.c (.p (.i .i64 v.2))))], [], []⟩
def B_spec_l2Plain_13 (n : Nat) (v : ByteArray × Int) : Tr ((ByteArray × Int) ⊕ ((Bool) ⊕ (ByteArray))) := (.ask ((decide (v.2 < (v.1.size : Int)))) (.ask (decide (0 ≤ v.2)) (.opt (v.1.toList[(v.2).toNat]?) fun c3 => (.ask ((decide ((c3.toNat : Int) < (32 : Int)))) (.done (.inr (.inl (false)))) (.ask (decide (0 ≤ v.2)) (.opt (v.1.toList[(v.2).toNat]?) fun c4 => (.ask ((decide ((c4.toNat : Int) > (126 : Int)))) (.done (.inr (.inl (false)))) (.done (.inl (v.1, (IntKind.i64.wrap (v.2 + (1 : Int)))))))) .fail))) .fail) (.done (.inr (.inr (v.1)))))
def D_spec_l2Plain_13 : ((Bool) ⊕ (ByteArray)) → Ex × St := fun | .inl r => (.ret, ⟨[(2, (.c (.p (.b r))))], [], []⟩) | .inr r => (fun r => ((.exit 0), ⟨[(0, (.c (.p (.s r))))], [], []⟩)) r
def DT_spec_l2Plain_13 : ((Bool) ⊕ (ByteArray)) → Tr (Ex × St) := fun r => .alt r (fun r => .done (.ret, ⟨[(2, (.c (.p (.b r))))], [], []⟩)) (fun r => .done ((.exit 0), ⟨[(0, (.c (.p (.s r))))], [], []⟩))
def VH_spec_l2Plain_13 : Cont3 → Option (ByteArray × Int)
  | ([[[.s w0]], [[.i w1]]], [], []) => some (w0, w1)
  | _ => none
abbrev LE_spec_l2Plain_13 (n : Nat) : St → Tr (Ex × St) := lent (S_spec_l2Plain_13 (⟨#[]⟩, 0)) VH_spec_l2Plain_13 (B_spec_l2Plain_13 n) DT_spec_l2Plain_13 n
abbrev LT_spec_l2Plain (n : Nat) : LTab := mkLT [(13, LE_spec_l2Plain_13 n)]
def T_spec_l2Plain (n : Nat) (x0 : ByteArray) : Tr (Bool) := (.opt (loopF (B_spec_l2Plain_13 n) n (x0, (0 : Int))) fun r5 => (.alt r5 (fun r6 => (.done r6)) (fun r7 => (.done (decide ((r7.size : Int) ≤ (200 : Int)))))))
def F_spec_l2Plain : Nat → ByteArray → Option (Bool)
  | 0, _ => none
  | n + 1, x0 => (T_spec_l2Plain n x0).run
theorem ft_spec_l2Plain (n : Nat) (x0 : ByteArray) : funT (CT_spec_l2Plain n) (LT_spec_l2Plain n) K_spec_l2Plain (A_spec_l2Plain x0) (U_spec_l2Plain x0) = (T_spec_l2Plain n x0).bind fun r => .done (O_spec_l2Plain r) := by kernel_rfl
theorem ct_spec_l2Plain (n : Nat) : CTok (CT_spec_l2Plain n) (runs KP lib n) := mkCT_nil
theorem lt_spec_l2Plain_13 (n : Nat) (v : ByteArray × Int) : (evalCT (CT_spec_l2Plain n) (mkLT []) K_spec_l2Plain_L13 (S_spec_l2Plain_13 v) []).bind (ltail [0, 3] [(.ret, [2]), ((.exit 0), [0])]) = (B_spec_l2Plain_13 n v).bind (lenc S_spec_l2Plain_13 D_spec_l2Plain_13) := by
  obtain ⟨w0, w1⟩ := v
  kernel_rfl
theorem le_spec_l2Plain_13 (n : Nat) : LEok (runs KP lib n) n (13, [0, 3], [(.ret, [2]), ((.exit 0), [0])], K_spec_l2Plain_L13) (LE_spec_l2Plain_13 n) := fun st e s h =>
  lent_ok (ct_spec_l2Plain n) (noLoops rfl) (lt_spec_l2Plain_13 n) (fun r => by
    rcases r with r | r <;> (intro h; cases h)) (fun r y h => by
    rcases r with r | r <;> (cases h; rfl)) (fun hs v h => by
    unfold VH_spec_l2Plain_13 at h
    split at h <;> cases h
    rfl) h
theorem lo_spec_l2Plain (n : Nat) : LTok (LT_spec_l2Plain n) (runs KP lib n) n K_spec_l2Plain.body := mkLT_ok (by
  intro x hx
  have hx : x ∈ ([(13, [0, 3], [(.ret, [2]), ((.exit 0), [0])], K_spec_l2Plain_L13)] : List (Nat × List Nat × List (Ex × List Nat) × KCode)) := hx
  simp only [List.mem_cons, List.not_mem_nil, or_false] at hx
  rcases hx with rfl
  · exact ⟨LE_spec_l2Plain_13 n, fun st => rfl, le_spec_l2Plain_13 n⟩)
theorem th_spec_l2Plain : ∀ (n : Nat) (x0 : ByteArray) (r : Bool), F_spec_l2Plain n x0 = some r → runs KP lib n 45 (A_spec_l2Plain x0) (U_spec_l2Plain x0) = some (O_spec_l2Plain r)
  | 0, x0, r, h => by cases h
  | n + 1, x0, r, h => fun_step (kf := K_spec_l2Plain) rfl (ct_spec_l2Plain n) (lo_spec_l2Plain n) (ft_spec_l2Plain n x0) h
def FH_spec_l2Plain (n : Nat) : Cont → Option (Bool)
  | ([[[.s x0]]], []) => F_spec_l2Plain n x0
  | _ => none
def E_spec_l2Plain (n : Nat) (d : List AV → List Go.Eng.Frame → Tr Res) : List AV → List Go.Eng.Frame → Tr Res := cent (A_spec_l2Plain (⟨#[]⟩)) (U_spec_l2Plain (⟨#[]⟩)) (FH_spec_l2Plain n) O_spec_l2Plain d
theorem eo_spec_l2Plain (n : Nat) {d : List AV → List Go.Eng.Frame → Tr Res} (hd : ∀ ar up r, (d ar up).run = some r → runs KP lib n 45 ar up = some r) : ∀ ar up r, (E_spec_l2Plain n d ar up).run = some r → runs KP lib n 45 ar up = some r :=
  cent_ok (fun hs r h => by
    unfold FH_spec_l2Plain at h
    split at h
    · exact ⟨A_spec_l2Plain _, U_spec_l2Plain _, rfl, rfl, th_spec_l2Plain n _ r h⟩
    · cases h) hd
/-! ### spec.ValueOk -/
def A_spec_ValueOk (x0 : Int) (x1 : Int) (x2 : ByteArray) : List AV := [(.agg [(.p (.i .i64 x0)), (.p (.i .i64 x1)), (.p (.s x2))])]
def U_spec_ValueOk (x0 : Int) (x1 : Int) (x2 : ByteArray) : List Go.Eng.Frame := []
def O_spec_ValueOk (r : Bool) : Res := ⟨(.c (.p (.b r))), [], []⟩
abbrev CT_spec_ValueOk (n : Nat) : CTab := mkCT [(44, E_spec_l1In n (noEnt)), (45, E_spec_l2Plain n (noEnt))]
abbrev LT_spec_ValueOk (n : Nat) : LTab := mkLT []
def T_spec_ValueOk (n : Nat) (x0 : Int) (x1 : Int) (x2 : ByteArray) : Tr (Bool) := (.ask ((x0 == (0 : Int))) (.ask ((x1 == (0 : Int))) (.done (x2.toList == (⟨#[]⟩ : ByteArray).toList)) (.done false)) (.ask ((x0 == (1 : Int))) (.opt (F_spec_l1In n x1 (-1000000000000000 : Int) (1000000000000000 : Int)) fun r2 => (.ask (r2) (.done (x2.toList == (⟨#[]⟩ : ByteArray).toList)) (.done false))) (.ask ((x0 == (2 : Int))) (.ask ((x1 == (0 : Int))) (.opt (F_spec_l2Plain n x2) fun r8 => (.done r8)) (.done false)) (.ask ((x0 == (3 : Int))) (.opt (F_spec_l1In n x1 (0 : Int) (1 : Int)) fun r9 => (.ask (r9) (.done (x2.toList == (⟨#[]⟩ : ByteArray).toList)) (.done false))) (.ask ((x0 == (4 : Int))) (.opt (F_spec_l1In n x1 (1 : Int) (5 : Int)) fun r10 => (.ask (r10) (.done (x2.toList == (⟨#[]⟩ : ByteArray).toList)) (.done false))) (.done false))))))
def F_spec_ValueOk : Nat → Int → Int → ByteArray → Option (Bool)
  | 0, _, _, _ => none
  | n + 1, x0, x1, x2 => (T_spec_ValueOk n x0 x1 x2).run
theorem ft_spec_ValueOk (n : Nat) (x0 : Int) (x1 : Int) (x2 : ByteArray) : funT (CT_spec_ValueOk n) (LT_spec_ValueOk n) K_spec_ValueOk (A_spec_ValueOk x0 x1 x2) (U_spec_ValueOk x0 x1 x2) = (T_spec_ValueOk n x0 x1 x2).bind fun r => .done (O_spec_ValueOk r) := by kernel_rfl
theorem ct_spec_ValueOk (n : Nat) : CTok (CT_spec_ValueOk n) (runs KP lib n) := mkCT_cons (eo_spec_l1In n (noEnt_ok)) (mkCT_cons (eo_spec_l2Plain n (noEnt_ok)) (mkCT_nil))
theorem th_spec_ValueOk : ∀ (n : Nat) (x0 : Int) (x1 : Int) (x2 : ByteArray) (r : Bool), F_spec_ValueOk n x0 x1 x2 = some r → runs KP lib n 21 (A_spec_ValueOk x0 x1 x2) (U_spec_ValueOk x0 x1 x2) = some (O_spec_ValueOk r)
  | 0, x0, x1, x2, r, h => by cases h
  | n + 1, x0, x1, x2, r, h => fun_step (kf := K_spec_ValueOk) rfl (ct_spec_ValueOk n) (noLoops rfl) (ft_spec_ValueOk n x0 x1 x2) h
def FH_spec_ValueOk (n : Nat) : Cont → Option (Bool)
  | ([[[.i x0], [.i x1], [.s x2]]], []) => F_spec_ValueOk n x0 x1 x2
  | _ => none
def E_spec_ValueOk (n : Nat) (d : List AV → List Go.Eng.Frame → Tr Res) : List AV → List Go.Eng.Frame → Tr Res := cent (A_spec_ValueOk (0) (0) (⟨#[]⟩)) (U_spec_ValueOk (0) (0) (⟨#[]⟩)) (FH_spec_ValueOk n) O_spec_ValueOk d
theorem eo_spec_ValueOk (n : Nat) {d : List AV → List Go.Eng.Frame → Tr Res} (hd : ∀ ar up r, (d ar up).run = some r → runs KP lib n 21 ar up = some r) : ∀ ar up r, (E_spec_ValueOk n d ar up).run = some r → runs KP lib n 21 ar up = some r :=
  cent_ok (fun hs r h => by
    unfold FH_spec_ValueOk at h
    split at h
    · exact ⟨A_spec_ValueOk _ _ _, U_spec_ValueOk _ _ _, rfl, rfl, th_spec_ValueOk n _ _ _ r h⟩
    · cases h) hd
/-! ### spec.l2Name -/
def A_spec_l2Name (x0 : Int) : List AV := [(.c (.p (.i .i64 x0)))]
def U_spec_l2Name (x0 : Int) : List Go.Eng.Frame := []
def O_spec_l2Name (r : ByteArray) : Res := ⟨(.c (.p (.s r))), [], []⟩
abbrev CT_spec_l2Name (n : Nat) : CTab := mkCT []
abbrev LT_spec_l2Name (n : Nat) : LTab := mkLT []
def T_spec_l2Name (n : Nat) (x0 : Int) : Tr (ByteArray) := (.ask (decide (6 = ([[(.s (⟨#[]⟩ : ByteArray))], [(.s (⟨#[35, 68, 73, 86, 33]⟩ : ByteArray))], [(.s (⟨#[35, 84, 89, 80, 69, 33]⟩ : ByteArray))], [(.s (⟨#[35, 82, 69, 70, 33]⟩ : ByteArray))], [(.s (⟨#[35, 79, 86, 69, 82, 33]⟩ : ByteArray))], [(.s (⟨#[35, 67, 89, 67, 76, 69, 33]⟩ : ByteArray))]] : List (List PV)).length ∧ 0 ≤ x0 ∧ x0 < ((6 : Nat) : Int))) (.opt (([[(.s (⟨#[]⟩ : ByteArray))], [(.s (⟨#[35, 68, 73, 86, 33]⟩ : ByteArray))], [(.s (⟨#[35, 84, 89, 80, 69, 33]⟩ : ByteArray))], [(.s (⟨#[35, 82, 69, 70, 33]⟩ : ByteArray))], [(.s (⟨#[35, 79, 86, 69, 82, 33]⟩ : ByteArray))], [(.s (⟨#[35, 67, 89, 67, 76, 69, 33]⟩ : ByteArray))]] : List (List PV))[(x0).toNat]?) fun e17 => (.opt (cellS e17 0) fun y18 => (.done y18))) .fail)
def F_spec_l2Name : Nat → Int → Option (ByteArray)
  | 0, _ => none
  | n + 1, x0 => (T_spec_l2Name n x0).run
theorem ft_spec_l2Name (n : Nat) (x0 : Int) : funT (CT_spec_l2Name n) (LT_spec_l2Name n) K_spec_l2Name (A_spec_l2Name x0) (U_spec_l2Name x0) = (T_spec_l2Name n x0).bind fun r => .done (O_spec_l2Name r) := by kernel_rfl
theorem ct_spec_l2Name (n : Nat) : CTok (CT_spec_l2Name n) (runs KP lib n) := mkCT_nil
theorem th_spec_l2Name : ∀ (n : Nat) (x0 : Int) (r : ByteArray), F_spec_l2Name n x0 = some r → runs KP lib n 31 (A_spec_l2Name x0) (U_spec_l2Name x0) = some (O_spec_l2Name r)
  | 0, x0, r, h => by cases h
  | n + 1, x0, r, h => fun_step (kf := K_spec_l2Name) rfl (ct_spec_l2Name n) (noLoops rfl) (ft_spec_l2Name n x0) h
def FH_spec_l2Name (n : Nat) : Cont → Option (ByteArray)
  | ([[[.i x0]]], []) => F_spec_l2Name n x0
  | _ => none
def E_spec_l2Name (n : Nat) (d : List AV → List Go.Eng.Frame → Tr Res) : List AV → List Go.Eng.Frame → Tr Res := cent (A_spec_l2Name (0)) (U_spec_l2Name (0)) (FH_spec_l2Name n) O_spec_l2Name d
theorem eo_spec_l2Name (n : Nat) {d : List AV → List Go.Eng.Frame → Tr Res} (hd : ∀ ar up r, (d ar up).run = some r → runs KP lib n 31 ar up = some r) : ∀ ar up r, (E_spec_l2Name n d ar up).run = some r → runs KP lib n 31 ar up = some r :=
  cent_ok (fun hs r h => by
    unfold FH_spec_l2Name at h
    split at h
    · exact ⟨A_spec_l2Name _, U_spec_l2Name _, rfl, rfl, th_spec_l2Name n _ r h⟩
    · cases h) hd
/-! ### spec.l1Int -/
def A_spec_l1Int (x0 : ByteArray) (x1 : Int) : List AV := [(.c (.p (.s x0))), (.c (.p (.i .i64 x1)))]
def U_spec_l1Int (x0 : ByteArray) (x1 : Int) : List Go.Eng.Frame := []
def O_spec_l1Int (r : Int × Bool) : Res := ⟨(.tup [(false, [(.p (.i .i64 r.1))]), (false, [(.p (.b r.2))])]), [], []⟩
abbrev CT_spec_l1Int (n : Nat) : CTab := mkCT []
def S_spec_l1Int_61 (v : ByteArray × Int × Int) : St := ⟨[(0, (.c (.p (.s v.1)))), (6, (.c (.p (.i .i64 v.2.1)))), (7, (.c (.p (.i .i64 v.2.2))))], [], []⟩
def B_spec_l1Int_61 (n : Nat) (v : ByteArray × Int × Int) : Tr ((ByteArray × Int × Int) ⊕ ((Int × Bool) ⊕ (Int))) := (.ask ((decide (v.2.2 < (v.1.size : Int)))) (.ask (decide (0 ≤ v.2.2)) (.opt (v.1.toList[(v.2.2).toNat]?) fun c22 => (.ask ((decide ((c22.toNat : Int) < (48 : Int)))) (.done (.inr (.inl (((0 : Int), false))))) (.ask (decide (0 ≤ v.2.2)) (.opt (v.1.toList[(v.2.2).toNat]?) fun c23 => (.ask ((decide ((c23.toNat : Int) > (57 : Int)))) (.done (.inr (.inl (((0 : Int), false))))) (.ask (decide (0 ≤ v.2.2)) (.opt (v.1.toList[(v.2.2).toNat]?) fun c24 => (.done (.inl (v.1, (IntKind.i64.wrap ((IntKind.i64.wrap (v.2.1 * (10 : Int))) + (IntKind.i64.wrap (IntKind.u8.wrap ((c24.toNat : Int) - (48 : Int)))))), (IntKind.i64.wrap (v.2.2 + (1 : Int))))))) .fail))) .fail))) .fail) (.done (.inr (.inr (v.2.1)))))
def D_spec_l1Int_61 : ((Int × Bool) ⊕ (Int)) → Ex × St := fun | .inl r => (.ret, ⟨[(4, (.c (.p (.i .i64 r.1)))), (5, (.c (.p (.b r.2))))], [], []⟩) | .inr r => (fun r => ((.exit 0), ⟨[(6, (.c (.p (.i .i64 r))))], [], []⟩)) r
def DT_spec_l1Int_61 : ((Int × Bool) ⊕ (Int)) → Tr (Ex × St) := fun r => .alt r (fun r => .done (.ret, ⟨[(4, (.c (.p (.i .i64 r.1)))), (5, (.c (.p (.b r.2))))], [], []⟩)) (fun r => .done ((.exit 0), ⟨[(6, (.c (.p (.i .i64 r))))], [], []⟩))
def VH_spec_l1Int_61 : Cont3 → Option (ByteArray × Int × Int)
  | ([[[.s w0]], [[.i w1]], [[.i w2]]], [], []) => some (w0, w1, w2)
  | _ => none
abbrev LE_spec_l1Int_61 (n : Nat) : St → Tr (Ex × St) := lent (S_spec_l1Int_61 (⟨#[]⟩, 0, 0)) VH_spec_l1Int_61 (B_spec_l1Int_61 n) DT_spec_l1Int_61 n
abbrev LT_spec_l1Int (n : Nat) : LTab := mkLT [(61, LE_spec_l1Int_61 n)]
def T_spec_l1Int (n : Nat) (x0 : ByteArray) (x1 : Int) : Tr (Int × Bool) := (.ask ((decide ((x0.size : Int) < (1 : Int)))) (.done ((0 : Int), false)) (.ask ((decide ((x0.size : Int) > x1))) (.done ((0 : Int), false)) (.ask (decide (0 ≤ (0 : Int))) (.opt (x0.toList[((0 : Int)).toNat]?) fun c21 => (.ask (((c21.toNat : Int) == (48 : Int))) (.ask ((decide ((x0.size : Int) > (1 : Int)))) (.done ((0 : Int), false)) (.opt (loopF (B_spec_l1Int_61 n) n (x0, (0 : Int), (0 : Int))) fun r25 => (.alt r25 (fun r26 => (.done (r26.1, r26.2))) (fun r27 => (.done (r27, true)))))) (.opt (loopF (B_spec_l1Int_61 n) n (x0, (0 : Int), (0 : Int))) fun r28 => (.alt r28 (fun r29 => (.done (r29.1, r29.2))) (fun r30 => (.done (r30, true))))))) .fail)))
def F_spec_l1Int : Nat → ByteArray → Int → Option (Int × Bool)
  | 0, _, _ => none
  | n + 1, x0, x1 => (T_spec_l1Int n x0 x1).run
theorem ft_spec_l1Int (n : Nat) (x0 : ByteArray) (x1 : Int) : funT (CT_spec_l1Int n) (LT_spec_l1Int n) K_spec_l1Int (A_spec_l1Int x0 x1) (U_spec_l1Int x0 x1) = (T_spec_l1Int n x0 x1).bind fun r => .done (O_spec_l1Int r) := by kernel_rfl
theorem ct_spec_l1Int (n : Nat) : CTok (CT_spec_l1Int n) (runs KP lib n) := mkCT_nil
theorem lt_spec_l1Int_61 (n : Nat) (v : ByteArray × Int × Int) : (evalCT (CT_spec_l1Int n) (mkLT []) K_spec_l1Int_L61 (S_spec_l1Int_61 v) []).bind (ltail [0, 6, 7] [(.ret, [4, 5]), ((.exit 0), [6])]) = (B_spec_l1Int_61 n v).bind (lenc S_spec_l1Int_61 D_spec_l1Int_61) := by
  obtain ⟨w0, w1, w2⟩ := v
  kernel_rfl
theorem le_spec_l1Int_61 (n : Nat) : LEok (runs KP lib n) n (61, [0, 6, 7], [(.ret, [4, 5]), ((.exit 0), [6])], K_spec_l1Int_L61) (LE_spec_l1Int_61 n) := fun st e s h =>
  lent_ok (ct_spec_l1Int n) (noLoops rfl) (lt_spec_l1Int_61 n) (fun r => by
    rcases r with r | r <;> (intro h; cases h)) (fun r y h => by
    rcases r with r | r <;> (cases h; rfl)) (fun hs v h => by
    unfold VH_spec_l1Int_61 at h
    split at h <;> cases h
    rfl) h
theorem lo_spec_l1Int (n : Nat) : LTok (LT_spec_l1Int n) (runs KP lib n) n K_spec_l1Int.body := mkLT_ok (by
  intro x hx
  have hx : x ∈ ([(61, [0, 6, 7], [(.ret, [4, 5]), ((.exit 0), [6])], K_spec_l1Int_L61)] : List (Nat × List Nat × List (Ex × List Nat) × KCode)) := hx
  simp only [List.mem_cons, List.not_mem_nil, or_false] at hx
  rcases hx with rfl
  · exact ⟨LE_spec_l1Int_61 n, fun st => rfl, le_spec_l1Int_61 n⟩)
theorem th_spec_l1Int : ∀ (n : Nat) (x0 : ByteArray) (x1 : Int) (r : Int × Bool), F_spec_l1Int n x0 x1 = some r → runs KP lib n 33 (A_spec_l1Int x0 x1) (U_spec_l1Int x0 x1) = some (O_spec_l1Int r)
  | 0, x0, x1, r, h => by cases h
  | n + 1, x0, x1, r, h => fun_step (kf := K_spec_l1Int) rfl (ct_spec_l1Int n) (lo_spec_l1Int n) (ft_spec_l1Int n x0 x1) h
def FH_spec_l1Int (n : Nat) : Cont → Option (Int × Bool)
  | ([[[.s x0]], [[.i x1]]], []) => F_spec_l1Int n x0 x1
  | _ => none
def E_spec_l1Int (n : Nat) (d : List AV → List Go.Eng.Frame → Tr Res) : List AV → List Go.Eng.Frame → Tr Res := cent (A_spec_l1Int (⟨#[]⟩) (0)) (U_spec_l1Int (⟨#[]⟩) (0)) (FH_spec_l1Int n) O_spec_l1Int d
theorem eo_spec_l1Int (n : Nat) {d : List AV → List Go.Eng.Frame → Tr Res} (hd : ∀ ar up r, (d ar up).run = some r → runs KP lib n 33 ar up = some r) : ∀ ar up r, (E_spec_l1Int n d ar up).run = some r → runs KP lib n 33 ar up = some r :=
  cent_ok (fun hs r h => by
    unfold FH_spec_l1Int at h
    split at h
    · exact ⟨A_spec_l1Int _ _, U_spec_l1Int _ _, rfl, rfl, th_spec_l1Int n _ _ r h⟩
    · cases h) hd
/-! ### spec.ReadValue -/
def A_spec_ReadValue (x0 : ByteArray) : List AV := [(.c (.p (.s x0)))]
def U_spec_ReadValue (x0 : ByteArray) : List Go.Eng.Frame := []
def O_spec_ReadValue (r : Int × Int × ByteArray × Bool) : Res := ⟨(.tup [(true, [(.p (.i .i64 r.1)), (.p (.i .i64 r.2.1)), (.p (.s r.2.2.1))]), (false, [(.p (.b r.2.2.2))])]), [], []⟩
abbrev CT_spec_ReadValue (n : Nat) : CTab := mkCT [(21, E_spec_ValueOk n (noEnt)), (31, E_spec_l2Name n (noEnt)), (33, E_spec_l1Int n (noEnt))]
def S_spec_ReadValue_15355 (v : ByteArray × Int × Int × Int × ByteArray × Int × Int × ByteArray) : St := ⟨[(0, (.c (.p (.s v.1)))), (2, (.c (.ptr 0 128 0 0 0))), (4, (.c (.ptr 0 256 0 0 0))), (5, (.c (.p (.i .i64 v.2.1))))], [(128, ⟨0, 3, 25, (.box [(.p (.i .i64 v.2.2.1)), (.p (.i .i64 v.2.2.2.1)), (.p (.s v.2.2.2.2.1))])⟩), (256, ⟨0, 3, 25, (.box [(.p (.i .i64 v.2.2.2.2.2.1)), (.p (.i .i64 v.2.2.2.2.2.2.1)), (.p (.s v.2.2.2.2.2.2.2))])⟩)], []⟩
def B_spec_ReadValue_15355 (n : Nat) (v : ByteArray × Int × Int × Int × ByteArray × Int × Int × ByteArray) : Tr ((ByteArray × Int × Int × Int × ByteArray × Int × Int × ByteArray) ⊕ ((Int × Int × ByteArray × Int × Int × ByteArray))) := (.ask ((decide (v.2.1 ≤ (5 : Int)))) (.opt (F_spec_l2Name n v.2.1) fun r17 => (.ask ((r17.toList == v.1.toList)) (.done (.inl (v.1, (IntKind.i64.wrap (v.2.1 + (1 : Int))), v.2.2.1, v.2.2.2.1, v.2.2.2.2.1, v.2.2.2.2.2.1, v.2.1, v.2.2.2.2.2.2.2))) (.done (.inl (v.1, (IntKind.i64.wrap (v.2.1 + (1 : Int))), v.2.2.1, v.2.2.2.1, v.2.2.2.2.1, v.2.2.2.2.2.1, v.2.2.2.2.2.2.1, v.2.2.2.2.2.2.2))))) (.done (.inr ((v.2.2.1, v.2.2.2.1, v.2.2.2.2.1, v.2.2.2.2.2.1, v.2.2.2.2.2.2.1, v.2.2.2.2.2.2.2)))))
def D_spec_ReadValue_15355 : (Int × Int × ByteArray × Int × Int × ByteArray) → Ex × St := fun r => ((.exit 1), ⟨[(2, (.c (.ptr 0 128 0 0 0))), (4, (.c (.ptr 0 256 0 0 0)))], [(128, ⟨0, 3, 25, (.box [(.p (.i .i64 r.1)), (.p (.i .i64 r.2.1)), (.p (.s r.2.2.1))])⟩), (256, ⟨0, 3, 25, (.box [(.p (.i .i64 r.2.2.2.1)), (.p (.i .i64 r.2.2.2.2.1)), (.p (.s r.2.2.2.2.2))])⟩)], []⟩)
def DT_spec_ReadValue_15355 : (Int × Int × ByteArray × Int × Int × ByteArray) → Tr (Ex × St) := fun r => .done ((.exit 1), ⟨[(2, (.c (.ptr 0 128 0 0 0))), (4, (.c (.ptr 0 256 0 0 0)))], [(128, ⟨0, 3, 25, (.box [(.p (.i .i64 r.1)), (.p (.i .i64 r.2.1)), (.p (.s r.2.2.1))])⟩), (256, ⟨0, 3, 25, (.box [(.p (.i .i64 r.2.2.2.1)), (.p (.i .i64 r.2.2.2.2.1)), (.p (.s r.2.2.2.2.2))])⟩)], []⟩)
def VH_spec_ReadValue_15355 : Cont3 → Option (ByteArray × Int × Int × Int × ByteArray × Int × Int × ByteArray)
  | ([[[.s w0]], [[]], [[]], [[.i w1]]], [[[.i w2], [.i w3], [.s w4]], [[.i w5], [.i w6], [.s w7]]], []) => some (w0, w1, w2, w3, w4, w5, w6, w7)
  | _ => none
abbrev LE_spec_ReadValue_15355 (n : Nat) : St → Tr (Ex × St) := lent (S_spec_ReadValue_15355 (⟨#[]⟩, 0, 0, 0, ⟨#[]⟩, 0, 0, ⟨#[]⟩)) VH_spec_ReadValue_15355 (B_spec_ReadValue_15355 n) DT_spec_ReadValue_15355 n
abbrev LT_spec_ReadValue (n : Nat) : LTab := mkLT [(15355, LE_spec_ReadValue_15355 n)]
def T_spec_ReadValue (n : Nat) (x0 : ByteArray) : Tr (Int × Int × ByteArray × Bool) := (.ask ((x0.toList == (⟨#[]⟩ : ByteArray).toList)) (.done ((0 : Int), (0 : Int), (⟨#[]⟩ : ByteArray), true)) (.ask (decide (0 ≤ (0 : Int))) (.opt (x0.toList[((0 : Int)).toNat]?) fun c1 => (.ask (((c1.toNat : Int) == (39 : Int))) (.ask (decide (0 ≤ (1 : Int) ∧ (1 : Int) ≤ (x0.size : Int) ∧ (x0.size : Int) ≤ x0.size)) (.opt (F_spec_ValueOk n (2 : Int) (0 : Int) (x0.extract ((1 : Int)).toNat ((x0.size : Int)).toNat)) fun r11 => (.ask ((!r11)) (.done ((0 : Int), (0 : Int), (⟨#[]⟩ : ByteArray), false)) (.done ((2 : Int), (0 : Int), (x0.extract ((1 : Int)).toNat ((x0.size : Int)).toNat), true)))) .fail) (.ask ((x0.toList == (⟨#[84, 82, 85, 69]⟩ : ByteArray).toList)) (.ask ((x0.toList == (⟨#[84, 82, 85, 69]⟩ : ByteArray).toList)) (.opt (F_spec_ValueOk n (3 : Int) (1 : Int) (⟨#[]⟩ : ByteArray)) fun r12 => (.ask ((!r12)) (.done ((0 : Int), (0 : Int), (⟨#[]⟩ : ByteArray), false)) (.done ((3 : Int), (1 : Int), (⟨#[]⟩ : ByteArray), true)))) (.opt (F_spec_ValueOk n (3 : Int) (0 : Int) (⟨#[]⟩ : ByteArray)) fun r13 => (.ask ((!r13)) (.done ((0 : Int), (0 : Int), (⟨#[]⟩ : ByteArray), false)) (.done ((3 : Int), (0 : Int), (⟨#[]⟩ : ByteArray), true))))) (.ask ((x0.toList == (⟨#[70, 65, 76, 83, 69]⟩ : ByteArray).toList)) (.ask ((x0.toList == (⟨#[84, 82, 85, 69]⟩ : ByteArray).toList)) (.opt (F_spec_ValueOk n (3 : Int) (1 : Int) (⟨#[]⟩ : ByteArray)) fun r14 => (.ask ((!r14)) (.done ((0 : Int), (0 : Int), (⟨#[]⟩ : ByteArray), false)) (.done ((3 : Int), (1 : Int), (⟨#[]⟩ : ByteArray), true)))) (.opt (F_spec_ValueOk n (3 : Int) (0 : Int) (⟨#[]⟩ : ByteArray)) fun r15 => (.ask ((!r15)) (.done ((0 : Int), (0 : Int), (⟨#[]⟩ : ByteArray), false)) (.done ((3 : Int), (0 : Int), (⟨#[]⟩ : ByteArray), true))))) (.ask (decide (0 ≤ (0 : Int))) (.opt (x0.toList[((0 : Int)).toNat]?) fun c16 => (.ask (((c16.toNat : Int) == (35 : Int))) (.opt (loopF (B_spec_ReadValue_15355 n) n (x0, (1 : Int), (0 : Int), (0 : Int), (⟨#[]⟩ : ByteArray), (4 : Int), (0 : Int), (⟨#[]⟩ : ByteArray))) fun r18 => (.opt (F_spec_ValueOk n r18.2.2.2.1 r18.2.2.2.2.1 r18.2.2.2.2.2) fun r19 => (.ask ((!r19)) (.done ((0 : Int), (0 : Int), (⟨#[]⟩ : ByteArray), false)) (.done (r18.2.2.2.1, r18.2.2.2.2.1, r18.2.2.2.2.2, true))))) (.ask (decide (0 ≤ (0 : Int))) (.opt (x0.toList[((0 : Int)).toNat]?) fun c20 => (.ask (((c20.toNat : Int) == (45 : Int))) (.ask (decide (0 ≤ (1 : Int) ∧ (1 : Int) ≤ (x0.size : Int) ∧ (x0.size : Int) ≤ x0.size)) (.opt (F_spec_l1Int n (x0.extract ((1 : Int)).toNat ((x0.size : Int)).toNat) (16 : Int)) fun r31 => (.ask ((!r31.2)) (.done ((0 : Int), (0 : Int), (⟨#[]⟩ : ByteArray), false)) (.ask (((c20.toNat : Int) == (45 : Int))) (.ask ((r31.1 == (0 : Int))) (.done ((0 : Int), (0 : Int), (⟨#[]⟩ : ByteArray), false)) (.ask (((c20.toNat : Int) == (45 : Int))) (.opt (F_spec_ValueOk n (1 : Int) (IntKind.i64.wrap (0 - r31.1)) (⟨#[]⟩ : ByteArray)) fun r32 => (.ask ((!r32)) (.done ((0 : Int), (0 : Int), (⟨#[]⟩ : ByteArray), false)) (.done ((1 : Int), (IntKind.i64.wrap (0 - r31.1)), (⟨#[]⟩ : ByteArray), true)))) (.opt (F_spec_ValueOk n (1 : Int) r31.1 (⟨#[]⟩ : ByteArray)) fun r33 => (.ask ((!r33)) (.done ((0 : Int), (0 : Int), (⟨#[]⟩ : ByteArray), false)) (.done ((1 : Int), r31.1, (⟨#[]⟩ : ByteArray), true)))))) (.ask (((c20.toNat : Int) == (45 : Int))) (.opt (F_spec_ValueOk n (1 : Int) (IntKind.i64.wrap (0 - r31.1)) (⟨#[]⟩ : ByteArray)) fun r34 => (.ask ((!r34)) (.done ((0 : Int), (0 : Int), (⟨#[]⟩ : ByteArray), false)) (.done ((1 : Int), (IntKind.i64.wrap (0 - r31.1)), (⟨#[]⟩ : ByteArray), true)))) (.opt (F_spec_ValueOk n (1 : Int) r31.1 (⟨#[]⟩ : ByteArray)) fun r35 => (.ask ((!r35)) (.done ((0 : Int), (0 : Int), (⟨#[]⟩ : ByteArray), false)) (.done ((1 : Int), r31.1, (⟨#[]⟩ : ByteArray), true)))))))) .fail) (.opt (F_spec_l1Int n x0 (16 : Int)) fun r36 => (.ask ((!r36.2)) (.done ((0 : Int), (0 : Int), (⟨#[]⟩ : ByteArray), false)) (.ask (((c20.toNat : Int) == (45 : Int))) (.ask ((r36.1 == (0 : Int))) (.done ((0 : Int), (0 : Int), (⟨#[]⟩ : ByteArray), false)) (.ask (((c20.toNat : Int) == (45 : Int))) (.opt (F_spec_ValueOk n (1 : Int) (IntKind.i64.wrap (0 - r36.1)) (⟨#[]⟩ : ByteArray)) fun r37 => (.ask ((!r37)) (.done ((0 : Int), (0 : Int), (⟨#[]⟩ : ByteArray), false)) (.done ((1 : Int), (IntKind.i64.wrap (0 - r36.1)), (⟨#[]⟩ : ByteArray), true)))) (.opt (F_spec_ValueOk n (1 : Int) r36.1 (⟨#[]⟩ : ByteArray)) fun r38 => (.ask ((!r38)) (.done ((0 : Int), (0 : Int), (⟨#[]⟩ : ByteArray), false)) (.done ((1 : Int), r36.1, (⟨#[]⟩ : ByteArray), true)))))) (.ask (((c20.toNat : Int) == (45 : Int))) (.opt (F_spec_ValueOk n (1 : Int) (IntKind.i64.wrap (0 - r36.1)) (⟨#[]⟩ : ByteArray)) fun r39 => (.ask ((!r39)) (.done ((0 : Int), (0 : Int), (⟨#[]⟩ : ByteArray), false)) (.done ((1 : Int), (IntKind.i64.wrap (0 - r36.1)), (⟨#[]⟩ : ByteArray), true)))) (.opt (F_spec_ValueOk n (1 : Int) r36.1 (⟨#[]⟩ : ByteArray)) fun r40 => (.ask ((!r40)) (.done ((0 : Int), (0 : Int), (⟨#[]⟩ : ByteArray), false)) (.done ((1 : Int), r36.1, (⟨#[]⟩ : ByteArray), true)))))))))) .fail))) .fail))))) .fail))
def F_spec_ReadValue : Nat → ByteArray → Option (Int × Int × ByteArray × Bool)
  | 0, _ => none
  | n + 1, x0 => (T_spec_ReadValue n x0).run
theorem ft_spec_ReadValue (n : Nat) (x0 : ByteArray) : funT (CT_spec_ReadValue n) (LT_spec_ReadValue n) K_spec_ReadValue (A_spec_ReadValue x0) (U_spec_ReadValue x0) = (T_spec_ReadValue n x0).bind fun r => .done (O_spec_ReadValue r) := by kernel_rfl
theorem ct_spec_ReadValue (n : Nat) : CTok (CT_spec_ReadValue n) (runs KP lib n) := mkCT_cons (eo_spec_ValueOk n (noEnt_ok)) (mkCT_cons (eo_spec_l2Name n (noEnt_ok)) (mkCT_cons (eo_spec_l1Int n (noEnt_ok)) (mkCT_nil)))
theorem lt_spec_ReadValue_15355 (n : Nat) (v : ByteArray × Int × Int × Int × ByteArray × Int × Int × ByteArray) : (evalCT (CT_spec_ReadValue n) (mkLT []) K_spec_ReadValue_L15355 (S_spec_ReadValue_15355 v) []).bind (ltail [0, 2, 4, 5] [(.ret, [2, 3]), ((.exit 1), [2, 4]), ((.exit 0), [2, 4])]) = (B_spec_ReadValue_15355 n v).bind (lenc S_spec_ReadValue_15355 D_spec_ReadValue_15355) := by
  obtain ⟨w0, w1, w2, w3, w4, w5, w6, w7⟩ := v
  kernel_rfl
theorem le_spec_ReadValue_15355 (n : Nat) : LEok (runs KP lib n) n (15355, [0, 2, 4, 5], [(.ret, [2, 3]), ((.exit 1), [2, 4]), ((.exit 0), [2, 4])], K_spec_ReadValue_L15355) (LE_spec_ReadValue_15355 n) := fun st e s h =>
  lent_ok (ct_spec_ReadValue n) (noLoops rfl) (lt_spec_ReadValue_15355 n) (fun r h => by cases h) (fun r y h => by cases h; rfl) (fun hs v h => by
    unfold VH_spec_ReadValue_15355 at h
    split at h <;> cases h
    rfl) h
theorem lo_spec_ReadValue (n : Nat) : LTok (LT_spec_ReadValue n) (runs KP lib n) n K_spec_ReadValue.body := mkLT_ok (by
  intro x hx
  have hx : x ∈ ([(15355, [0, 2, 4, 5], [(.ret, [2, 3]), ((.exit 1), [2, 4]), ((.exit 0), [2, 4])], K_spec_ReadValue_L15355)] : List (Nat × List Nat × List (Ex × List Nat) × KCode)) := hx
  simp only [List.mem_cons, List.not_mem_nil, or_false] at hx
  rcases hx with rfl
  · exact ⟨LE_spec_ReadValue_15355 n, fun st => rfl, le_spec_ReadValue_15355 n⟩)
theorem th_spec_ReadValue : ∀ (n : Nat) (x0 : ByteArray) (r : Int × Int × ByteArray × Bool), F_spec_ReadValue n x0 = some r → runs KP lib n 17 (A_spec_ReadValue x0) (U_spec_ReadValue x0) = some (O_spec_ReadValue r)
  | 0, x0, r, h => by cases h
  | n + 1, x0, r, h => fun_step (kf := K_spec_ReadValue) rfl (ct_spec_ReadValue n) (lo_spec_ReadValue n) (ft_spec_ReadValue n x0) h
def FH_spec_ReadValue (n : Nat) : Cont → Option (Int × Int × ByteArray × Bool)
  | ([[[.s x0]]], []) => F_spec_ReadValue n x0
  | _ => none
def E_spec_ReadValue (n : Nat) (d : List AV → List Go.Eng.Frame → Tr Res) : List AV → List Go.Eng.Frame → Tr Res := cent (A_spec_ReadValue (⟨#[]⟩)) (U_spec_ReadValue (⟨#[]⟩)) (FH_spec_ReadValue n) O_spec_ReadValue d
theorem eo_spec_ReadValue (n : Nat) {d : List AV → List Go.Eng.Frame → Tr Res} (hd : ∀ ar up r, (d ar up).run = some r → runs KP lib n 17 ar up = some r) : ∀ ar up r, (E_spec_ReadValue n d ar up).run = some r → runs KP lib n 17 ar up = some r :=
  cent_ok (fun hs r h => by
    unfold FH_spec_ReadValue at h
    split at h
    · exact ⟨A_spec_ReadValue _, U_spec_ReadValue _, rfl, rfl, th_spec_ReadValue n _ r h⟩
    · cases h) hd
/-! ### strings.CutPrefix -/
def A_strings_CutPrefix (x0 : ByteArray) (x1 : ByteArray) : List AV := [(.c (.p (.s x0))), (.c (.p (.s x1)))]
def U_strings_CutPrefix (x0 : ByteArray) (x1 : ByteArray) : List Go.Eng.Frame := []
def O_strings_CutPrefix (r : (ByteArray × Bool)) : Res := ⟨(.tup [(false, [(.p (.s r.1))]), (false, [(.p (.b r.2))])]), [], []⟩
def F_strings_CutPrefix : Nat → ByteArray → ByteArray → Option ((ByteArray × Bool))
  | 0, _, _ => none
  | n + 1, x0, x1 => L_strings_CutPrefix x0 x1
theorem th_strings_CutPrefix : ∀ (n : Nat) (x0 : ByteArray) (x1 : ByteArray) (r : (ByteArray × Bool)), F_strings_CutPrefix n x0 x1 = some r → runs KP lib n 34 (A_strings_CutPrefix x0 x1) (U_strings_CutPrefix x0 x1) = some (O_strings_CutPrefix r)
  | 0, x0, x1, r, h => by cases h
  | n + 1, x0, x1, r, h => by
    have h : L_strings_CutPrefix x0 x1 = some r := h
    exact lib_step rfl (congrArg (Option.map fun r : (ByteArray × Bool) => ((.tup [(false, [(.p (.s r.1))]), (false, [(.p (.b r.2))])]) : AV)) h)
def FH_strings_CutPrefix (n : Nat) : Cont → Option ((ByteArray × Bool))
  | ([[[.s x0]], [[.s x1]]], []) => F_strings_CutPrefix n x0 x1
  | _ => none
def E_strings_CutPrefix (n : Nat) (d : List AV → List Go.Eng.Frame → Tr Res) : List AV → List Go.Eng.Frame → Tr Res := cent (A_strings_CutPrefix (⟨#[]⟩) (⟨#[]⟩)) (U_strings_CutPrefix (⟨#[]⟩) (⟨#[]⟩)) (FH_strings_CutPrefix n) O_strings_CutPrefix d
theorem eo_strings_CutPrefix (n : Nat) {d : List AV → List Go.Eng.Frame → Tr Res} (hd : ∀ ar up r, (d ar up).run = some r → runs KP lib n 34 ar up = some r) : ∀ ar up r, (E_strings_CutPrefix n d ar up).run = some r → runs KP lib n 34 ar up = some r :=
  cent_ok (fun hs r h => by
    unfold FH_strings_CutPrefix at h
    split at h
    · exact ⟨A_strings_CutPrefix _ _, U_strings_CutPrefix _ _, rfl, rfl, th_strings_CutPrefix n _ _ r h⟩
    · cases h) hd
/-! ### impl.isText -/
def A_impl_isText (x0 : ByteArray) (x1 : Int) : List AV := [(.c (.p (.s x0))), (.c (.p (.i .i64 x1)))]
def U_impl_isText (x0 : ByteArray) (x1 : Int) : List Go.Eng.Frame := []
def O_impl_isText (r : Bool) : Res := ⟨(.c (.p (.b r))), [], []⟩
abbrev CT_impl_isText (n : Nat) : CTab := mkCT []
def S_impl_isText_13 (v : ByteArray × Int × Int × Int) : St := ⟨[(0, (.c (.p (.s v.1)))), (1, (.c (.p (.i .i64 v.2.1)))), (7, (.c (.p (.i .i64 v.2.2.1)))), (8, (.c (.p (.i .i64 v.2.2.2))))], [], []⟩
def B_impl_isText_13 (n : Nat) (v : ByteArray × Int × Int × Int) : Tr ((ByteArray × Int × Int × Int) ⊕ ((Bool) ⊕ (ByteArray × Int))) := (.ask ((decide (v.2.2.2 < v.2.2.1))) (.ask (decide (0 ≤ v.2.2.2)) (.opt (v.1.toList[(v.2.2.2).toNat]?) fun c43 => (.ask ((decide ((c43.toNat : Int) < (32 : Int)))) (.done (.inr (.inl (false)))) (.ask (decide (0 ≤ v.2.2.2)) (.opt (v.1.toList[(v.2.2.2).toNat]?) fun c44 => (.ask ((decide ((c44.toNat : Int) > (126 : Int)))) (.done (.inr (.inl (false)))) (.done (.inl (v.1, v.2.1, v.2.2.1, (IntKind.i64.wrap (v.2.2.2 + (1 : Int)))))))) .fail))) .fail) (.done (.inr (.inr ((v.1, v.2.1))))))
def D_impl_isText_13 : ((Bool) ⊕ (ByteArray × Int)) → Ex × St := fun | .inl r => (.ret, ⟨[(4, (.c (.p (.b r))))], [], []⟩) | .inr r => (fun r => ((.exit 0), ⟨[(0, (.c (.p (.s r.1)))), (1, (.c (.p (.i .i64 r.2))))], [], []⟩)) r
def DT_impl_isText_13 : ((Bool) ⊕ (ByteArray × Int)) → Tr (Ex × St) := fun r => .alt r (fun r => .done (.ret, ⟨[(4, (.c (.p (.b r))))], [], []⟩)) (fun r => .done ((.exit 0), ⟨[(0, (.c (.p (.s r.1)))), (1, (.c (.p (.i .i64 r.2))))], [], []⟩))
def VH_impl_isText_13 : Cont3 → Option (ByteArray × Int × Int × Int)
  | ([[[.s w0]], [[.i w1]], [[.i w2]], [[.i w3]]], [], []) => some (w0, w1, w2, w3)
  | _ => none
abbrev LE_impl_isText_13 (n : Nat) : St → Tr (Ex × St) := lent (S_impl_isText_13 (⟨#[]⟩, 0, 0, 0)) VH_impl_isText_13 (B_impl_isText_13 n) DT_impl_isText_13 n
abbrev LT_impl_isText (n : Nat) : LTab := mkLT [(13, LE_impl_isText_13 n)]
def T_impl_isText (n : Nat) (x0 : ByteArray) (x1 : Int) : Tr (Bool) := (.opt (loopF (B_impl_isText_13 n) n (x0, x1, (x0.size : Int), (0 : Int))) fun r45 => (.alt r45 (fun r46 => (.done r46)) (fun r47 => (.done (decide ((r47.1.size : Int) ≤ r47.2))))))
def F_impl_isText : Nat → ByteArray → Int → Option (Bool)
  | 0, _, _ => none
  | n + 1, x0, x1 => (T_impl_isText n x0 x1).run
theorem ft_impl_isText (n : Nat) (x0 : ByteArray) (x1 : Int) : funT (CT_impl_isText n) (LT_impl_isText n) K_impl_isText (A_impl_isText x0 x1) (U_impl_isText x0 x1) = (T_impl_isText n x0 x1).bind fun r => .done (O_impl_isText r) := by kernel_rfl
theorem ct_impl_isText (n : Nat) : CTok (CT_impl_isText n) (runs KP lib n) := mkCT_nil
theorem lt_impl_isText_13 (n : Nat) (v : ByteArray × Int × Int × Int) : (evalCT (CT_impl_isText n) (mkLT []) K_impl_isText_L13 (S_impl_isText_13 v) []).bind (ltail [0, 1, 7, 8] [(.ret, [4]), ((.exit 0), [0, 1])]) = (B_impl_isText_13 n v).bind (lenc S_impl_isText_13 D_impl_isText_13) := by
  obtain ⟨w0, w1, w2, w3⟩ := v
  kernel_rfl
theorem le_impl_isText_13 (n : Nat) : LEok (runs KP lib n) n (13, [0, 1, 7, 8], [(.ret, [4]), ((.exit 0), [0, 1])], K_impl_isText_L13) (LE_impl_isText_13 n) := fun st e s h =>
  lent_ok (ct_impl_isText n) (noLoops rfl) (lt_impl_isText_13 n) (fun r => by
    rcases r with r | r <;> (intro h; cases h)) (fun r y h => by
    rcases r with r | r <;> (cases h; rfl)) (fun hs v h => by
    unfold VH_impl_isText_13 at h
    split at h <;> cases h
    rfl) h
theorem lo_impl_isText (n : Nat) : LTok (LT_impl_isText n) (runs KP lib n) n K_impl_isText.body := mkLT_ok (by
  intro x hx
  have hx : x ∈ ([(13, [0, 1, 7, 8], [(.ret, [4]), ((.exit 0), [0, 1])], K_impl_isText_L13)] : List (Nat × List Nat × List (Ex × List Nat) × KCode)) := hx
  simp only [List.mem_cons, List.not_mem_nil, or_false] at hx
  rcases hx with rfl
  · exact ⟨LE_impl_isText_13 n, fun st => rfl, le_impl_isText_13 n⟩)
theorem th_impl_isText : ∀ (n : Nat) (x0 : ByteArray) (x1 : Int) (r : Bool), F_impl_isText n x0 x1 = some r → runs KP lib n 42 (A_impl_isText x0 x1) (U_impl_isText x0 x1) = some (O_impl_isText r)
  | 0, x0, x1, r, h => by cases h
  | n + 1, x0, x1, r, h => fun_step (kf := K_impl_isText) rfl (ct_impl_isText n) (lo_impl_isText n) (ft_impl_isText n x0 x1) h
def FH_impl_isText (n : Nat) : Cont → Option (Bool)
  | ([[[.s x0]], [[.i x1]]], []) => F_impl_isText n x0 x1
  | _ => none
def E_impl_isText (n : Nat) (d : List AV → List Go.Eng.Frame → Tr Res) : List AV → List Go.Eng.Frame → Tr Res := cent (A_impl_isText (⟨#[]⟩) (0)) (U_impl_isText (⟨#[]⟩) (0)) (FH_impl_isText n) O_impl_isText d
theorem eo_impl_isText (n : Nat) {d : List AV → List Go.Eng.Frame → Tr Res} (hd : ∀ ar up r, (d ar up).run = some r → runs KP lib n 42 ar up = some r) : ∀ ar up r, (E_impl_isText n d ar up).run = some r → runs KP lib n 42 ar up = some r :=
  cent_ok (fun hs r h => by
    unfold FH_impl_isText at h
    split at h
    · exact ⟨A_impl_isText _ _, U_impl_isText _ _, rfl, rfl, th_impl_isText n _ _ r h⟩
    · cases h) hd
/-! ### impl.within -/
def A_impl_within (x0 : Int) (x1 : Int) (x2 : Int) : List AV := [(.c (.p (.i .i64 x0))), (.c (.p (.i .i64 x1))), (.c (.p (.i .i64 x2)))]
def U_impl_within (x0 : Int) (x1 : Int) (x2 : Int) : List Go.Eng.Frame := []
def O_impl_within (r : Bool) : Res := ⟨(.c (.p (.b r))), [], []⟩
abbrev CT_impl_within (n : Nat) : CTab := mkCT []
abbrev LT_impl_within (n : Nat) : LTab := mkLT []
def T_impl_within (n : Nat) (x0 : Int) (x1 : Int) (x2 : Int) : Tr (Bool) := (.ask ((decide (x0 ≥ x1))) (.done (decide (x0 ≤ x2))) (.done false))
def F_impl_within : Nat → Int → Int → Int → Option (Bool)
  | 0, _, _, _ => none
  | n + 1, x0, x1, x2 => (T_impl_within n x0 x1 x2).run
theorem ft_impl_within (n : Nat) (x0 : Int) (x1 : Int) (x2 : Int) : funT (CT_impl_within n) (LT_impl_within n) K_impl_within (A_impl_within x0 x1 x2) (U_impl_within x0 x1 x2) = (T_impl_within n x0 x1 x2).bind fun r => .done (O_impl_within r) := by kernel_rfl
theorem ct_impl_within (n : Nat) : CTok (CT_impl_within n) (runs KP lib n) := mkCT_nil
theorem th_impl_within : ∀ (n : Nat) (x0 : Int) (x1 : Int) (x2 : Int) (r : Bool), F_impl_within n x0 x1 x2 = some r → runs KP lib n 43 (A_impl_within x0 x1 x2) (U_impl_within x0 x1 x2) = some (O_impl_within r)
  | 0, x0, x1, x2, r, h => by cases h
  | n + 1, x0, x1, x2, r, h => fun_step (kf := K_impl_within) rfl (ct_impl_within n) (noLoops rfl) (ft_impl_within n x0 x1 x2) h
def FH_impl_within (n : Nat) : Cont → Option (Bool)
  | ([[[.i x0]], [[.i x1]], [[.i x2]]], []) => F_impl_within n x0 x1 x2
  | _ => none
def E_impl_within (n : Nat) (d : List AV → List Go.Eng.Frame → Tr Res) : List AV → List Go.Eng.Frame → Tr Res := cent (A_impl_within (0) (0) (0)) (U_impl_within (0) (0) (0)) (FH_impl_within n) O_impl_within d
theorem eo_impl_within (n : Nat) {d : List AV → List Go.Eng.Frame → Tr Res} (hd : ∀ ar up r, (d ar up).run = some r → runs KP lib n 43 ar up = some r) : ∀ ar up r, (E_impl_within n d ar up).run = some r → runs KP lib n 43 ar up = some r :=
  cent_ok (fun hs r h => by
    unfold FH_impl_within at h
    split at h
    · exact ⟨A_impl_within _ _ _, U_impl_within _ _ _, rfl, rfl, th_impl_within n _ _ _ r h⟩
    · cases h) hd
/-! ### impl.ValueOk -/
def A_impl_ValueOk (x0 : Int) (x1 : Int) (x2 : ByteArray) : List AV := [(.agg [(.p (.i .i64 x0)), (.p (.i .i64 x1)), (.p (.s x2))])]
def U_impl_ValueOk (x0 : Int) (x1 : Int) (x2 : ByteArray) : List Go.Eng.Frame := []
def O_impl_ValueOk (r : Bool) : Res := ⟨(.c (.p (.b r))), [], []⟩
abbrev CT_impl_ValueOk (n : Nat) : CTab := mkCT [(42, E_impl_isText n (noEnt)), (43, E_impl_within n (noEnt))]
abbrev LT_impl_ValueOk (n : Nat) : LTab := mkLT []
def T_impl_ValueOk (n : Nat) (x0 : Int) (x1 : Int) (x2 : ByteArray) : Tr (Bool) := (.ask ((x0 == (2 : Int))) (.ask ((x1 == (0 : Int))) (.opt (F_impl_isText n x2 (200 : Int)) fun r48 => (.done r48)) (.done false)) (.ask ((!(x2.toList == (⟨#[]⟩ : ByteArray).toList))) (.done false) (.ask ((x0 == (0 : Int))) (.done (x1 == (0 : Int))) (.ask ((x0 == (1 : Int))) (.opt (F_impl_within n x1 (-1000000000000000 : Int) (1000000000000000 : Int)) fun r49 => (.done r49)) (.ask ((x0 == (3 : Int))) (.opt (F_impl_within n x1 (0 : Int) (1 : Int)) fun r50 => (.done r50)) (.ask ((x0 == (4 : Int))) (.opt (F_impl_within n x1 (1 : Int) (5 : Int)) fun r51 => (.done r51)) (.done false)))))))
def F_impl_ValueOk : Nat → Int → Int → ByteArray → Option (Bool)
  | 0, _, _, _ => none
  | n + 1, x0, x1, x2 => (T_impl_ValueOk n x0 x1 x2).run
theorem ft_impl_ValueOk (n : Nat) (x0 : Int) (x1 : Int) (x2 : ByteArray) : funT (CT_impl_ValueOk n) (LT_impl_ValueOk n) K_impl_ValueOk (A_impl_ValueOk x0 x1 x2) (U_impl_ValueOk x0 x1 x2) = (T_impl_ValueOk n x0 x1 x2).bind fun r => .done (O_impl_ValueOk r) := by kernel_rfl
theorem ct_impl_ValueOk (n : Nat) : CTok (CT_impl_ValueOk n) (runs KP lib n) := mkCT_cons (eo_impl_isText n (noEnt_ok)) (mkCT_cons (eo_impl_within n (noEnt_ok)) (mkCT_nil))
theorem th_impl_ValueOk : ∀ (n : Nat) (x0 : Int) (x1 : Int) (x2 : ByteArray) (r : Bool), F_impl_ValueOk n x0 x1 x2 = some r → runs KP lib n 20 (A_impl_ValueOk x0 x1 x2) (U_impl_ValueOk x0 x1 x2) = some (O_impl_ValueOk r)
  | 0, x0, x1, x2, r, h => by cases h
  | n + 1, x0, x1, x2, r, h => fun_step (kf := K_impl_ValueOk) rfl (ct_impl_ValueOk n) (noLoops rfl) (ft_impl_ValueOk n x0 x1 x2) h
def FH_impl_ValueOk (n : Nat) : Cont → Option (Bool)
  | ([[[.i x0], [.i x1], [.s x2]]], []) => F_impl_ValueOk n x0 x1 x2
  | _ => none
def E_impl_ValueOk (n : Nat) (d : List AV → List Go.Eng.Frame → Tr Res) : List AV → List Go.Eng.Frame → Tr Res := cent (A_impl_ValueOk (0) (0) (⟨#[]⟩)) (U_impl_ValueOk (0) (0) (⟨#[]⟩)) (FH_impl_ValueOk n) O_impl_ValueOk d
theorem eo_impl_ValueOk (n : Nat) {d : List AV → List Go.Eng.Frame → Tr Res} (hd : ∀ ar up r, (d ar up).run = some r → runs KP lib n 20 ar up = some r) : ∀ ar up r, (E_impl_ValueOk n d ar up).run = some r → runs KP lib n 20 ar up = some r :=
  cent_ok (fun hs r h => by
    unfold FH_impl_ValueOk at h
    split at h
    · exact ⟨A_impl_ValueOk _ _ _, U_impl_ValueOk _ _ _, rfl, rfl, th_impl_ValueOk n _ _ _ r h⟩
    · cases h) hd
/-! ### strconv.FormatInt -/
def A_strconv_FormatInt (x0 : Int) (x1 : Int) : List AV := [(.c (.p (.i .i64 x0))), (.c (.p (.i .i64 x1)))]
def U_strconv_FormatInt (x0 : Int) (x1 : Int) : List Go.Eng.Frame := []
def O_strconv_FormatInt (r : (ByteArray)) : Res := ⟨(.c (.p (.s r))), [], []⟩
def F_strconv_FormatInt : Nat → Int → Int → Option ((ByteArray))
  | 0, _, _ => none
  | n + 1, x0, x1 => L_strconv_FormatInt x0 x1
theorem th_strconv_FormatInt : ∀ (n : Nat) (x0 : Int) (x1 : Int) (r : (ByteArray)), F_strconv_FormatInt n x0 x1 = some r → runs KP lib n 56 (A_strconv_FormatInt x0 x1) (U_strconv_FormatInt x0 x1) = some (O_strconv_FormatInt r)
  | 0, x0, x1, r, h => by cases h
  | n + 1, x0, x1, r, h => by
    have h : L_strconv_FormatInt x0 x1 = some r := h
    exact lib_step rfl (congrArg (Option.map fun r : (ByteArray) => ((.c (.p (.s r))) : AV)) h)
def FH_strconv_FormatInt (n : Nat) : Cont → Option ((ByteArray))
  | ([[[.i x0]], [[.i x1]]], []) => F_strconv_FormatInt n x0 x1
  | _ => none
def E_strconv_FormatInt (n : Nat) (d : List AV → List Go.Eng.Frame → Tr Res) : List AV → List Go.Eng.Frame → Tr Res := cent (A_strconv_FormatInt (0) (0)) (U_strconv_FormatInt (0) (0)) (FH_strconv_FormatInt n) O_strconv_FormatInt d
theorem eo_strconv_FormatInt (n : Nat) {d : List AV → List Go.Eng.Frame → Tr Res} (hd : ∀ ar up r, (d ar up).run = some r → runs KP lib n 56 ar up = some r) : ∀ ar up r, (E_strconv_FormatInt n d ar up).run = some r → runs KP lib n 56 ar up = some r :=
  cent_ok (fun hs r h => by
    unfold FH_strconv_FormatInt at h
    split at h
    · exact ⟨A_strconv_FormatInt _ _, U_strconv_FormatInt _ _, rfl, rfl, th_strconv_FormatInt n _ _ r h⟩
    · cases h) hd
/-! ### impl.decimal -/
def A_impl_decimal (x0 : Int) : List AV := [(.c (.p (.i .i64 x0)))]
def U_impl_decimal (x0 : Int) : List Go.Eng.Frame := []
def O_impl_decimal (r : ByteArray) : Res := ⟨(.c (.p (.s r))), [], []⟩
abbrev CT_impl_decimal (n : Nat) : CTab := mkCT [(56, E_strconv_FormatInt n (noEnt))]
abbrev LT_impl_decimal (n : Nat) : LTab := mkLT []
def T_impl_decimal (n : Nat) (x0 : Int) : Tr (ByteArray) := (.opt (F_strconv_FormatInt n x0 (10 : Int)) fun r53 => (.done r53))
def F_impl_decimal : Nat → Int → Option (ByteArray)
  | 0, _ => none
  | n + 1, x0 => (T_impl_decimal n x0).run
theorem ft_impl_decimal (n : Nat) (x0 : Int) : funT (CT_impl_decimal n) (LT_impl_decimal n) K_impl_decimal (A_impl_decimal x0) (U_impl_decimal x0) = (T_impl_decimal n x0).bind fun r => .done (O_impl_decimal r) := by kernel_rfl
theorem ct_impl_decimal (n : Nat) : CTok (CT_impl_decimal n) (runs KP lib n) := mkCT_cons (eo_strconv_FormatInt n (noEnt_ok)) (mkCT_nil)
theorem th_impl_decimal : ∀ (n : Nat) (x0 : Int) (r : ByteArray), F_impl_decimal n x0 = some r → runs KP lib n 48 (A_impl_decimal x0) (U_impl_decimal x0) = some (O_impl_decimal r)
  | 0, x0, r, h => by cases h
  | n + 1, x0, r, h => fun_step (kf := K_impl_decimal) rfl (ct_impl_decimal n) (noLoops rfl) (ft_impl_decimal n x0) h
def FH_impl_decimal (n : Nat) : Cont → Option (ByteArray)
  | ([[[.i x0]]], []) => F_impl_decimal n x0
  | _ => none
def E_impl_decimal (n : Nat) (d : List AV → List Go.Eng.Frame → Tr Res) : List AV → List Go.Eng.Frame → Tr Res := cent (A_impl_decimal (0)) (U_impl_decimal (0)) (FH_impl_decimal n) O_impl_decimal d
theorem eo_impl_decimal (n : Nat) {d : List AV → List Go.Eng.Frame → Tr Res} (hd : ∀ ar up r, (d ar up).run = some r → runs KP lib n 48 ar up = some r) : ∀ ar up r, (E_impl_decimal n d ar up).run = some r → runs KP lib n 48 ar up = some r :=
  cent_ok (fun hs r h => by
    unfold FH_impl_decimal at h
    split at h
    · exact ⟨A_impl_decimal _, U_impl_decimal _, rfl, rfl, th_impl_decimal n _ r h⟩
    · cases h) hd
/-! ### impl.errorText -/
def A_impl_errorText (x0 : Int) : List AV := [(.c (.p (.i .i64 x0)))]
def U_impl_errorText (x0 : Int) : List Go.Eng.Frame := []
def O_impl_errorText (r : ByteArray) : Res := ⟨(.c (.p (.s r))), [], []⟩
abbrev CT_impl_errorText (n : Nat) : CTab := mkCT []
abbrev LT_impl_errorText (n : Nat) : LTab := mkLT []
def T_impl_errorText (n : Nat) (x0 : Int) : Tr (ByteArray) := (.ask (decide (6 = ([[(.s (⟨#[]⟩ : ByteArray))], [(.s (⟨#[35, 68, 73, 86, 33]⟩ : ByteArray))], [(.s (⟨#[35, 84, 89, 80, 69, 33]⟩ : ByteArray))], [(.s (⟨#[35, 82, 69, 70, 33]⟩ : ByteArray))], [(.s (⟨#[35, 79, 86, 69, 82, 33]⟩ : ByteArray))], [(.s (⟨#[35, 67, 89, 67, 76, 69, 33]⟩ : ByteArray))]] : List (List PV)).length ∧ 0 ≤ x0 ∧ x0 < ((6 : Nat) : Int))) (.opt (([[(.s (⟨#[]⟩ : ByteArray))], [(.s (⟨#[35, 68, 73, 86, 33]⟩ : ByteArray))], [(.s (⟨#[35, 84, 89, 80, 69, 33]⟩ : ByteArray))], [(.s (⟨#[35, 82, 69, 70, 33]⟩ : ByteArray))], [(.s (⟨#[35, 79, 86, 69, 82, 33]⟩ : ByteArray))], [(.s (⟨#[35, 67, 89, 67, 76, 69, 33]⟩ : ByteArray))]] : List (List PV))[(x0).toNat]?) fun e57 => (.opt (cellS e57 0) fun y58 => (.done y58))) .fail)
def F_impl_errorText : Nat → Int → Option (ByteArray)
  | 0, _ => none
  | n + 1, x0 => (T_impl_errorText n x0).run
theorem ft_impl_errorText (n : Nat) (x0 : Int) : funT (CT_impl_errorText n) (LT_impl_errorText n) K_impl_errorText (A_impl_errorText x0) (U_impl_errorText x0) = (T_impl_errorText n x0).bind fun r => .done (O_impl_errorText r) := by kernel_rfl
theorem ct_impl_errorText (n : Nat) : CTok (CT_impl_errorText n) (runs KP lib n) := mkCT_nil
theorem th_impl_errorText : ∀ (n : Nat) (x0 : Int) (r : ByteArray), F_impl_errorText n x0 = some r → runs KP lib n 37 (A_impl_errorText x0) (U_impl_errorText x0) = some (O_impl_errorText r)
  | 0, x0, r, h => by cases h
  | n + 1, x0, r, h => fun_step (kf := K_impl_errorText) rfl (ct_impl_errorText n) (noLoops rfl) (ft_impl_errorText n x0) h
def FH_impl_errorText (n : Nat) : Cont → Option (ByteArray)
  | ([[[.i x0]]], []) => F_impl_errorText n x0
  | _ => none
def E_impl_errorText (n : Nat) (d : List AV → List Go.Eng.Frame → Tr Res) : List AV → List Go.Eng.Frame → Tr Res := cent (A_impl_errorText (0)) (U_impl_errorText (0)) (FH_impl_errorText n) O_impl_errorText d
theorem eo_impl_errorText (n : Nat) {d : List AV → List Go.Eng.Frame → Tr Res} (hd : ∀ ar up r, (d ar up).run = some r → runs KP lib n 37 ar up = some r) : ∀ ar up r, (E_impl_errorText n d ar up).run = some r → runs KP lib n 37 ar up = some r :=
  cent_ok (fun hs r h => by
    unfold FH_impl_errorText at h
    split at h
    · exact ⟨A_impl_errorText _, U_impl_errorText _, rfl, rfl, th_impl_errorText n _ r h⟩
    · cases h) hd
/-! ### impl.valueText -/
def A_impl_valueText (x0 : Int) (x1 : Int) (x2 : ByteArray) : List AV := [(.agg [(.p (.i .i64 x0)), (.p (.i .i64 x1)), (.p (.s x2))])]
def U_impl_valueText (x0 : Int) (x1 : Int) (x2 : ByteArray) : List Go.Eng.Frame := []
def O_impl_valueText (r : ByteArray) : Res := ⟨(.c (.p (.s r))), [], []⟩
abbrev CT_impl_valueText (n : Nat) : CTab := mkCT [(48, E_impl_decimal n (noEnt)), (37, E_impl_errorText n (noEnt))]
abbrev LT_impl_valueText (n : Nat) : LTab := mkLT []
def T_impl_valueText (n : Nat) (x0 : Int) (x1 : Int) (x2 : ByteArray) : Tr (ByteArray) := (.ask ((x0 == (1 : Int))) (.opt (F_impl_decimal n x1) fun r54 => (.done r54)) (.ask ((x0 == (2 : Int))) (.ask (decide ((⟨#[39]⟩ : ByteArray).size + x2.size ≤ 9223372036854775807)) (.done ((⟨#[39]⟩ : ByteArray) ++ x2)) .fail) (.ask ((x0 == (3 : Int))) (.ask (decide (2 = ([[(.s (⟨#[70, 65, 76, 83, 69]⟩ : ByteArray))], [(.s (⟨#[84, 82, 85, 69]⟩ : ByteArray))]] : List (List PV)).length ∧ 0 ≤ x1 ∧ x1 < ((2 : Nat) : Int))) (.opt (([[(.s (⟨#[70, 65, 76, 83, 69]⟩ : ByteArray))], [(.s (⟨#[84, 82, 85, 69]⟩ : ByteArray))]] : List (List PV))[(x1).toNat]?) fun e55 => (.opt (cellS e55 0) fun y56 => (.done y56))) .fail) (.ask ((x0 == (4 : Int))) (.opt (F_impl_errorText n x1) fun r59 => (.done r59)) (.done (⟨#[]⟩ : ByteArray))))))
def F_impl_valueText : Nat → Int → Int → ByteArray → Option (ByteArray)
  | 0, _, _, _ => none
  | n + 1, x0, x1, x2 => (T_impl_valueText n x0 x1 x2).run
theorem ft_impl_valueText (n : Nat) (x0 : Int) (x1 : Int) (x2 : ByteArray) : funT (CT_impl_valueText n) (LT_impl_valueText n) K_impl_valueText (A_impl_valueText x0 x1 x2) (U_impl_valueText x0 x1 x2) = (T_impl_valueText n x0 x1 x2).bind fun r => .done (O_impl_valueText r) := by kernel_rfl
theorem ct_impl_valueText (n : Nat) : CTok (CT_impl_valueText n) (runs KP lib n) := mkCT_cons (eo_impl_decimal n (noEnt_ok)) (mkCT_cons (eo_impl_errorText n (noEnt_ok)) (mkCT_nil))
theorem th_impl_valueText : ∀ (n : Nat) (x0 : Int) (x1 : Int) (x2 : ByteArray) (r : ByteArray), F_impl_valueText n x0 x1 x2 = some r → runs KP lib n 32 (A_impl_valueText x0 x1 x2) (U_impl_valueText x0 x1 x2) = some (O_impl_valueText r)
  | 0, x0, x1, x2, r, h => by cases h
  | n + 1, x0, x1, x2, r, h => fun_step (kf := K_impl_valueText) rfl (ct_impl_valueText n) (noLoops rfl) (ft_impl_valueText n x0 x1 x2) h
def FH_impl_valueText (n : Nat) : Cont → Option (ByteArray)
  | ([[[.i x0], [.i x1], [.s x2]]], []) => F_impl_valueText n x0 x1 x2
  | _ => none
def E_impl_valueText (n : Nat) (d : List AV → List Go.Eng.Frame → Tr Res) : List AV → List Go.Eng.Frame → Tr Res := cent (A_impl_valueText (0) (0) (⟨#[]⟩)) (U_impl_valueText (0) (0) (⟨#[]⟩)) (FH_impl_valueText n) O_impl_valueText d
theorem eo_impl_valueText (n : Nat) {d : List AV → List Go.Eng.Frame → Tr Res} (hd : ∀ ar up r, (d ar up).run = some r → runs KP lib n 32 ar up = some r) : ∀ ar up r, (E_impl_valueText n d ar up).run = some r → runs KP lib n 32 ar up = some r :=
  cent_ok (fun hs r h => by
    unfold FH_impl_valueText at h
    split at h
    · exact ⟨A_impl_valueText _ _ _, U_impl_valueText _ _ _, rfl, rfl, th_impl_valueText n _ _ _ r h⟩
    · cases h) hd
/-! ### impl.truth -/
def A_impl_truth (x0 : Bool) : List AV := [(.c (.p (.b x0)))]
def U_impl_truth (x0 : Bool) : List Go.Eng.Frame := []
def O_impl_truth (r : Int × Int × ByteArray) : Res := ⟨(.agg [(.p (.i .i64 r.1)), (.p (.i .i64 r.2.1)), (.p (.s r.2.2))]), [], []⟩
abbrev CT_impl_truth (n : Nat) : CTab := mkCT []
abbrev LT_impl_truth (n : Nat) : LTab := mkLT []
def T_impl_truth (n : Nat) (x0 : Bool) : Tr (Int × Int × ByteArray) := (.ask (x0) (.done ((3 : Int), (1 : Int), (⟨#[]⟩ : ByteArray))) (.done ((3 : Int), (0 : Int), (⟨#[]⟩ : ByteArray))))
def F_impl_truth : Nat → Bool → Option (Int × Int × ByteArray)
  | 0, _ => none
  | n + 1, x0 => (T_impl_truth n x0).run
theorem ft_impl_truth (n : Nat) (x0 : Bool) : funT (CT_impl_truth n) (LT_impl_truth n) K_impl_truth (A_impl_truth x0) (U_impl_truth x0) = (T_impl_truth n x0).bind fun r => .done (O_impl_truth r) := by kernel_rfl
theorem ct_impl_truth (n : Nat) : CTok (CT_impl_truth n) (runs KP lib n) := mkCT_nil
theorem th_impl_truth : ∀ (n : Nat) (x0 : Bool) (r : Int × Int × ByteArray), F_impl_truth n x0 = some r → runs KP lib n 35 (A_impl_truth x0) (U_impl_truth x0) = some (O_impl_truth r)
  | 0, x0, r, h => by cases h
  | n + 1, x0, r, h => fun_step (kf := K_impl_truth) rfl (ct_impl_truth n) (noLoops rfl) (ft_impl_truth n x0) h
def FH_impl_truth (n : Nat) : Cont → Option (Int × Int × ByteArray)
  | ([[[.b x0]]], []) => F_impl_truth n x0
  | _ => none
def E_impl_truth (n : Nat) (d : List AV → List Go.Eng.Frame → Tr Res) : List AV → List Go.Eng.Frame → Tr Res := cent (A_impl_truth (false)) (U_impl_truth (false)) (FH_impl_truth n) O_impl_truth d
theorem eo_impl_truth (n : Nat) {d : List AV → List Go.Eng.Frame → Tr Res} (hd : ∀ ar up r, (d ar up).run = some r → runs KP lib n 35 ar up = some r) : ∀ ar up r, (E_impl_truth n d ar up).run = some r → runs KP lib n 35 ar up = some r :=
  cent_ok (fun hs r h => by
    unfold FH_impl_truth at h
    split at h
    · exact ⟨A_impl_truth _, U_impl_truth _, rfl, rfl, th_impl_truth n _ r h⟩
    · cases h) hd
/-! ### internal/stringslite.HasPrefix -/
def A_internal_stringslite_HasPrefix (x0 : ByteArray) (x1 : ByteArray) : List AV := [(.c (.p (.s x0))), (.c (.p (.s x1)))]
def U_internal_stringslite_HasPrefix (x0 : ByteArray) (x1 : ByteArray) : List Go.Eng.Frame := []
def O_internal_stringslite_HasPrefix (r : Bool) : Res := ⟨(.c (.p (.b r))), [], []⟩
abbrev CT_internal_stringslite_HasPrefix (n : Nat) : CTab := mkCT []
abbrev LT_internal_stringslite_HasPrefix (n : Nat) : LTab := mkLT []
def T_internal_stringslite_HasPrefix (n : Nat) (x0 : ByteArray) (x1 : ByteArray) : Tr (Bool) := (.ask ((decide ((x0.size : Int) ≥ (x1.size : Int)))) (.ask (decide (0 ≤ (0 : Int) ∧ (0 : Int) ≤ (x1.size : Int) ∧ (x1.size : Int) ≤ x0.size)) (.done ((x0.extract ((0 : Int)).toNat ((x1.size : Int)).toNat).toList == x1.toList)) .fail) (.done false))
def F_internal_stringslite_HasPrefix : Nat → ByteArray → ByteArray → Option (Bool)
  | 0, _, _ => none
  | n + 1, x0, x1 => (T_internal_stringslite_HasPrefix n x0 x1).run
theorem ft_internal_stringslite_HasPrefix (n : Nat) (x0 : ByteArray) (x1 : ByteArray) : funT (CT_internal_stringslite_HasPrefix n) (LT_internal_stringslite_HasPrefix n) K_internal_stringslite_HasPrefix (A_internal_stringslite_HasPrefix x0 x1) (U_internal_stringslite_HasPrefix x0 x1) = (T_internal_stringslite_HasPrefix n x0 x1).bind fun r => .done (O_internal_stringslite_HasPrefix r) := by kernel_rfl
theorem ct_internal_stringslite_HasPrefix (n : Nat) : CTok (CT_internal_stringslite_HasPrefix n) (runs KP lib n) := mkCT_nil
theorem th_internal_stringslite_HasPrefix : ∀ (n : Nat) (x0 : ByteArray) (x1 : ByteArray) (r : Bool), F_internal_stringslite_HasPrefix n x0 x1 = some r → runs KP lib n 50 (A_internal_stringslite_HasPrefix x0 x1) (U_internal_stringslite_HasPrefix x0 x1) = some (O_internal_stringslite_HasPrefix r)
  | 0, x0, x1, r, h => by cases h
  | n + 1, x0, x1, r, h => fun_step (kf := K_internal_stringslite_HasPrefix) rfl (ct_internal_stringslite_HasPrefix n) (noLoops rfl) (ft_internal_stringslite_HasPrefix n x0 x1) h
def FH_internal_stringslite_HasPrefix (n : Nat) : Cont → Option (Bool)
  | ([[[.s x0]], [[.s x1]]], []) => F_internal_stringslite_HasPrefix n x0 x1
  | _ => none
def E_internal_stringslite_HasPrefix (n : Nat) (d : List AV → List Go.Eng.Frame → Tr Res) : List AV → List Go.Eng.Frame → Tr Res := cent (A_internal_stringslite_HasPrefix (⟨#[]⟩) (⟨#[]⟩)) (U_internal_stringslite_HasPrefix (⟨#[]⟩) (⟨#[]⟩)) (FH_internal_stringslite_HasPrefix n) O_internal_stringslite_HasPrefix d
theorem eo_internal_stringslite_HasPrefix (n : Nat) {d : List AV → List Go.Eng.Frame → Tr Res} (hd : ∀ ar up r, (d ar up).run = some r → runs KP lib n 50 ar up = some r) : ∀ ar up r, (E_internal_stringslite_HasPrefix n d ar up).run = some r → runs KP lib n 50 ar up = some r :=
  cent_ok (fun hs r h => by
    unfold FH_internal_stringslite_HasPrefix at h
    split at h
    · exact ⟨A_internal_stringslite_HasPrefix _ _, U_internal_stringslite_HasPrefix _ _, rfl, rfl, th_internal_stringslite_HasPrefix n _ _ r h⟩
    · cases h) hd
/-! ### strings.HasPrefix -/
def A_strings_HasPrefix (x0 : ByteArray) (x1 : ByteArray) : List AV := [(.c (.p (.s x0))), (.c (.p (.s x1)))]
def U_strings_HasPrefix (x0 : ByteArray) (x1 : ByteArray) : List Go.Eng.Frame := []
def O_strings_HasPrefix (r : Bool) : Res := ⟨(.c (.p (.b r))), [], []⟩
abbrev CT_strings_HasPrefix (n : Nat) : CTab := mkCT [(50, E_internal_stringslite_HasPrefix n (noEnt))]
abbrev LT_strings_HasPrefix (n : Nat) : LTab := mkLT []
def T_strings_HasPrefix (n : Nat) (x0 : ByteArray) (x1 : ByteArray) : Tr (Bool) := (.opt (F_internal_stringslite_HasPrefix n x0 x1) fun r67 => (.done r67))
def F_strings_HasPrefix : Nat → ByteArray → ByteArray → Option (Bool)
  | 0, _, _ => none
  | n + 1, x0, x1 => (T_strings_HasPrefix n x0 x1).run
theorem ft_strings_HasPrefix (n : Nat) (x0 : ByteArray) (x1 : ByteArray) : funT (CT_strings_HasPrefix n) (LT_strings_HasPrefix n) K_strings_HasPrefix (A_strings_HasPrefix x0 x1) (U_strings_HasPrefix x0 x1) = (T_strings_HasPrefix n x0 x1).bind fun r => .done (O_strings_HasPrefix r) := by kernel_rfl
theorem ct_strings_HasPrefix (n : Nat) : CTok (CT_strings_HasPrefix n) (runs KP lib n) := mkCT_cons (eo_internal_stringslite_HasPrefix n (noEnt_ok)) (mkCT_nil)
theorem th_strings_HasPrefix : ∀ (n : Nat) (x0 : ByteArray) (x1 : ByteArray) (r : Bool), F_strings_HasPrefix n x0 x1 = some r → runs KP lib n 36 (A_strings_HasPrefix x0 x1) (U_strings_HasPrefix x0 x1) = some (O_strings_HasPrefix r)
  | 0, x0, x1, r, h => by cases h
  | n + 1, x0, x1, r, h => fun_step (kf := K_strings_HasPrefix) rfl (ct_strings_HasPrefix n) (noLoops rfl) (ft_strings_HasPrefix n x0 x1) h
def FH_strings_HasPrefix (n : Nat) : Cont → Option (Bool)
  | ([[[.s x0]], [[.s x1]]], []) => F_strings_HasPrefix n x0 x1
  | _ => none
def E_strings_HasPrefix (n : Nat) (d : List AV → List Go.Eng.Frame → Tr Res) : List AV → List Go.Eng.Frame → Tr Res := cent (A_strings_HasPrefix (⟨#[]⟩) (⟨#[]⟩)) (U_strings_HasPrefix (⟨#[]⟩) (⟨#[]⟩)) (FH_strings_HasPrefix n) O_strings_HasPrefix d
theorem eo_strings_HasPrefix (n : Nat) {d : List AV → List Go.Eng.Frame → Tr Res} (hd : ∀ ar up r, (d ar up).run = some r → runs KP lib n 36 ar up = some r) : ∀ ar up r, (E_strings_HasPrefix n d ar up).run = some r → runs KP lib n 36 ar up = some r :=
  cent_ok (fun hs r h => by
    unfold FH_strings_HasPrefix at h
    split at h
    · exact ⟨A_strings_HasPrefix _ _, U_strings_HasPrefix _ _, rfl, rfl, th_strings_HasPrefix n _ _ r h⟩
    · cases h) hd
/-! ### impl.fault -/
def A_impl_fault (x0 : Int) : List AV := [(.c (.p (.i .i64 x0)))]
def U_impl_fault (x0 : Int) : List Go.Eng.Frame := []
def O_impl_fault (r : Int × Int × ByteArray) : Res := ⟨(.agg [(.p (.i .i64 r.1)), (.p (.i .i64 r.2.1)), (.p (.s r.2.2))]), [], []⟩
abbrev CT_impl_fault (n : Nat) : CTab := mkCT []
abbrev LT_impl_fault (n : Nat) : LTab := mkLT []
def T_impl_fault (n : Nat) (x0 : Int) : Tr (Int × Int × ByteArray) := (.done ((4 : Int), x0, (⟨#[]⟩ : ByteArray)))
def F_impl_fault : Nat → Int → Option (Int × Int × ByteArray)
  | 0, _ => none
  | n + 1, x0 => (T_impl_fault n x0).run
theorem ft_impl_fault (n : Nat) (x0 : Int) : funT (CT_impl_fault n) (LT_impl_fault n) K_impl_fault (A_impl_fault x0) (U_impl_fault x0) = (T_impl_fault n x0).bind fun r => .done (O_impl_fault r) := by kernel_rfl
theorem ct_impl_fault (n : Nat) : CTok (CT_impl_fault n) (runs KP lib n) := mkCT_nil
theorem th_impl_fault : ∀ (n : Nat) (x0 : Int) (r : Int × Int × ByteArray), F_impl_fault n x0 = some r → runs KP lib n 27 (A_impl_fault x0) (U_impl_fault x0) = some (O_impl_fault r)
  | 0, x0, r, h => by cases h
  | n + 1, x0, r, h => fun_step (kf := K_impl_fault) rfl (ct_impl_fault n) (noLoops rfl) (ft_impl_fault n x0) h
def FH_impl_fault (n : Nat) : Cont → Option (Int × Int × ByteArray)
  | ([[[.i x0]]], []) => F_impl_fault n x0
  | _ => none
def E_impl_fault (n : Nat) (d : List AV → List Go.Eng.Frame → Tr Res) : List AV → List Go.Eng.Frame → Tr Res := cent (A_impl_fault (0)) (U_impl_fault (0)) (FH_impl_fault n) O_impl_fault d
theorem eo_impl_fault (n : Nat) {d : List AV → List Go.Eng.Frame → Tr Res} (hd : ∀ ar up r, (d ar up).run = some r → runs KP lib n 27 ar up = some r) : ∀ ar up r, (E_impl_fault n d ar up).run = some r → runs KP lib n 27 ar up = some r :=
  cent_ok (fun hs r h => by
    unfold FH_impl_fault at h
    split at h
    · exact ⟨A_impl_fault _, U_impl_fault _, rfl, rfl, th_impl_fault n _ r h⟩
    · cases h) hd
/-! ### strconv.ParseInt -/
def A_strconv_ParseInt (x0 : ByteArray) (x1 : Int) (x2 : Int) : List AV := [(.c (.p (.s x0))), (.c (.p (.i .i64 x1))), (.c (.p (.i .i64 x2)))]
def U_strconv_ParseInt (x0 : ByteArray) (x1 : Int) (x2 : Int) : List Go.Eng.Frame := []
def O_strconv_ParseInt : (Int) ⊕ (Int) → Res := fun | .inl r => ⟨(.tup [(false, [(.p (.i .i64 r))]), (false, [(.p .nif)])]), [], []⟩ | .inr r => ⟨(.tup [(false, [(.p (.i .i64 r))]), (false, [(.p .ifc)])]), [], []⟩
def F_strconv_ParseInt : Nat → ByteArray → Int → Int → Option ((Int) ⊕ (Int))
  | 0, _, _, _ => none
  | n + 1, x0, x1, x2 => L_strconv_ParseInt x0 x1 x2
theorem th_strconv_ParseInt : ∀ (n : Nat) (x0 : ByteArray) (x1 : Int) (x2 : Int) (r : (Int) ⊕ (Int)), F_strconv_ParseInt n x0 x1 x2 = some r → runs KP lib n 38 (A_strconv_ParseInt x0 x1 x2) (U_strconv_ParseInt x0 x1 x2) = some (O_strconv_ParseInt r)
  | 0, x0, x1, x2, r, h => by cases h
  | n + 1, x0, x1, x2, r, h => by
    have h : L_strconv_ParseInt x0 x1 x2 = some r := h
    rcases r with r | r
    · exact lib_step rfl (congrArg (Option.map Q_strconv_ParseInt_av) h)
    · exact lib_step rfl (congrArg (Option.map Q_strconv_ParseInt_av) h)
def FH_strconv_ParseInt (n : Nat) : Cont → Option ((Int) ⊕ (Int))
  | ([[[.s x0]], [[.i x1]], [[.i x2]]], []) => F_strconv_ParseInt n x0 x1 x2
  | _ => none
def E_strconv_ParseInt (n : Nat) (d : List AV → List Go.Eng.Frame → Tr Res) : List AV → List Go.Eng.Frame → Tr Res := cent2 (A_strconv_ParseInt (⟨#[]⟩) (0) (0)) (U_strconv_ParseInt (⟨#[]⟩) (0) (0)) (FH_strconv_ParseInt n) O_strconv_ParseInt d
theorem eo_strconv_ParseInt (n : Nat) {d : List AV → List Go.Eng.Frame → Tr Res} (hd : ∀ ar up r, (d ar up).run = some r → runs KP lib n 38 ar up = some r) : ∀ ar up r, (E_strconv_ParseInt n d ar up).run = some r → runs KP lib n 38 ar up = some r :=
  cent2_ok (fun hs r h => by
    unfold FH_strconv_ParseInt at h
    split at h
    · exact ⟨A_strconv_ParseInt _ _ _, U_strconv_ParseInt _ _ _, rfl, rfl, th_strconv_ParseInt n _ _ _ r h⟩
    · cases h) hd
/-! ### impl.number -/
def A_impl_number (x0 : Int) : List AV := [(.c (.p (.i .i64 x0)))]
def U_impl_number (x0 : Int) : List Go.Eng.Frame := []
def O_impl_number (r : Int × Int × ByteArray) : Res := ⟨(.agg [(.p (.i .i64 r.1)), (.p (.i .i64 r.2.1)), (.p (.s r.2.2))]), [], []⟩
abbrev CT_impl_number (n : Nat) : CTab := mkCT []
abbrev LT_impl_number (n : Nat) : LTab := mkLT []
def T_impl_number (n : Nat) (x0 : Int) : Tr (Int × Int × ByteArray) := (.done ((1 : Int), x0, (⟨#[]⟩ : ByteArray)))
def F_impl_number : Nat → Int → Option (Int × Int × ByteArray)
  | 0, _ => none
  | n + 1, x0 => (T_impl_number n x0).run
theorem ft_impl_number (n : Nat) (x0 : Int) : funT (CT_impl_number n) (LT_impl_number n) K_impl_number (A_impl_number x0) (U_impl_number x0) = (T_impl_number n x0).bind fun r => .done (O_impl_number r) := by kernel_rfl
theorem ct_impl_number (n : Nat) : CTok (CT_impl_number n) (runs KP lib n) := mkCT_nil
theorem th_impl_number : ∀ (n : Nat) (x0 : Int) (r : Int × Int × ByteArray), F_impl_number n x0 = some r → runs KP lib n 39 (A_impl_number x0) (U_impl_number x0) = some (O_impl_number r)
  | 0, x0, r, h => by cases h
  | n + 1, x0, r, h => fun_step (kf := K_impl_number) rfl (ct_impl_number n) (noLoops rfl) (ft_impl_number n x0) h
def FH_impl_number (n : Nat) : Cont → Option (Int × Int × ByteArray)
  | ([[[.i x0]]], []) => F_impl_number n x0
  | _ => none
def E_impl_number (n : Nat) (d : List AV → List Go.Eng.Frame → Tr Res) : List AV → List Go.Eng.Frame → Tr Res := cent (A_impl_number (0)) (U_impl_number (0)) (FH_impl_number n) O_impl_number d
theorem eo_impl_number (n : Nat) {d : List AV → List Go.Eng.Frame → Tr Res} (hd : ∀ ar up r, (d ar up).run = some r → runs KP lib n 39 ar up = some r) : ∀ ar up r, (E_impl_number n d ar up).run = some r → runs KP lib n 39 ar up = some r :=
  cent_ok (fun hs r h => by
    unfold FH_impl_number at h
    split at h
    · exact ⟨A_impl_number _, U_impl_number _, rfl, rfl, th_impl_number n _ r h⟩
    · cases h) hd
/-! ### impl.ReadValue -/
def A_impl_ReadValue (x0 : ByteArray) : List AV := [(.c (.p (.s x0)))]
def U_impl_ReadValue (x0 : ByteArray) : List Go.Eng.Frame := []
def O_impl_ReadValue (r : Int × Int × ByteArray × Bool) : Res := ⟨(.tup [(true, [(.p (.i .i64 r.1)), (.p (.i .i64 r.2.1)), (.p (.s r.2.2.1))]), (false, [(.p (.b r.2.2.2))])]), [], []⟩
abbrev CT_impl_ReadValue (n : Nat) : CTab := mkCT [(34, E_strings_CutPrefix n (noEnt)), (20, E_impl_ValueOk n (noEnt)), (32, E_impl_valueText n (noEnt)), (35, E_impl_truth n (noEnt)), (36, E_strings_HasPrefix n (noEnt)), (37, E_impl_errorText n (noEnt)), (27, E_impl_fault n (noEnt)), (38, E_strconv_ParseInt n (noEnt)), (39, E_impl_number n (noEnt))]
def S_impl_ReadValue_3837 (v : ByteArray × Int × Int × Int × ByteArray × Int × Int × ByteArray) : St := ⟨[(0, (.c (.p (.s v.1)))), (2, (.c (.ptr 0 128 0 0 0))), (4, (.c (.ptr 0 256 0 0 0))), (7, (.c (.p (.i .i64 v.2.1))))], [(128, ⟨0, 3, 25, (.box [(.p (.i .i64 v.2.2.1)), (.p (.i .i64 v.2.2.2.1)), (.p (.s v.2.2.2.2.1))])⟩), (256, ⟨0, 3, 25, (.box [(.p (.i .i64 v.2.2.2.2.2.1)), (.p (.i .i64 v.2.2.2.2.2.2.1)), (.p (.s v.2.2.2.2.2.2.2))])⟩)], []⟩
def B_impl_ReadValue_3837 (n : Nat) (v : ByteArray × Int × Int × Int × ByteArray × Int × Int × ByteArray) : Tr ((ByteArray × Int × Int × Int × ByteArray × Int × Int × ByteArray) ⊕ ((ByteArray × Int × Int × ByteArray × Int × Int × ByteArray))) := (.ask ((decide (v.2.1 ≤ (5 : Int)))) (.opt (F_impl_errorText n v.2.1) fun r69 => (.ask ((r69.toList == v.1.toList)) (.opt (F_impl_fault n v.2.1) fun r70 => (.done (.inl (v.1, (IntKind.i64.wrap (v.2.1 + (1 : Int))), v.2.2.1, v.2.2.2.1, v.2.2.2.2.1, r70.1, r70.2.1, r70.2.2)))) (.done (.inl (v.1, (IntKind.i64.wrap (v.2.1 + (1 : Int))), v.2.2.1, v.2.2.2.1, v.2.2.2.2.1, v.2.2.2.2.2.1, v.2.2.2.2.2.2.1, v.2.2.2.2.2.2.2))))) (.done (.inr ((v.1, v.2.2.1, v.2.2.2.1, v.2.2.2.2.1, v.2.2.2.2.2.1, v.2.2.2.2.2.2.1, v.2.2.2.2.2.2.2)))))
def D_impl_ReadValue_3837 : (ByteArray × Int × Int × ByteArray × Int × Int × ByteArray) → Ex × St := fun r => ((.exit 1), ⟨[(0, (.c (.p (.s r.1)))), (2, (.c (.ptr 0 128 0 0 0))), (4, (.c (.ptr 0 256 0 0 0)))], [(128, ⟨0, 3, 25, (.box [(.p (.i .i64 r.2.1)), (.p (.i .i64 r.2.2.1)), (.p (.s r.2.2.2.1))])⟩), (256, ⟨0, 3, 25, (.box [(.p (.i .i64 r.2.2.2.2.1)), (.p (.i .i64 r.2.2.2.2.2.1)), (.p (.s r.2.2.2.2.2.2))])⟩)], []⟩)
def DT_impl_ReadValue_3837 : (ByteArray × Int × Int × ByteArray × Int × Int × ByteArray) → Tr (Ex × St) := fun r => .done ((.exit 1), ⟨[(0, (.c (.p (.s r.1)))), (2, (.c (.ptr 0 128 0 0 0))), (4, (.c (.ptr 0 256 0 0 0)))], [(128, ⟨0, 3, 25, (.box [(.p (.i .i64 r.2.1)), (.p (.i .i64 r.2.2.1)), (.p (.s r.2.2.2.1))])⟩), (256, ⟨0, 3, 25, (.box [(.p (.i .i64 r.2.2.2.2.1)), (.p (.i .i64 r.2.2.2.2.2.1)), (.p (.s r.2.2.2.2.2.2))])⟩)], []⟩)
def VH_impl_ReadValue_3837 : Cont3 → Option (ByteArray × Int × Int × Int × ByteArray × Int × Int × ByteArray)
  | ([[[.s w0]], [[]], [[]], [[.i w1]]], [[[.i w2], [.i w3], [.s w4]], [[.i w5], [.i w6], [.s w7]]], []) => some (w0, w1, w2, w3, w4, w5, w6, w7)
  | _ => none
abbrev LE_impl_ReadValue_3837 (n : Nat) : St → Tr (Ex × St) := lent (S_impl_ReadValue_3837 (⟨#[]⟩, 0, 0, 0, ⟨#[]⟩, 0, 0, ⟨#[]⟩)) VH_impl_ReadValue_3837 (B_impl_ReadValue_3837 n) DT_impl_ReadValue_3837 n
abbrev LT_impl_ReadValue (n : Nat) : LTab := mkLT [(3837, LE_impl_ReadValue_3837 n)]
def T_impl_ReadValue (n : Nat) (x0 : ByteArray) : Tr (Int × Int × ByteArray × Bool) := (.opt (F_strings_CutPrefix n x0 (⟨#[39]⟩ : ByteArray)) fun r42 => (.ask (r42.2) (.opt (F_impl_ValueOk n (2 : Int) (0 : Int) r42.1) fun r52 => (.ask ((!r52)) (.done ((0 : Int), (0 : Int), (⟨#[]⟩ : ByteArray), false)) (.opt (F_impl_valueText n (2 : Int) (0 : Int) r42.1) fun r60 => (.ask ((!(r60.toList == x0.toList))) (.done ((0 : Int), (0 : Int), (⟨#[]⟩ : ByteArray), false)) (.done ((2 : Int), (0 : Int), r42.1, true)))))) (.ask ((x0.toList == (⟨#[70, 65, 76, 83, 69]⟩ : ByteArray).toList)) (.opt (F_impl_truth n (x0.toList == (⟨#[84, 82, 85, 69]⟩ : ByteArray).toList)) fun r61 => (.opt (F_impl_ValueOk n r61.1 r61.2.1 r61.2.2) fun r62 => (.ask ((!r62)) (.done ((0 : Int), (0 : Int), (⟨#[]⟩ : ByteArray), false)) (.opt (F_impl_valueText n r61.1 r61.2.1 r61.2.2) fun r63 => (.ask ((!(r63.toList == x0.toList))) (.done ((0 : Int), (0 : Int), (⟨#[]⟩ : ByteArray), false)) (.done (r61.1, r61.2.1, r61.2.2, true))))))) (.ask ((x0.toList == (⟨#[84, 82, 85, 69]⟩ : ByteArray).toList)) (.opt (F_impl_truth n (x0.toList == (⟨#[84, 82, 85, 69]⟩ : ByteArray).toList)) fun r64 => (.opt (F_impl_ValueOk n r64.1 r64.2.1 r64.2.2) fun r65 => (.ask ((!r65)) (.done ((0 : Int), (0 : Int), (⟨#[]⟩ : ByteArray), false)) (.opt (F_impl_valueText n r64.1 r64.2.1 r64.2.2) fun r66 => (.ask ((!(r66.toList == x0.toList))) (.done ((0 : Int), (0 : Int), (⟨#[]⟩ : ByteArray), false)) (.done (r64.1, r64.2.1, r64.2.2, true))))))) (.opt (F_strings_HasPrefix n x0 (⟨#[35]⟩ : ByteArray)) fun r68 => (.ask (r68) (.opt (loopF (B_impl_ReadValue_3837 n) n (x0, (1 : Int), (0 : Int), (0 : Int), (⟨#[]⟩ : ByteArray), (0 : Int), (0 : Int), (⟨#[]⟩ : ByteArray))) fun r71 => (.opt (F_impl_ValueOk n r71.2.2.2.2.1 r71.2.2.2.2.2.1 r71.2.2.2.2.2.2) fun r72 => (.ask ((!r72)) (.done ((0 : Int), (0 : Int), (⟨#[]⟩ : ByteArray), false)) (.opt (F_impl_valueText n r71.2.2.2.2.1 r71.2.2.2.2.2.1 r71.2.2.2.2.2.2) fun r73 => (.ask ((!(r73.toList == r71.1.toList))) (.done ((0 : Int), (0 : Int), (⟨#[]⟩ : ByteArray), false)) (.done (r71.2.2.2.2.1, r71.2.2.2.2.2.1, r71.2.2.2.2.2.2, true))))))) (.ask ((!(x0.toList == (⟨#[]⟩ : ByteArray).toList))) (.opt (F_strconv_ParseInt n x0 (10 : Int) (64 : Int)) fun r74 => (.alt r74 (fun r75 => (.opt (F_impl_number n r75) fun r77 => (.opt (F_impl_ValueOk n r77.1 r77.2.1 r77.2.2) fun r78 => (.ask ((!r78)) (.done ((0 : Int), (0 : Int), (⟨#[]⟩ : ByteArray), false)) (.opt (F_impl_valueText n r77.1 r77.2.1 r77.2.2) fun r79 => (.ask ((!(r79.toList == x0.toList))) (.done ((0 : Int), (0 : Int), (⟨#[]⟩ : ByteArray), false)) (.done (r77.1, r77.2.1, r77.2.2, true)))))))) (fun r76 => (.opt (F_impl_number n r76) fun r80 => (.opt (F_impl_ValueOk n r80.1 r80.2.1 r80.2.2) fun r81 => (.ask ((!r81)) (.done ((0 : Int), (0 : Int), (⟨#[]⟩ : ByteArray), false)) (.opt (F_impl_valueText n r80.1 r80.2.1 r80.2.2) fun r82 => (.ask ((!(r82.toList == x0.toList))) (.done ((0 : Int), (0 : Int), (⟨#[]⟩ : ByteArray), false)) (.done (r80.1, r80.2.1, r80.2.2, true)))))))))) (.opt (F_impl_ValueOk n (0 : Int) (0 : Int) (⟨#[]⟩ : ByteArray)) fun r83 => (.ask ((!r83)) (.done ((0 : Int), (0 : Int), (⟨#[]⟩ : ByteArray), false)) (.opt (F_impl_valueText n (0 : Int) (0 : Int) (⟨#[]⟩ : ByteArray)) fun r84 => (.ask ((!(r84.toList == x0.toList))) (.done ((0 : Int), (0 : Int), (⟨#[]⟩ : ByteArray), false)) (.done ((0 : Int), (0 : Int), (⟨#[]⟩ : ByteArray), true)))))))))))))
def F_impl_ReadValue : Nat → ByteArray → Option (Int × Int × ByteArray × Bool)
  | 0, _ => none
  | n + 1, x0 => (T_impl_ReadValue n x0).run
theorem ft_impl_ReadValue (n : Nat) (x0 : ByteArray) : funT (CT_impl_ReadValue n) (LT_impl_ReadValue n) K_impl_ReadValue (A_impl_ReadValue x0) (U_impl_ReadValue x0) = (T_impl_ReadValue n x0).bind fun r => .done (O_impl_ReadValue r) := by kernel_rfl
theorem ct_impl_ReadValue (n : Nat) : CTok (CT_impl_ReadValue n) (runs KP lib n) := mkCT_cons (eo_strings_CutPrefix n (noEnt_ok)) (mkCT_cons (eo_impl_ValueOk n (noEnt_ok)) (mkCT_cons (eo_impl_valueText n (noEnt_ok)) (mkCT_cons (eo_impl_truth n (noEnt_ok)) (mkCT_cons (eo_strings_HasPrefix n (noEnt_ok)) (mkCT_cons (eo_impl_errorText n (noEnt_ok)) (mkCT_cons (eo_impl_fault n (noEnt_ok)) (mkCT_cons (eo_strconv_ParseInt n (noEnt_ok)) (mkCT_cons (eo_impl_number n (noEnt_ok)) (mkCT_nil)))))))))
theorem lt_impl_ReadValue_3837 (n : Nat) (v : ByteArray × Int × Int × Int × ByteArray × Int × Int × ByteArray) : (evalCT (CT_impl_ReadValue n) (mkLT []) K_impl_ReadValue_L3837 (S_impl_ReadValue_3837 v) []).bind (ltail [0, 2, 4, 7] [(.ret, [2, 3]), ((.exit 1), [0, 2, 4]), ((.exit 0), [0, 2, 4])]) = (B_impl_ReadValue_3837 n v).bind (lenc S_impl_ReadValue_3837 D_impl_ReadValue_3837) := by
  obtain ⟨w0, w1, w2, w3, w4, w5, w6, w7⟩ := v
  kernel_rfl
theorem le_impl_ReadValue_3837 (n : Nat) : LEok (runs KP lib n) n (3837, [0, 2, 4, 7], [(.ret, [2, 3]), ((.exit 1), [0, 2, 4]), ((.exit 0), [0, 2, 4])], K_impl_ReadValue_L3837) (LE_impl_ReadValue_3837 n) := fun st e s h =>
  lent_ok (ct_impl_ReadValue n) (noLoops rfl) (lt_impl_ReadValue_3837 n) (fun r h => by cases h) (fun r y h => by cases h; rfl) (fun hs v h => by
    unfold VH_impl_ReadValue_3837 at h
    split at h <;> cases h
    rfl) h
theorem lo_impl_ReadValue (n : Nat) : LTok (LT_impl_ReadValue n) (runs KP lib n) n K_impl_ReadValue.body := mkLT_ok (by
  intro x hx
  have hx : x ∈ ([(3837, [0, 2, 4, 7], [(.ret, [2, 3]), ((.exit 1), [0, 2, 4]), ((.exit 0), [0, 2, 4])], K_impl_ReadValue_L3837)] : List (Nat × List Nat × List (Ex × List Nat) × KCode)) := hx
  simp only [List.mem_cons, List.not_mem_nil, or_false] at hx
  rcases hx with rfl
  · exact ⟨LE_impl_ReadValue_3837 n, fun st => rfl, le_impl_ReadValue_3837 n⟩)
theorem th_impl_ReadValue : ∀ (n : Nat) (x0 : ByteArray) (r : Int × Int × ByteArray × Bool), F_impl_ReadValue n x0 = some r → runs KP lib n 18 (A_impl_ReadValue x0) (U_impl_ReadValue x0) = some (O_impl_ReadValue r)
  | 0, x0, r, h => by cases h
  | n + 1, x0, r, h => fun_step (kf := K_impl_ReadValue) rfl (ct_impl_ReadValue n) (lo_impl_ReadValue n) (ft_impl_ReadValue n x0) h
def FH_impl_ReadValue (n : Nat) : Cont → Option (Int × Int × ByteArray × Bool)
  | ([[[.s x0]]], []) => F_impl_ReadValue n x0
  | _ => none
def E_impl_ReadValue (n : Nat) (d : List AV → List Go.Eng.Frame → Tr Res) : List AV → List Go.Eng.Frame → Tr Res := cent (A_impl_ReadValue (⟨#[]⟩)) (U_impl_ReadValue (⟨#[]⟩)) (FH_impl_ReadValue n) O_impl_ReadValue d
theorem eo_impl_ReadValue (n : Nat) {d : List AV → List Go.Eng.Frame → Tr Res} (hd : ∀ ar up r, (d ar up).run = some r → runs KP lib n 18 ar up = some r) : ∀ ar up r, (E_impl_ReadValue n d ar up).run = some r → runs KP lib n 18 ar up = some r :=
  cent_ok (fun hs r h => by
    unfold FH_impl_ReadValue at h
    split at h
    · exact ⟨A_impl_ReadValue _, U_impl_ReadValue _, rfl, rfl, th_impl_ReadValue n _ r h⟩
    · cases h) hd
/-! ### laws.eqValue -/
def A_laws_eqValue (x0 : Int) (x1 : Int) (x2 : ByteArray) (x3 : Int) (x4 : Int) (x5 : ByteArray) : List AV := [(.agg [(.p (.i .i64 x0)), (.p (.i .i64 x1)), (.p (.s x2))]), (.agg [(.p (.i .i64 x3)), (.p (.i .i64 x4)), (.p (.s x5))])]
def U_laws_eqValue (x0 : Int) (x1 : Int) (x2 : ByteArray) (x3 : Int) (x4 : Int) (x5 : ByteArray) : List Go.Eng.Frame := []
def O_laws_eqValue (r : Bool) : Res := ⟨(.c (.p (.b r))), [], []⟩
abbrev CT_laws_eqValue (n : Nat) : CTab := mkCT []
abbrev LT_laws_eqValue (n : Nat) : LTab := mkLT []
def T_laws_eqValue (n : Nat) (x0 : Int) (x1 : Int) (x2 : ByteArray) (x3 : Int) (x4 : Int) (x5 : ByteArray) : Tr (Bool) := (.ask ((x0 != x3)) (.done false) (.ask ((x1 != x4)) (.done false) (.ask ((!(x2.toList == x5.toList))) (.done false) (.done true))))
def F_laws_eqValue : Nat → Int → Int → ByteArray → Int → Int → ByteArray → Option (Bool)
  | 0, _, _, _, _, _, _ => none
  | n + 1, x0, x1, x2, x3, x4, x5 => (T_laws_eqValue n x0 x1 x2 x3 x4 x5).run
theorem ft_laws_eqValue (n : Nat) (x0 : Int) (x1 : Int) (x2 : ByteArray) (x3 : Int) (x4 : Int) (x5 : ByteArray) : funT (CT_laws_eqValue n) (LT_laws_eqValue n) K_laws_eqValue (A_laws_eqValue x0 x1 x2 x3 x4 x5) (U_laws_eqValue x0 x1 x2 x3 x4 x5) = (T_laws_eqValue n x0 x1 x2 x3 x4 x5).bind fun r => .done (O_laws_eqValue r) := by kernel_rfl
theorem ct_laws_eqValue (n : Nat) : CTok (CT_laws_eqValue n) (runs KP lib n) := mkCT_nil
theorem th_laws_eqValue : ∀ (n : Nat) (x0 : Int) (x1 : Int) (x2 : ByteArray) (x3 : Int) (x4 : Int) (x5 : ByteArray) (r : Bool), F_laws_eqValue n x0 x1 x2 x3 x4 x5 = some r → runs KP lib n 12 (A_laws_eqValue x0 x1 x2 x3 x4 x5) (U_laws_eqValue x0 x1 x2 x3 x4 x5) = some (O_laws_eqValue r)
  | 0, x0, x1, x2, x3, x4, x5, r, h => by cases h
  | n + 1, x0, x1, x2, x3, x4, x5, r, h => fun_step (kf := K_laws_eqValue) rfl (ct_laws_eqValue n) (noLoops rfl) (ft_laws_eqValue n x0 x1 x2 x3 x4 x5) h
def FH_laws_eqValue (n : Nat) : Cont → Option (Bool)
  | ([[[.i x0], [.i x1], [.s x2]], [[.i x3], [.i x4], [.s x5]]], []) => F_laws_eqValue n x0 x1 x2 x3 x4 x5
  | _ => none
def E_laws_eqValue (n : Nat) (d : List AV → List Go.Eng.Frame → Tr Res) : List AV → List Go.Eng.Frame → Tr Res := cent (A_laws_eqValue (0) (0) (⟨#[]⟩) (0) (0) (⟨#[]⟩)) (U_laws_eqValue (0) (0) (⟨#[]⟩) (0) (0) (⟨#[]⟩)) (FH_laws_eqValue n) O_laws_eqValue d
theorem eo_laws_eqValue (n : Nat) {d : List AV → List Go.Eng.Frame → Tr Res} (hd : ∀ ar up r, (d ar up).run = some r → runs KP lib n 12 ar up = some r) : ∀ ar up r, (E_laws_eqValue n d ar up).run = some r → runs KP lib n 12 ar up = some r :=
  cent_ok (fun hs r h => by
    unfold FH_laws_eqValue at h
    split at h
    · exact ⟨A_laws_eqValue _ _ _ _ _ _, U_laws_eqValue _ _ _ _ _ _, rfl, rfl, th_laws_eqValue n _ _ _ _ _ _ r h⟩
    · cases h) hd
/-! ### laws.FnExactReadValue -/
def A_laws_FnExactReadValue (x0 : ByteArray) : List AV := [(.c (.p (.s x0)))]
def U_laws_FnExactReadValue (x0 : ByteArray) : List Go.Eng.Frame := []
def O_laws_FnExactReadValue (r : Bool) : Res := ⟨(.c (.p (.b r))), [], []⟩
abbrev CT_laws_FnExactReadValue (n : Nat) : CTab := mkCT [(17, E_spec_ReadValue n (noEnt)), (18, E_impl_ReadValue n (noEnt)), (12, E_laws_eqValue n (noEnt))]
abbrev LT_laws_FnExactReadValue (n : Nat) : LTab := mkLT []
def T_laws_FnExactReadValue (n : Nat) (x0 : ByteArray) : Tr (Bool) := (.ask ((decide ((x0.size : Int) > (1048576 : Int)))) (.done true) (.opt (F_spec_ReadValue n x0) fun r41 => (.opt (F_impl_ReadValue n x0) fun r85 => (.opt (F_laws_eqValue n r85.1 r85.2.1 r85.2.2.1 r41.1 r41.2.1 r41.2.2.1) fun r86 => (.ask ((!r86)) (.done false) (.ask ((!(r85.2.2.2 == r41.2.2.2))) (.done false) (.done true)))))))
def F_laws_FnExactReadValue : Nat → ByteArray → Option (Bool)
  | 0, _ => none
  | n + 1, x0 => (T_laws_FnExactReadValue n x0).run
theorem ft_laws_FnExactReadValue (n : Nat) (x0 : ByteArray) : funT (CT_laws_FnExactReadValue n) (LT_laws_FnExactReadValue n) K_laws_FnExactReadValue (A_laws_FnExactReadValue x0) (U_laws_FnExactReadValue x0) = (T_laws_FnExactReadValue n x0).bind fun r => .done (O_laws_FnExactReadValue r) := by kernel_rfl
theorem ct_laws_FnExactReadValue (n : Nat) : CTok (CT_laws_FnExactReadValue n) (runs KP lib n) := mkCT_cons (eo_spec_ReadValue n (noEnt_ok)) (mkCT_cons (eo_impl_ReadValue n (noEnt_ok)) (mkCT_cons (eo_laws_eqValue n (noEnt_ok)) (mkCT_nil)))
theorem th_laws_FnExactReadValue : ∀ (n : Nat) (x0 : ByteArray) (r : Bool), F_laws_FnExactReadValue n x0 = some r → runs KP lib n 6 (A_laws_FnExactReadValue x0) (U_laws_FnExactReadValue x0) = some (O_laws_FnExactReadValue r)
  | 0, x0, r, h => by cases h
  | n + 1, x0, r, h => fun_step (kf := K_laws_FnExactReadValue) rfl (ct_laws_FnExactReadValue n) (noLoops rfl) (ft_laws_FnExactReadValue n x0) h
def FH_laws_FnExactReadValue (n : Nat) : Cont → Option (Bool)
  | ([[[.s x0]]], []) => F_laws_FnExactReadValue n x0
  | _ => none
def E_laws_FnExactReadValue (n : Nat) (d : List AV → List Go.Eng.Frame → Tr Res) : List AV → List Go.Eng.Frame → Tr Res := cent (A_laws_FnExactReadValue (⟨#[]⟩)) (U_laws_FnExactReadValue (⟨#[]⟩)) (FH_laws_FnExactReadValue n) O_laws_FnExactReadValue d
theorem eo_laws_FnExactReadValue (n : Nat) {d : List AV → List Go.Eng.Frame → Tr Res} (hd : ∀ ar up r, (d ar up).run = some r → runs KP lib n 6 ar up = some r) : ∀ ar up r, (E_laws_FnExactReadValue n d ar up).run = some r → runs KP lib n 6 ar up = some r :=
  cent_ok (fun hs r h => by
    unfold FH_laws_FnExactReadValue at h
    split at h
    · exact ⟨A_laws_FnExactReadValue _, U_laws_FnExactReadValue _, rfl, rfl, th_laws_FnExactReadValue n _ r h⟩
    · cases h) hd
end Go.Proofs.YtaannlnlddbgdaaDoor.KFnExactReadValue
