/-
  The trees of what FnExactLookup calls: plain functions, and that the engine reckons just these. No condition.
-/
import Derived.Test.YtaannlnlddbgdabKFnExactLookup
import Derived.Test.YtaannlnlddbgdabE31
import Derived.KernelRfl
namespace Go.Proofs.Ytaannlnlddbgdab.KFnExactLookup
open Go.Eng
set_option linter.unusedVariables false
set_option maxRecDepth 100000
def lib : FuncId → List AV → Option AV := fun _ _ => none
/-! ### laws.szValue -/
def A_laws_szValue (x0 : Int) (x1 : Int) (x2 : ByteArray) (x3 : Int) : List AV := [(.agg [(.p (.i .i64 x0)), (.p (.i .i64 x1)), (.p (.s x2))]), (.c (.p (.i .i64 x3)))]
def O_laws_szValue (r : Int) : AV := (.c (.p (.i .i64 r)))
abbrev CT_laws_szValue (n : Nat) : CTab := mkCT []
abbrev LT_laws_szValue (n : Nat) : LTab := mkLT []
def T_laws_szValue (n : Nat) (x0 : Int) (x1 : Int) (x2 : ByteArray) (x3 : Int) : Tr (Int) := (.ask ((decide ((IntKind.i64.wrap (x3 - (x2.size : Int))) < (0 : Int)))) (.done (-1 : Int)) (.done (IntKind.i64.wrap (x3 - (x2.size : Int)))))
def F_laws_szValue : Nat → Int → Int → ByteArray → Int → Option (Int)
  | 0, _, _, _, _ => none
  | n + 1, x0, x1, x2, x3 => (T_laws_szValue n x0 x1 x2 x3).run
theorem ft_laws_szValue (n : Nat) (x0 : Int) (x1 : Int) (x2 : ByteArray) (x3 : Int) : funT (CT_laws_szValue n) (LT_laws_szValue n) K_laws_szValue (A_laws_szValue x0 x1 x2 x3) = (T_laws_szValue n x0 x1 x2 x3).bind fun r => .done (O_laws_szValue r) := by kernel_rfl
theorem ct_laws_szValue (n : Nat) : CTok (CT_laws_szValue n) (runs KP lib n) := mkCT_nil
theorem th_laws_szValue : ∀ (n : Nat) (x0 : Int) (x1 : Int) (x2 : ByteArray) (x3 : Int) (r : Int), F_laws_szValue n x0 x1 x2 x3 = some r → runs KP lib n 95 (A_laws_szValue x0 x1 x2 x3) [] = some ⟨O_laws_szValue r, [], []⟩
  | 0, x0, x1, x2, x3, r, h => by cases h
  | n + 1, x0, x1, x2, x3, r, h => fun_step (kf := K_laws_szValue) rfl (ct_laws_szValue n) (noLoops rfl) (ft_laws_szValue n x0 x1 x2 x3) h
def FH_laws_szValue (n : Nat) : List (List (List Hv)) → Option (Int)
  | [[[.i x0], [.i x1], [.s x2]], [[.i x3]]] => F_laws_szValue n x0 x1 x2 x3
  | _ => none
def E_laws_szValue (n : Nat) (d : List AV → Tr AV) : List AV → Tr AV := cent (A_laws_szValue (0) (0) (⟨#[]⟩) (0)) (FH_laws_szValue n) O_laws_szValue d
theorem eo_laws_szValue (n : Nat) {d : List AV → Tr AV} (hd : ∀ ar r, (d ar).run = some r → runs KP lib n 95 ar [] = some ⟨r, [], []⟩) : ∀ ar r, (E_laws_szValue n d ar).run = some r → runs KP lib n 95 ar [] = some ⟨r, [], []⟩ :=
  cent_ok (fun hs r h => by
    unfold FH_laws_szValue at h
    split at h
    · exact ⟨A_laws_szValue _ _ _ _, rfl, th_laws_szValue n _ _ _ _ r h⟩
    · cases h) hd
/-! ### laws.szCellValue -/
def A_laws_szCellValue (x0 : Int) (x1 : Int) (x2 : Int) (x3 : Int) (x4 : ByteArray) (x5 : Int) : List AV := [(.agg [(.p (.i .i64 x0)), (.p (.i .i64 x1)), (.p (.i .i64 x2)), (.p (.i .i64 x3)), (.p (.s x4))]), (.c (.p (.i .i64 x5)))]
def O_laws_szCellValue (r : Int) : AV := (.c (.p (.i .i64 r)))
abbrev CT_laws_szCellValue (n : Nat) : CTab := mkCT [(95, E_laws_szValue n (noEnt))]
abbrev LT_laws_szCellValue (n : Nat) : LTab := mkLT []
def T_laws_szCellValue (n : Nat) (x0 : Int) (x1 : Int) (x2 : Int) (x3 : Int) (x4 : ByteArray) (x5 : Int) : Tr (Int) := (.opt (F_laws_szValue n x2 x3 x4 x5) fun r7 => (.ask ((decide (r7 < (0 : Int)))) (.done (-1 : Int)) (.done r7)))
def F_laws_szCellValue : Nat → Int → Int → Int → Int → ByteArray → Int → Option (Int)
  | 0, _, _, _, _, _, _ => none
  | n + 1, x0, x1, x2, x3, x4, x5 => (T_laws_szCellValue n x0 x1 x2 x3 x4 x5).run
theorem ft_laws_szCellValue (n : Nat) (x0 : Int) (x1 : Int) (x2 : Int) (x3 : Int) (x4 : ByteArray) (x5 : Int) : funT (CT_laws_szCellValue n) (LT_laws_szCellValue n) K_laws_szCellValue (A_laws_szCellValue x0 x1 x2 x3 x4 x5) = (T_laws_szCellValue n x0 x1 x2 x3 x4 x5).bind fun r => .done (O_laws_szCellValue r) := by kernel_rfl
theorem ct_laws_szCellValue (n : Nat) : CTok (CT_laws_szCellValue n) (runs KP lib n) := mkCT_cons (eo_laws_szValue n (noEnt_ok)) (mkCT_nil)
theorem th_laws_szCellValue : ∀ (n : Nat) (x0 : Int) (x1 : Int) (x2 : Int) (x3 : Int) (x4 : ByteArray) (x5 : Int) (r : Int), F_laws_szCellValue n x0 x1 x2 x3 x4 x5 = some r → runs KP lib n 54 (A_laws_szCellValue x0 x1 x2 x3 x4 x5) [] = some ⟨O_laws_szCellValue r, [], []⟩
  | 0, x0, x1, x2, x3, x4, x5, r, h => by cases h
  | n + 1, x0, x1, x2, x3, x4, x5, r, h => fun_step (kf := K_laws_szCellValue) rfl (ct_laws_szCellValue n) (noLoops rfl) (ft_laws_szCellValue n x0 x1 x2 x3 x4 x5) h
def FH_laws_szCellValue (n : Nat) : List (List (List Hv)) → Option (Int)
  | [[[.i x0], [.i x1], [.i x2], [.i x3], [.s x4]], [[.i x5]]] => F_laws_szCellValue n x0 x1 x2 x3 x4 x5
  | _ => none
def E_laws_szCellValue (n : Nat) (d : List AV → Tr AV) : List AV → Tr AV := cent (A_laws_szCellValue (0) (0) (0) (0) (⟨#[]⟩) (0)) (FH_laws_szCellValue n) O_laws_szCellValue d
theorem eo_laws_szCellValue (n : Nat) {d : List AV → Tr AV} (hd : ∀ ar r, (d ar).run = some r → runs KP lib n 54 ar [] = some ⟨r, [], []⟩) : ∀ ar r, (E_laws_szCellValue n d ar).run = some r → runs KP lib n 54 ar [] = some ⟨r, [], []⟩ :=
  cent_ok (fun hs r h => by
    unfold FH_laws_szCellValue at h
    split at h
    · exact ⟨A_laws_szCellValue _ _ _ _ _ _, rfl, th_laws_szCellValue n _ _ _ _ _ _ r h⟩
    · cases h) hd
/-! ### laws.szCellValueS -/
def A_laws_szCellValueS (x0 : List (List PV)) (x1 : Int) : List AV := [(.c (.p (.ls x0))), (.c (.p (.i .i64 x1)))]
def O_laws_szCellValueS (r : Int) : AV := (.c (.p (.i .i64 r)))
abbrev CT_laws_szCellValueS (n : Nat) : CTab := mkCT [(54, E_laws_szCellValue n (noEnt))]
def S_laws_szCellValueS_61 (v : (List (List PV)) × Int × Int) : St := ⟨[(0, (.c (.p (.ls v.1)))), (1, (.c (.p (.i .i64 v.2.1)))), (5, (.c (.p (.i .i64 v.2.2))))], [], []⟩
def B_laws_szCellValueS_61 (n : Nat) (v : (List (List PV)) × Int × Int) : Tr (((List (List PV)) × Int × Int) ⊕ ((Int) ⊕ (Int))) := (.ask ((decide (v.2.2 < (v.1.length : Int)))) (.ask (decide (0 ≤ v.2.2 ∧ v.2.2 < v.1.length)) (.opt (v.1[(v.2.2).toNat]?) fun e1 => (.ask (decide (e1.length = 5)) (.opt (cellI .i64 e1 0) fun y2 => (.opt (cellI .i64 e1 1) fun y3 => (.opt (cellI .i64 e1 2) fun y4 => (.opt (cellI .i64 e1 3) fun y5 => (.opt (cellS e1 4) fun y6 => (.opt (F_laws_szCellValue n y2 y3 y4 y5 y6 v.2.1) fun r7 => (.ask ((decide (r7 < (0 : Int)))) (.done (.inr (.inl ((-1 : Int))))) (.done (.inl (v.1, r7, (IntKind.i64.wrap (v.2.2 + (1 : Int))))))))))))) .fail)) .fail) (.done (.inr (.inr (v.2.1)))))
def D_laws_szCellValueS_61 : ((Int) ⊕ (Int)) → Ex × St := fun | .inl r => (.ret, ⟨[(4, (.c (.p (.i .i64 r))))], [], []⟩) | .inr r => (fun r => ((.exit 0), ⟨[(1, (.c (.p (.i .i64 r))))], [], []⟩)) r
def DT_laws_szCellValueS_61 : ((Int) ⊕ (Int)) → Tr (Ex × St) := fun r => .alt r (fun r => .done (.ret, ⟨[(4, (.c (.p (.i .i64 r))))], [], []⟩)) (fun r => .done ((.exit 0), ⟨[(1, (.c (.p (.i .i64 r))))], [], []⟩))
def VH_laws_szCellValueS_61 : List (List (List Hv)) × List (List (List Hv)) → Option ((List (List PV)) × Int × Int)
  | ([[[.r w0]], [[.i w1]], [[.i w2]]], []) => some (w0, w1, w2)
  | _ => none
abbrev LE_laws_szCellValueS_61 (n : Nat) : St → Tr (Ex × St) := lent (S_laws_szCellValueS_61 ([], 0, 0)) VH_laws_szCellValueS_61 (B_laws_szCellValueS_61 n) DT_laws_szCellValueS_61 n
abbrev LT_laws_szCellValueS (n : Nat) : LTab := mkLT [(61, LE_laws_szCellValueS_61 n)]
def T_laws_szCellValueS (n : Nat) (x0 : List (List PV)) (x1 : Int) : Tr (Int) := (.ask ((decide ((IntKind.i64.wrap (x1 - (x0.length : Int))) < (0 : Int)))) (.done (-1 : Int)) (.opt (loopF (B_laws_szCellValueS_61 n) n (x0, (IntKind.i64.wrap (x1 - (x0.length : Int))), (0 : Int))) fun r8 => (.alt r8 (fun r9 => (.done r9)) (fun r10 => (.done r10)))))
def F_laws_szCellValueS : Nat → List (List PV) → Int → Option (Int)
  | 0, _, _ => none
  | n + 1, x0, x1 => (T_laws_szCellValueS n x0 x1).run
theorem ft_laws_szCellValueS (n : Nat) (x0 : List (List PV)) (x1 : Int) : funT (CT_laws_szCellValueS n) (LT_laws_szCellValueS n) K_laws_szCellValueS (A_laws_szCellValueS x0 x1) = (T_laws_szCellValueS n x0 x1).bind fun r => .done (O_laws_szCellValueS r) := by kernel_rfl
theorem ct_laws_szCellValueS (n : Nat) : CTok (CT_laws_szCellValueS n) (runs KP lib n) := mkCT_cons (eo_laws_szCellValue n (noEnt_ok)) (mkCT_nil)
theorem lt_laws_szCellValueS_61 (n : Nat) (v : (List (List PV)) × Int × Int) : (evalCT (CT_laws_szCellValueS n) (mkLT []) K_laws_szCellValueS_L61 (S_laws_szCellValueS_61 v) []).bind (ltail [0, 1, 5] [(.ret, [4]), ((.exit 0), [1])]) = (B_laws_szCellValueS_61 n v).bind (lenc S_laws_szCellValueS_61 D_laws_szCellValueS_61) := by
  obtain ⟨w0, w1, w2⟩ := v
  kernel_rfl
theorem le_laws_szCellValueS_61 (n : Nat) : LEok (runs KP lib n) n (61, [0, 1, 5], [(.ret, [4]), ((.exit 0), [1])], K_laws_szCellValueS_L61) (LE_laws_szCellValueS_61 n) := fun st e s h =>
  lent_ok (ct_laws_szCellValueS n) (noLoops rfl) (lt_laws_szCellValueS_61 n) (fun r => by
    rcases r with r | r <;> (intro h; cases h)) (fun r y h => by
    rcases r with r | r <;> (cases h; rfl)) (fun hs v h => by
    unfold VH_laws_szCellValueS_61 at h
    split at h <;> cases h
    rfl) h
theorem lo_laws_szCellValueS (n : Nat) : LTok (LT_laws_szCellValueS n) (runs KP lib n) n K_laws_szCellValueS.body := mkLT_ok (by
  intro x hx
  have hx : x ∈ ([(61, [0, 1, 5], [(.ret, [4]), ((.exit 0), [1])], K_laws_szCellValueS_L61)] : List (Nat × List Nat × List (Ex × List Nat) × KCode)) := hx
  simp only [List.mem_cons, List.not_mem_nil, or_false] at hx
  rcases hx with rfl
  · exact ⟨LE_laws_szCellValueS_61 n, fun st => rfl, le_laws_szCellValueS_61 n⟩)
theorem th_laws_szCellValueS : ∀ (n : Nat) (x0 : List (List PV)) (x1 : Int) (r : Int), F_laws_szCellValueS n x0 x1 = some r → runs KP lib n 12 (A_laws_szCellValueS x0 x1) [] = some ⟨O_laws_szCellValueS r, [], []⟩
  | 0, x0, x1, r, h => by cases h
  | n + 1, x0, x1, r, h => fun_step (kf := K_laws_szCellValueS) rfl (ct_laws_szCellValueS n) (lo_laws_szCellValueS n) (ft_laws_szCellValueS n x0 x1) h
def FH_laws_szCellValueS (n : Nat) : List (List (List Hv)) → Option (Int)
  | [[[.r x0]], [[.i x1]]] => F_laws_szCellValueS n x0 x1
  | _ => none
def E_laws_szCellValueS (n : Nat) (d : List AV → Tr AV) : List AV → Tr AV := cent (A_laws_szCellValueS ([]) (0)) (FH_laws_szCellValueS n) O_laws_szCellValueS d
theorem eo_laws_szCellValueS (n : Nat) {d : List AV → Tr AV} (hd : ∀ ar r, (d ar).run = some r → runs KP lib n 12 ar [] = some ⟨r, [], []⟩) : ∀ ar r, (E_laws_szCellValueS n d ar).run = some r → runs KP lib n 12 ar [] = some ⟨r, [], []⟩ :=
  cent_ok (fun hs r h => by
    unfold FH_laws_szCellValueS at h
    split at h
    · exact ⟨A_laws_szCellValueS _ _, rfl, th_laws_szCellValueS n _ _ r h⟩
    · cases h) hd
/-! ### laws.toRef -/
def A_laws_toRef (x0 : Int) (x1 : Int) : List AV := [(.agg [(.p (.i .i64 x0)), (.p (.i .i64 x1))])]
def O_laws_toRef (r : Int × Int) : AV := (.agg [(.p (.i .i64 r.1)), (.p (.i .i64 r.2))])
abbrev CT_laws_toRef (n : Nat) : CTab := mkCT []
abbrev LT_laws_toRef (n : Nat) : LTab := mkLT []
def T_laws_toRef (n : Nat) (x0 : Int) (x1 : Int) : Tr (Int × Int) := (.done (x0, x1))
def F_laws_toRef : Nat → Int → Int → Option (Int × Int)
  | 0, _, _ => none
  | n + 1, x0, x1 => (T_laws_toRef n x0 x1).run
theorem ft_laws_toRef (n : Nat) (x0 : Int) (x1 : Int) : funT (CT_laws_toRef n) (LT_laws_toRef n) K_laws_toRef (A_laws_toRef x0 x1) = (T_laws_toRef n x0 x1).bind fun r => .done (O_laws_toRef r) := by kernel_rfl
theorem ct_laws_toRef (n : Nat) : CTok (CT_laws_toRef n) (runs KP lib n) := mkCT_nil
theorem th_laws_toRef : ∀ (n : Nat) (x0 : Int) (x1 : Int) (r : Int × Int), F_laws_toRef n x0 x1 = some r → runs KP lib n 18 (A_laws_toRef x0 x1) [] = some ⟨O_laws_toRef r, [], []⟩
  | 0, x0, x1, r, h => by cases h
  | n + 1, x0, x1, r, h => fun_step (kf := K_laws_toRef) rfl (ct_laws_toRef n) (noLoops rfl) (ft_laws_toRef n x0 x1) h
def FH_laws_toRef (n : Nat) : List (List (List Hv)) → Option (Int × Int)
  | [[[.i x0], [.i x1]]] => F_laws_toRef n x0 x1
  | _ => none
def E_laws_toRef (n : Nat) (d : List AV → Tr AV) : List AV → Tr AV := cent (A_laws_toRef (0) (0)) (FH_laws_toRef n) O_laws_toRef d
theorem eo_laws_toRef (n : Nat) {d : List AV → Tr AV} (hd : ∀ ar r, (d ar).run = some r → runs KP lib n 18 ar [] = some ⟨r, [], []⟩) : ∀ ar r, (E_laws_toRef n d ar).run = some r → runs KP lib n 18 ar [] = some ⟨r, [], []⟩ :=
  cent_ok (fun hs r h => by
    unfold FH_laws_toRef at h
    split at h
    · exact ⟨A_laws_toRef _ _, rfl, th_laws_toRef n _ _ r h⟩
    · cases h) hd
/-! ### laws.toValue -/
def A_laws_toValue (x0 : Int) (x1 : Int) (x2 : ByteArray) : List AV := [(.agg [(.p (.i .i64 x0)), (.p (.i .i64 x1)), (.p (.s x2))])]
def O_laws_toValue (r : Int × Int × ByteArray) : AV := (.agg [(.p (.i .i64 r.1)), (.p (.i .i64 r.2.1)), (.p (.s r.2.2))])
abbrev CT_laws_toValue (n : Nat) : CTab := mkCT []
abbrev LT_laws_toValue (n : Nat) : LTab := mkLT []
def T_laws_toValue (n : Nat) (x0 : Int) (x1 : Int) (x2 : ByteArray) : Tr (Int × Int × ByteArray) := (.done (x0, x1, x2))
def F_laws_toValue : Nat → Int → Int → ByteArray → Option (Int × Int × ByteArray)
  | 0, _, _, _ => none
  | n + 1, x0, x1, x2 => (T_laws_toValue n x0 x1 x2).run
theorem ft_laws_toValue (n : Nat) (x0 : Int) (x1 : Int) (x2 : ByteArray) : funT (CT_laws_toValue n) (LT_laws_toValue n) K_laws_toValue (A_laws_toValue x0 x1 x2) = (T_laws_toValue n x0 x1 x2).bind fun r => .done (O_laws_toValue r) := by kernel_rfl
theorem ct_laws_toValue (n : Nat) : CTok (CT_laws_toValue n) (runs KP lib n) := mkCT_nil
theorem th_laws_toValue : ∀ (n : Nat) (x0 : Int) (x1 : Int) (x2 : ByteArray) (r : Int × Int × ByteArray), F_laws_toValue n x0 x1 x2 = some r → runs KP lib n 97 (A_laws_toValue x0 x1 x2) [] = some ⟨O_laws_toValue r, [], []⟩
  | 0, x0, x1, x2, r, h => by cases h
  | n + 1, x0, x1, x2, r, h => fun_step (kf := K_laws_toValue) rfl (ct_laws_toValue n) (noLoops rfl) (ft_laws_toValue n x0 x1 x2) h
def FH_laws_toValue (n : Nat) : List (List (List Hv)) → Option (Int × Int × ByteArray)
  | [[[.i x0], [.i x1], [.s x2]]] => F_laws_toValue n x0 x1 x2
  | _ => none
def E_laws_toValue (n : Nat) (d : List AV → Tr AV) : List AV → Tr AV := cent (A_laws_toValue (0) (0) (⟨#[]⟩)) (FH_laws_toValue n) O_laws_toValue d
theorem eo_laws_toValue (n : Nat) {d : List AV → Tr AV} (hd : ∀ ar r, (d ar).run = some r → runs KP lib n 97 ar [] = some ⟨r, [], []⟩) : ∀ ar r, (E_laws_toValue n d ar).run = some r → runs KP lib n 97 ar [] = some ⟨r, [], []⟩ :=
  cent_ok (fun hs r h => by
    unfold FH_laws_toValue at h
    split at h
    · exact ⟨A_laws_toValue _ _ _, rfl, th_laws_toValue n _ _ _ r h⟩
    · cases h) hd
/-! ### laws.toCellValue -/
def A_laws_toCellValue (x0 : Int) (x1 : Int) (x2 : Int) (x3 : Int) (x4 : ByteArray) : List AV := [(.agg [(.p (.i .i64 x0)), (.p (.i .i64 x1)), (.p (.i .i64 x2)), (.p (.i .i64 x3)), (.p (.s x4))])]
def O_laws_toCellValue (r : Int × Int × Int × Int × ByteArray) : AV := (.agg [(.p (.i .i64 r.1)), (.p (.i .i64 r.2.1)), (.p (.i .i64 r.2.2.1)), (.p (.i .i64 r.2.2.2.1)), (.p (.s r.2.2.2.2))])
abbrev CT_laws_toCellValue (n : Nat) : CTab := mkCT [(18, E_laws_toRef n (noEnt)), (97, E_laws_toValue n (noEnt))]
abbrev LT_laws_toCellValue (n : Nat) : LTab := mkLT []
def T_laws_toCellValue (n : Nat) (x0 : Int) (x1 : Int) (x2 : Int) (x3 : Int) (x4 : ByteArray) : Tr (Int × Int × Int × Int × ByteArray) := (.opt (F_laws_toRef n x0 x1) fun r18 => (.opt (F_laws_toValue n x2 x3 x4) fun r19 => (.done (r18.1, r18.2, r19.1, r19.2.1, r19.2.2))))
def F_laws_toCellValue : Nat → Int → Int → Int → Int → ByteArray → Option (Int × Int × Int × Int × ByteArray)
  | 0, _, _, _, _, _ => none
  | n + 1, x0, x1, x2, x3, x4 => (T_laws_toCellValue n x0 x1 x2 x3 x4).run
theorem ft_laws_toCellValue (n : Nat) (x0 : Int) (x1 : Int) (x2 : Int) (x3 : Int) (x4 : ByteArray) : funT (CT_laws_toCellValue n) (LT_laws_toCellValue n) K_laws_toCellValue (A_laws_toCellValue x0 x1 x2 x3 x4) = (T_laws_toCellValue n x0 x1 x2 x3 x4).bind fun r => .done (O_laws_toCellValue r) := by kernel_rfl
theorem ct_laws_toCellValue (n : Nat) : CTok (CT_laws_toCellValue n) (runs KP lib n) := mkCT_cons (eo_laws_toRef n (noEnt_ok)) (mkCT_cons (eo_laws_toValue n (noEnt_ok)) (mkCT_nil))
theorem th_laws_toCellValue : ∀ (n : Nat) (x0 : Int) (x1 : Int) (x2 : Int) (x3 : Int) (x4 : ByteArray) (r : Int × Int × Int × Int × ByteArray), F_laws_toCellValue n x0 x1 x2 x3 x4 = some r → runs KP lib n 58 (A_laws_toCellValue x0 x1 x2 x3 x4) [] = some ⟨O_laws_toCellValue r, [], []⟩
  | 0, x0, x1, x2, x3, x4, r, h => by cases h
  | n + 1, x0, x1, x2, x3, x4, r, h => fun_step (kf := K_laws_toCellValue) rfl (ct_laws_toCellValue n) (noLoops rfl) (ft_laws_toCellValue n x0 x1 x2 x3 x4) h
def FH_laws_toCellValue (n : Nat) : List (List (List Hv)) → Option (Int × Int × Int × Int × ByteArray)
  | [[[.i x0], [.i x1], [.i x2], [.i x3], [.s x4]]] => F_laws_toCellValue n x0 x1 x2 x3 x4
  | _ => none
def E_laws_toCellValue (n : Nat) (d : List AV → Tr AV) : List AV → Tr AV := cent (A_laws_toCellValue (0) (0) (0) (0) (⟨#[]⟩)) (FH_laws_toCellValue n) O_laws_toCellValue d
theorem eo_laws_toCellValue (n : Nat) {d : List AV → Tr AV} (hd : ∀ ar r, (d ar).run = some r → runs KP lib n 58 ar [] = some ⟨r, [], []⟩) : ∀ ar r, (E_laws_toCellValue n d ar).run = some r → runs KP lib n 58 ar [] = some ⟨r, [], []⟩ :=
  cent_ok (fun hs r h => by
    unfold FH_laws_toCellValue at h
    split at h
    · exact ⟨A_laws_toCellValue _ _ _ _ _, rfl, th_laws_toCellValue n _ _ _ _ _ r h⟩
    · cases h) hd
/-! ### laws.toCellValueS -/
def A_laws_toCellValueS (x0 : List (List PV)) : List AV := [(.c (.p (.ls x0)))]
def O_laws_toCellValueS (r : (List (List PV))) : AV := (.c (.p (.ls r)))
abbrev CT_laws_toCellValueS (n : Nat) : CTab := mkCT [(58, E_laws_toCellValue n (noEnt))]
def S_laws_toCellValueS_29 (v : (List (List PV)) × Nat × Int × (List (List PV))) : St := ⟨[(0, (.c (.p (.ls v.1)))), (3, (.c (.own 0 448 0 v.2.1))), (4, (.c (.p (.i .i64 v.2.2.1))))], [(448, ⟨0, 5, 80, (.row v.2.2.2)⟩)], []⟩
def B_laws_toCellValueS_29 (n : Nat) (v : (List (List PV)) × Nat × Int × (List (List PV))) : Tr (((List (List PV)) × Nat × Int × (List (List PV))) ⊕ ((Nat × (List (List PV))))) := (.ask ((decide (v.2.2.1 < (v.1.length : Int)))) (.ask (decide (0 ≤ v.2.2.1 ∧ v.2.2.1 < v.1.length)) (.opt (v.1[(v.2.2.1).toNat]?) fun e12 => (.ask (decide (e12.length = 5)) (.opt (cellI .i64 e12 0) fun y13 => (.opt (cellI .i64 e12 1) fun y14 => (.opt (cellI .i64 e12 2) fun y15 => (.opt (cellI .i64 e12 3) fun y16 => (.opt (cellS e12 4) fun y17 => (.opt (F_laws_toCellValue n y13 y14 y15 y16 y17) fun r18 => (.ask (decide (v.2.1 = v.2.2.2.length ∧ 0 ≤ v.2.2.1 ∧ v.2.2.1 < ((v.2.1 : Nat) : Int))) (.opt (v.2.2.2[(v.2.2.1).toNat]?) fun e19 => (.ask (decide (0 + 5 ≤ e19.length)) (.done (.inl (v.1, v.2.1, (IntKind.i64.wrap (v.2.2.1 + (1 : Int))), (v.2.2.2.set (v.2.2.1).toNat (setAt e19 0 [(.i .i64 r18.1), (.i .i64 r18.2.1), (.i .i64 r18.2.2.1), (.i .i64 r18.2.2.2.1), (.s r18.2.2.2.2)]))))) .fail)) .fail))))))) .fail)) .fail) (.done (.inr ((v.2.1, v.2.2.2)))))
def D_laws_toCellValueS_29 : (Nat × (List (List PV))) → Ex × St := fun r => ((.exit 0), ⟨[(3, (.c (.own 0 448 0 r.1)))], [(448, ⟨0, 5, 80, (.row r.2)⟩)], []⟩)
def DT_laws_toCellValueS_29 : (Nat × (List (List PV))) → Tr (Ex × St) := fun r => .done ((.exit 0), ⟨[(3, (.c (.own 0 448 0 r.1)))], [(448, ⟨0, 5, 80, (.row r.2)⟩)], []⟩)
def VH_laws_toCellValueS_29 : List (List (List Hv)) × List (List (List Hv)) → Option ((List (List PV)) × Nat × Int × (List (List PV)))
  | ([[[.r w0]], [[.n w1]], [[.i w2]]], [[[.r w3]]]) => some (w0, w1, w2, w3)
  | _ => none
abbrev LE_laws_toCellValueS_29 (n : Nat) : St → Tr (Ex × St) := lent (S_laws_toCellValueS_29 ([], 0, 0, [])) VH_laws_toCellValueS_29 (B_laws_toCellValueS_29 n) DT_laws_toCellValueS_29 n
abbrev LT_laws_toCellValueS (n : Nat) : LTab := mkLT [(29, LE_laws_toCellValueS_29 n)]
def T_laws_toCellValueS (n : Nat) (x0 : List (List PV)) : Tr ((List (List PV))) := (.ask (decide (0 ≤ (x0.length : Int) ∧ (x0.length : Int) = (x0.length : Int) ∧ 48 * (x0.length : Int) ≤ 140737488355328 ∧ (x0.length : Int) ≤ 9223372036854775807)) (.opt (loopF (B_laws_toCellValueS_29 n) n (x0, ((x0.length : Int)).toNat, (0 : Int), (zrows [(.i .i64 (0 : Int)), (.i .i64 (0 : Int)), (.i .i64 (0 : Int)), (.i .i64 (0 : Int)), (.s (⟨#[]⟩ : ByteArray))] ((x0.length : Int)).toNat))) fun r20 => (.ask (decide (r20.1 = r20.2.length)) (.done r20.2) .fail)) .fail)
def F_laws_toCellValueS : Nat → List (List PV) → Option ((List (List PV)))
  | 0, _ => none
  | n + 1, x0 => (T_laws_toCellValueS n x0).run
theorem ft_laws_toCellValueS (n : Nat) (x0 : List (List PV)) : funT (CT_laws_toCellValueS n) (LT_laws_toCellValueS n) K_laws_toCellValueS (A_laws_toCellValueS x0) = (T_laws_toCellValueS n x0).bind fun r => .done (O_laws_toCellValueS r) := by kernel_rfl
theorem ct_laws_toCellValueS (n : Nat) : CTok (CT_laws_toCellValueS n) (runs KP lib n) := mkCT_cons (eo_laws_toCellValue n (noEnt_ok)) (mkCT_nil)
theorem lt_laws_toCellValueS_29 (n : Nat) (v : (List (List PV)) × Nat × Int × (List (List PV))) : (evalCT (CT_laws_toCellValueS n) (mkLT []) K_laws_toCellValueS_L29 (S_laws_toCellValueS_29 v) []).bind (ltail [0, 3, 4] [(.ret, [2]), ((.exit 0), [3])]) = (B_laws_toCellValueS_29 n v).bind (lenc S_laws_toCellValueS_29 D_laws_toCellValueS_29) := by
  obtain ⟨w0, w1, w2, w3⟩ := v
  kernel_rfl
theorem le_laws_toCellValueS_29 (n : Nat) : LEok (runs KP lib n) n (29, [0, 3, 4], [(.ret, [2]), ((.exit 0), [3])], K_laws_toCellValueS_L29) (LE_laws_toCellValueS_29 n) := fun st e s h =>
  lent_ok (ct_laws_toCellValueS n) (noLoops rfl) (lt_laws_toCellValueS_29 n) (fun r h => by cases h) (fun r y h => by cases h; rfl) (fun hs v h => by
    unfold VH_laws_toCellValueS_29 at h
    split at h <;> cases h
    rfl) h
theorem lo_laws_toCellValueS (n : Nat) : LTok (LT_laws_toCellValueS n) (runs KP lib n) n K_laws_toCellValueS.body := mkLT_ok (by
  intro x hx
  have hx : x ∈ ([(29, [0, 3, 4], [(.ret, [2]), ((.exit 0), [3])], K_laws_toCellValueS_L29)] : List (Nat × List Nat × List (Ex × List Nat) × KCode)) := hx
  simp only [List.mem_cons, List.not_mem_nil, or_false] at hx
  rcases hx with rfl
  · exact ⟨LE_laws_toCellValueS_29 n, fun st => rfl, le_laws_toCellValueS_29 n⟩)
theorem th_laws_toCellValueS : ∀ (n : Nat) (x0 : List (List PV)) (r : (List (List PV))), F_laws_toCellValueS n x0 = some r → runs KP lib n 14 (A_laws_toCellValueS x0) [] = some ⟨O_laws_toCellValueS r, [], []⟩
  | 0, x0, r, h => by cases h
  | n + 1, x0, r, h => fun_step (kf := K_laws_toCellValueS) rfl (ct_laws_toCellValueS n) (lo_laws_toCellValueS n) (ft_laws_toCellValueS n x0) h
def FH_laws_toCellValueS (n : Nat) : List (List (List Hv)) → Option ((List (List PV)))
  | [[[.r x0]]] => F_laws_toCellValueS n x0
  | _ => none
def E_laws_toCellValueS (n : Nat) (d : List AV → Tr AV) : List AV → Tr AV := cent (A_laws_toCellValueS ([])) (FH_laws_toCellValueS n) O_laws_toCellValueS d
theorem eo_laws_toCellValueS (n : Nat) {d : List AV → Tr AV} (hd : ∀ ar r, (d ar).run = some r → runs KP lib n 14 ar [] = some ⟨r, [], []⟩) : ∀ ar r, (E_laws_toCellValueS n d ar).run = some r → runs KP lib n 14 ar [] = some ⟨r, [], []⟩ :=
  cent_ok (fun hs r h => by
    unfold FH_laws_toCellValueS at h
    split at h
    · exact ⟨A_laws_toCellValueS _, rfl, th_laws_toCellValueS n _ r h⟩
    · cases h) hd
/-! ### spec.l1In -/
def A_spec_l1In (x0 : Int) (x1 : Int) (x2 : Int) : List AV := [(.c (.p (.i .i64 x0))), (.c (.p (.i .i64 x1))), (.c (.p (.i .i64 x2)))]
def O_spec_l1In (r : Bool) : AV := (.c (.p (.b r)))
abbrev CT_spec_l1In (n : Nat) : CTab := mkCT []
abbrev LT_spec_l1In (n : Nat) : LTab := mkLT []
def T_spec_l1In (n : Nat) (x0 : Int) (x1 : Int) (x2 : Int) : Tr (Bool) := (.ask ((decide (x0 ≥ x1))) (.done (decide (x0 ≤ x2))) (.done false))
def F_spec_l1In : Nat → Int → Int → Int → Option (Bool)
  | 0, _, _, _ => none
  | n + 1, x0, x1, x2 => (T_spec_l1In n x0 x1 x2).run
theorem ft_spec_l1In (n : Nat) (x0 : Int) (x1 : Int) (x2 : Int) : funT (CT_spec_l1In n) (LT_spec_l1In n) K_spec_l1In (A_spec_l1In x0 x1 x2) = (T_spec_l1In n x0 x1 x2).bind fun r => .done (O_spec_l1In r) := by kernel_rfl
theorem ct_spec_l1In (n : Nat) : CTok (CT_spec_l1In n) (runs KP lib n) := mkCT_nil
theorem th_spec_l1In : ∀ (n : Nat) (x0 : Int) (x1 : Int) (x2 : Int) (r : Bool), F_spec_l1In n x0 x1 x2 = some r → runs KP lib n 75 (A_spec_l1In x0 x1 x2) [] = some ⟨O_spec_l1In r, [], []⟩
  | 0, x0, x1, x2, r, h => by cases h
  | n + 1, x0, x1, x2, r, h => fun_step (kf := K_spec_l1In) rfl (ct_spec_l1In n) (noLoops rfl) (ft_spec_l1In n x0 x1 x2) h
def FH_spec_l1In (n : Nat) : List (List (List Hv)) → Option (Bool)
  | [[[.i x0]], [[.i x1]], [[.i x2]]] => F_spec_l1In n x0 x1 x2
  | _ => none
def E_spec_l1In (n : Nat) (d : List AV → Tr AV) : List AV → Tr AV := cent (A_spec_l1In (0) (0) (0)) (FH_spec_l1In n) O_spec_l1In d
theorem eo_spec_l1In (n : Nat) {d : List AV → Tr AV} (hd : ∀ ar r, (d ar).run = some r → runs KP lib n 75 ar [] = some ⟨r, [], []⟩) : ∀ ar r, (E_spec_l1In n d ar).run = some r → runs KP lib n 75 ar [] = some ⟨r, [], []⟩ :=
  cent_ok (fun hs r h => by
    unfold FH_spec_l1In at h
    split at h
    · exact ⟨A_spec_l1In _ _ _, rfl, th_spec_l1In n _ _ _ r h⟩
    · cases h) hd
/-! ### spec.RefOk -/
def A_spec_RefOk (x0 : Int) (x1 : Int) : List AV := [(.agg [(.p (.i .i64 x0)), (.p (.i .i64 x1))])]
def O_spec_RefOk (r : Bool) : AV := (.c (.p (.b r)))
abbrev CT_spec_RefOk (n : Nat) : CTab := mkCT [(75, E_spec_l1In n (noEnt))]
abbrev LT_spec_RefOk (n : Nat) : LTab := mkLT []
def T_spec_RefOk (n : Nat) (x0 : Int) (x1 : Int) : Tr (Bool) := (.opt (F_spec_l1In n x0 (1 : Int) (52 : Int)) fun r26 => (.ask (r26) (.opt (F_spec_l1In n x1 (1 : Int) (99 : Int)) fun r27 => (.done r27)) (.done false)))
def F_spec_RefOk : Nat → Int → Int → Option (Bool)
  | 0, _, _ => none
  | n + 1, x0, x1 => (T_spec_RefOk n x0 x1).run
theorem ft_spec_RefOk (n : Nat) (x0 : Int) (x1 : Int) : funT (CT_spec_RefOk n) (LT_spec_RefOk n) K_spec_RefOk (A_spec_RefOk x0 x1) = (T_spec_RefOk n x0 x1).bind fun r => .done (O_spec_RefOk r) := by kernel_rfl
theorem ct_spec_RefOk (n : Nat) : CTok (CT_spec_RefOk n) (runs KP lib n) := mkCT_cons (eo_spec_l1In n (noEnt_ok)) (mkCT_nil)
theorem th_spec_RefOk : ∀ (n : Nat) (x0 : Int) (x1 : Int) (r : Bool), F_spec_RefOk n x0 x1 = some r → runs KP lib n 55 (A_spec_RefOk x0 x1) [] = some ⟨O_spec_RefOk r, [], []⟩
  | 0, x0, x1, r, h => by cases h
  | n + 1, x0, x1, r, h => fun_step (kf := K_spec_RefOk) rfl (ct_spec_RefOk n) (noLoops rfl) (ft_spec_RefOk n x0 x1) h
def FH_spec_RefOk (n : Nat) : List (List (List Hv)) → Option (Bool)
  | [[[.i x0], [.i x1]]] => F_spec_RefOk n x0 x1
  | _ => none
def E_spec_RefOk (n : Nat) (d : List AV → Tr AV) : List AV → Tr AV := cent (A_spec_RefOk (0) (0)) (FH_spec_RefOk n) O_spec_RefOk d
theorem eo_spec_RefOk (n : Nat) {d : List AV → Tr AV} (hd : ∀ ar r, (d ar).run = some r → runs KP lib n 55 ar [] = some ⟨r, [], []⟩) : ∀ ar r, (E_spec_RefOk n d ar).run = some r → runs KP lib n 55 ar [] = some ⟨r, [], []⟩ :=
  cent_ok (fun hs r h => by
    unfold FH_spec_RefOk at h
    split at h
    · exact ⟨A_spec_RefOk _ _, rfl, th_spec_RefOk n _ _ r h⟩
    · cases h) hd
/-! ### spec.l2Plain -/
def A_spec_l2Plain (x0 : ByteArray) : List AV := [(.c (.p (.s x0)))]
def O_spec_l2Plain (r : Bool) : AV := (.c (.p (.b r)))
abbrev CT_spec_l2Plain (n : Nat) : CTab := mkCT []
def S_spec_l2Plain_13 (v : ByteArray × Int) : St := ⟨[(0, (.c (.p (.s v.1)))), (3, (.c (.p (.i .i64 v.2))))], [], []⟩
def B_spec_l2Plain_13 (n : Nat) (v : ByteArray × Int) : Tr ((ByteArray × Int) ⊕ ((Bool) ⊕ (ByteArray))) := (.ask ((decide (v.2 < (v.1.size : Int)))) (.ask (decide (0 ≤ v.2)) (.opt (v.1.toList[(v.2).toNat]?) fun c34 => (.ask ((decide ((c34.toNat : Int) < (32 : Int)))) (.done (.inr (.inl (false)))) (.ask (decide (0 ≤ v.2)) (.opt (v.1.toList[(v.2).toNat]?) fun c35 => (.ask ((decide ((c35.toNat : Int) > (126 : Int)))) (.done (.inr (.inl (false)))) (.done (.inl (v.1, (IntKind.i64.wrap (v.2 + (1 : Int)))))))) .fail))) .fail) (.done (.inr (.inr (v.1)))))
def D_spec_l2Plain_13 : ((Bool) ⊕ (ByteArray)) → Ex × St := fun | .inl r => (.ret, ⟨[(2, (.c (.p (.b r))))], [], []⟩) | .inr r => (fun r => ((.exit 0), ⟨[(0, (.c (.p (.s r))))], [], []⟩)) r
def DT_spec_l2Plain_13 : ((Bool) ⊕ (ByteArray)) → Tr (Ex × St) := fun r => .alt r (fun r => .done (.ret, ⟨[(2, (.c (.p (.b r))))], [], []⟩)) (fun r => .done ((.exit 0), ⟨[(0, (.c (.p (.s r))))], [], []⟩))
def VH_spec_l2Plain_13 : List (List (List Hv)) × List (List (List Hv)) → Option (ByteArray × Int)
  | ([[[.s w0]], [[.i w1]]], []) => some (w0, w1)
  | _ => none
abbrev LE_spec_l2Plain_13 (n : Nat) : St → Tr (Ex × St) := lent (S_spec_l2Plain_13 (⟨#[]⟩, 0)) VH_spec_l2Plain_13 (B_spec_l2Plain_13 n) DT_spec_l2Plain_13 n
abbrev LT_spec_l2Plain (n : Nat) : LTab := mkLT [(13, LE_spec_l2Plain_13 n)]
def T_spec_l2Plain (n : Nat) (x0 : ByteArray) : Tr (Bool) := (.opt (loopF (B_spec_l2Plain_13 n) n (x0, (0 : Int))) fun r36 => (.alt r36 (fun r37 => (.done r37)) (fun r38 => (.done (decide ((r38.size : Int) ≤ (200 : Int)))))))
def F_spec_l2Plain : Nat → ByteArray → Option (Bool)
  | 0, _ => none
  | n + 1, x0 => (T_spec_l2Plain n x0).run
theorem ft_spec_l2Plain (n : Nat) (x0 : ByteArray) : funT (CT_spec_l2Plain n) (LT_spec_l2Plain n) K_spec_l2Plain (A_spec_l2Plain x0) = (T_spec_l2Plain n x0).bind fun r => .done (O_spec_l2Plain r) := by kernel_rfl
theorem ct_spec_l2Plain (n : Nat) : CTok (CT_spec_l2Plain n) (runs KP lib n) := mkCT_nil
theorem lt_spec_l2Plain_13 (n : Nat) (v : ByteArray × Int) : (evalCT (CT_spec_l2Plain n) (mkLT []) K_spec_l2Plain_L13 (S_spec_l2Plain_13 v) []).bind (ltail [0, 3] [(.ret, [2]), ((.exit 0), [0])]) = (B_spec_l2Plain_13 n v).bind (lenc S_spec_l2Plain_13 D_spec_l2Plain_13) := by
  obtain ⟨w0, w1⟩ := v
  kernel_rfl
theorem le_spec_l2Plain_13 (n : Nat) : LEok (runs KP lib n) n (13, [0, 3], [(.ret, [2]), ((.exit 0), [0])], K_spec_l2Plain_L13) (LE_spec_l2Plain_13 n) := fun st e s h =>
  lent_ok (ct_spec_l2Plain n) (noLoops rfl) (lt_spec_l2Plain_13 n) (fun r => by
    rcases r with r | r <;> (intro h; cases h)) (fun r y h => by
    rcases r with r | r <;> (cases h; rfl)) (fun hs v h => by
    unfold VH_spec_l2Plain_13 at h
    split at h <;> cases h
    rfl) h
theorem lo_spec_l2Plain (n : Nat) : LTok (LT_spec_l2Plain n) (runs KP lib n) n K_spec_l2Plain.body := mkLT_ok (by
  intro x hx
  have hx : x ∈ ([(13, [0, 3], [(.ret, [2]), ((.exit 0), [0])], K_spec_l2Plain_L13)] : List (Nat × List Nat × List (Ex × List Nat) × KCode)) := hx
  simp only [List.mem_cons, List.not_mem_nil, or_false] at hx
  rcases hx with rfl
  · exact ⟨LE_spec_l2Plain_13 n, fun st => rfl, le_spec_l2Plain_13 n⟩)
theorem th_spec_l2Plain : ∀ (n : Nat) (x0 : ByteArray) (r : Bool), F_spec_l2Plain n x0 = some r → runs KP lib n 96 (A_spec_l2Plain x0) [] = some ⟨O_spec_l2Plain r, [], []⟩
  | 0, x0, r, h => by cases h
  | n + 1, x0, r, h => fun_step (kf := K_spec_l2Plain) rfl (ct_spec_l2Plain n) (lo_spec_l2Plain n) (ft_spec_l2Plain n x0) h
def FH_spec_l2Plain (n : Nat) : List (List (List Hv)) → Option (Bool)
  | [[[.s x0]]] => F_spec_l2Plain n x0
  | _ => none
def E_spec_l2Plain (n : Nat) (d : List AV → Tr AV) : List AV → Tr AV := cent (A_spec_l2Plain (⟨#[]⟩)) (FH_spec_l2Plain n) O_spec_l2Plain d
theorem eo_spec_l2Plain (n : Nat) {d : List AV → Tr AV} (hd : ∀ ar r, (d ar).run = some r → runs KP lib n 96 ar [] = some ⟨r, [], []⟩) : ∀ ar r, (E_spec_l2Plain n d ar).run = some r → runs KP lib n 96 ar [] = some ⟨r, [], []⟩ :=
  cent_ok (fun hs r h => by
    unfold FH_spec_l2Plain at h
    split at h
    · exact ⟨A_spec_l2Plain _, rfl, th_spec_l2Plain n _ r h⟩
    · cases h) hd
/-! ### spec.ValueOk -/
def A_spec_ValueOk (x0 : Int) (x1 : Int) (x2 : ByteArray) : List AV := [(.agg [(.p (.i .i64 x0)), (.p (.i .i64 x1)), (.p (.s x2))])]
def O_spec_ValueOk (r : Bool) : AV := (.c (.p (.b r)))
abbrev CT_spec_ValueOk (n : Nat) : CTab := mkCT [(75, E_spec_l1In n (noEnt)), (96, E_spec_l2Plain n (noEnt))]
abbrev LT_spec_ValueOk (n : Nat) : LTab := mkLT []
def T_spec_ValueOk (n : Nat) (x0 : Int) (x1 : Int) (x2 : ByteArray) : Tr (Bool) := (.ask ((x0 == (0 : Int))) (.ask ((x1 == (0 : Int))) (.done (x2.toList == (⟨#[]⟩ : ByteArray).toList)) (.done false)) (.ask ((x0 == (1 : Int))) (.opt (F_spec_l1In n x1 (-1000000000000000 : Int) (1000000000000000 : Int)) fun r33 => (.ask (r33) (.done (x2.toList == (⟨#[]⟩ : ByteArray).toList)) (.done false))) (.ask ((x0 == (2 : Int))) (.ask ((x1 == (0 : Int))) (.opt (F_spec_l2Plain n x2) fun r39 => (.done r39)) (.done false)) (.ask ((x0 == (3 : Int))) (.opt (F_spec_l1In n x1 (0 : Int) (1 : Int)) fun r40 => (.ask (r40) (.done (x2.toList == (⟨#[]⟩ : ByteArray).toList)) (.done false))) (.ask ((x0 == (4 : Int))) (.opt (F_spec_l1In n x1 (1 : Int) (5 : Int)) fun r41 => (.ask (r41) (.done (x2.toList == (⟨#[]⟩ : ByteArray).toList)) (.done false))) (.done false))))))
def F_spec_ValueOk : Nat → Int → Int → ByteArray → Option (Bool)
  | 0, _, _, _ => none
  | n + 1, x0, x1, x2 => (T_spec_ValueOk n x0 x1 x2).run
theorem ft_spec_ValueOk (n : Nat) (x0 : Int) (x1 : Int) (x2 : ByteArray) : funT (CT_spec_ValueOk n) (LT_spec_ValueOk n) K_spec_ValueOk (A_spec_ValueOk x0 x1 x2) = (T_spec_ValueOk n x0 x1 x2).bind fun r => .done (O_spec_ValueOk r) := by kernel_rfl
theorem ct_spec_ValueOk (n : Nat) : CTok (CT_spec_ValueOk n) (runs KP lib n) := mkCT_cons (eo_spec_l1In n (noEnt_ok)) (mkCT_cons (eo_spec_l2Plain n (noEnt_ok)) (mkCT_nil))
theorem th_spec_ValueOk : ∀ (n : Nat) (x0 : Int) (x1 : Int) (x2 : ByteArray) (r : Bool), F_spec_ValueOk n x0 x1 x2 = some r → runs KP lib n 56 (A_spec_ValueOk x0 x1 x2) [] = some ⟨O_spec_ValueOk r, [], []⟩
  | 0, x0, x1, x2, r, h => by cases h
  | n + 1, x0, x1, x2, r, h => fun_step (kf := K_spec_ValueOk) rfl (ct_spec_ValueOk n) (noLoops rfl) (ft_spec_ValueOk n x0 x1 x2) h
def FH_spec_ValueOk (n : Nat) : List (List (List Hv)) → Option (Bool)
  | [[[.i x0], [.i x1], [.s x2]]] => F_spec_ValueOk n x0 x1 x2
  | _ => none
def E_spec_ValueOk (n : Nat) (d : List AV → Tr AV) : List AV → Tr AV := cent (A_spec_ValueOk (0) (0) (⟨#[]⟩)) (FH_spec_ValueOk n) O_spec_ValueOk d
theorem eo_spec_ValueOk (n : Nat) {d : List AV → Tr AV} (hd : ∀ ar r, (d ar).run = some r → runs KP lib n 56 ar [] = some ⟨r, [], []⟩) : ∀ ar r, (E_spec_ValueOk n d ar).run = some r → runs KP lib n 56 ar [] = some ⟨r, [], []⟩ :=
  cent_ok (fun hs r h => by
    unfold FH_spec_ValueOk at h
    split at h
    · exact ⟨A_spec_ValueOk _ _ _, rfl, th_spec_ValueOk n _ _ _ r h⟩
    · cases h) hd
/-! ### spec.l1Ahead -/
def A_spec_l1Ahead (x0 : Int) (x1 : Int) (x2 : Int) (x3 : Int) : List AV := [(.agg [(.p (.i .i64 x0)), (.p (.i .i64 x1))]), (.agg [(.p (.i .i64 x2)), (.p (.i .i64 x3))])]
def O_spec_l1Ahead (r : Bool) : AV := (.c (.p (.b r)))
abbrev CT_spec_l1Ahead (n : Nat) : CTab := mkCT []
abbrev LT_spec_l1Ahead (n : Nat) : LTab := mkLT []
def T_spec_l1Ahead (n : Nat) (x0 : Int) (x1 : Int) (x2 : Int) (x3 : Int) : Tr (Bool) := (.ask ((decide (x1 < x3))) (.done true) (.ask ((x1 == x3)) (.done (decide (x0 < x2))) (.done false)))
def F_spec_l1Ahead : Nat → Int → Int → Int → Int → Option (Bool)
  | 0, _, _, _, _ => none
  | n + 1, x0, x1, x2, x3 => (T_spec_l1Ahead n x0 x1 x2 x3).run
theorem ft_spec_l1Ahead (n : Nat) (x0 : Int) (x1 : Int) (x2 : Int) (x3 : Int) : funT (CT_spec_l1Ahead n) (LT_spec_l1Ahead n) K_spec_l1Ahead (A_spec_l1Ahead x0 x1 x2 x3) = (T_spec_l1Ahead n x0 x1 x2 x3).bind fun r => .done (O_spec_l1Ahead r) := by kernel_rfl
theorem ct_spec_l1Ahead (n : Nat) : CTok (CT_spec_l1Ahead n) (runs KP lib n) := mkCT_nil
theorem th_spec_l1Ahead : ∀ (n : Nat) (x0 : Int) (x1 : Int) (x2 : Int) (x3 : Int) (r : Bool), F_spec_l1Ahead n x0 x1 x2 x3 = some r → runs KP lib n 57 (A_spec_l1Ahead x0 x1 x2 x3) [] = some ⟨O_spec_l1Ahead r, [], []⟩
  | 0, x0, x1, x2, x3, r, h => by cases h
  | n + 1, x0, x1, x2, x3, r, h => fun_step (kf := K_spec_l1Ahead) rfl (ct_spec_l1Ahead n) (noLoops rfl) (ft_spec_l1Ahead n x0 x1 x2 x3) h
def FH_spec_l1Ahead (n : Nat) : List (List (List Hv)) → Option (Bool)
  | [[[.i x0], [.i x1]], [[.i x2], [.i x3]]] => F_spec_l1Ahead n x0 x1 x2 x3
  | _ => none
def E_spec_l1Ahead (n : Nat) (d : List AV → Tr AV) : List AV → Tr AV := cent (A_spec_l1Ahead (0) (0) (0) (0)) (FH_spec_l1Ahead n) O_spec_l1Ahead d
theorem eo_spec_l1Ahead (n : Nat) {d : List AV → Tr AV} (hd : ∀ ar r, (d ar).run = some r → runs KP lib n 57 ar [] = some ⟨r, [], []⟩) : ∀ ar r, (E_spec_l1Ahead n d ar).run = some r → runs KP lib n 57 ar [] = some ⟨r, [], []⟩ :=
  cent_ok (fun hs r h => by
    unfold FH_spec_l1Ahead at h
    split at h
    · exact ⟨A_spec_l1Ahead _ _ _ _, rfl, th_spec_l1Ahead n _ _ _ _ r h⟩
    · cases h) hd
/-! ### spec.ValuesOk -/
def A_spec_ValuesOk (x0 : List (List PV)) : List AV := [(.c (.p (.ls x0)))]
def O_spec_ValuesOk (r : Bool) : AV := (.c (.p (.b r)))
abbrev CT_spec_ValuesOk (n : Nat) : CTab := mkCT [(55, E_spec_RefOk n (noEnt)), (56, E_spec_ValueOk n (noEnt)), (57, E_spec_l1Ahead n (noEnt))]
def S_spec_ValuesOk_29 (v : (List (List PV)) × Int) : St := ⟨[(0, (.c (.p (.ls v.1)))), (3, (.c (.p (.i .i64 v.2))))], [], []⟩
def B_spec_ValuesOk_29 (n : Nat) (v : (List (List PV)) × Int) : Tr (((List (List PV)) × Int) ⊕ ((Bool) ⊕ (Unit))) := (.ask ((decide (v.2 < (v.1.length : Int)))) (.ask (decide (0 ≤ v.2 ∧ v.2 < v.1.length)) (.opt (v.1[(v.2).toNat]?) fun e23 => (.ask (decide (e23.length = 5)) (.opt (cellI .i64 e23 0) fun y24 => (.opt (cellI .i64 e23 1) fun y25 => (.opt (F_spec_RefOk n y24 y25) fun r26 => (.ask ((!r26)) (.done (.inr (.inl (false)))) (.ask (decide (0 ≤ v.2 ∧ v.2 < v.1.length)) (.opt (v.1[(v.2).toNat]?) fun e27 => (.ask (decide (e27.length = 5)) (.opt (cellI .i64 e27 2) fun y28 => (.opt (cellI .i64 e27 3) fun y29 => (.opt (cellS e27 4) fun y30 => (.opt (F_spec_ValueOk n y28 y29 y30) fun r31 => (.ask ((!r31)) (.done (.inr (.inl (false)))) (.ask ((decide (v.2 > (0 : Int)))) (.ask (decide (0 ≤ (IntKind.i64.wrap (v.2 - (1 : Int))) ∧ (IntKind.i64.wrap (v.2 - (1 : Int))) < v.1.length)) (.opt (v.1[((IntKind.i64.wrap (v.2 - (1 : Int)))).toNat]?) fun e32 => (.ask (decide (e32.length = 5)) (.opt (cellI .i64 e32 0) fun y33 => (.opt (cellI .i64 e32 1) fun y34 => (.ask (decide (0 ≤ v.2 ∧ v.2 < v.1.length)) (.opt (v.1[(v.2).toNat]?) fun e35 => (.ask (decide (e35.length = 5)) (.opt (cellI .i64 e35 0) fun y36 => (.opt (cellI .i64 e35 1) fun y37 => (.opt (F_spec_l1Ahead n y33 y34 y36 y37) fun r38 => (.ask ((!r38)) (.done (.inr (.inl (false)))) (.done (.inl (v.1, (IntKind.i64.wrap (v.2 + (1 : Int)))))))))) .fail)) .fail))) .fail)) .fail) (.done (.inl (v.1, (IntKind.i64.wrap (v.2 + (1 : Int)))))))))))) .fail)) .fail))))) .fail)) .fail) (.done (.inr (.inr (())))))
def D_spec_ValuesOk_29 : ((Bool) ⊕ (Unit)) → Ex × St := fun | .inl r => (.ret, ⟨[(2, (.c (.p (.b r))))], [], []⟩) | .inr r => (fun r => ((.exit 0), ⟨[], [], []⟩)) r
def DT_spec_ValuesOk_29 : ((Bool) ⊕ (Unit)) → Tr (Ex × St) := fun r => .alt r (fun r => .done (.ret, ⟨[(2, (.c (.p (.b r))))], [], []⟩)) (fun r => .done ((.exit 0), ⟨[], [], []⟩))
def VH_spec_ValuesOk_29 : List (List (List Hv)) × List (List (List Hv)) → Option ((List (List PV)) × Int)
  | ([[[.r w0]], [[.i w1]]], []) => some (w0, w1)
  | _ => none
abbrev LE_spec_ValuesOk_29 (n : Nat) : St → Tr (Ex × St) := lent (S_spec_ValuesOk_29 ([], 0)) VH_spec_ValuesOk_29 (B_spec_ValuesOk_29 n) DT_spec_ValuesOk_29 n
abbrev LT_spec_ValuesOk (n : Nat) : LTab := mkLT [(29, LE_spec_ValuesOk_29 n)]
def T_spec_ValuesOk (n : Nat) (x0 : List (List PV)) : Tr (Bool) := (.ask ((decide ((x0.length : Int) > (120 : Int)))) (.done false) (.opt (loopF (B_spec_ValuesOk_29 n) n (x0, (0 : Int))) fun r39 => (.alt r39 (fun r40 => (.done r40)) (fun r41 => (.done true)))))
def F_spec_ValuesOk : Nat → List (List PV) → Option (Bool)
  | 0, _ => none
  | n + 1, x0 => (T_spec_ValuesOk n x0).run
theorem ft_spec_ValuesOk (n : Nat) (x0 : List (List PV)) : funT (CT_spec_ValuesOk n) (LT_spec_ValuesOk n) K_spec_ValuesOk (A_spec_ValuesOk x0) = (T_spec_ValuesOk n x0).bind fun r => .done (O_spec_ValuesOk r) := by kernel_rfl
theorem ct_spec_ValuesOk (n : Nat) : CTok (CT_spec_ValuesOk n) (runs KP lib n) := mkCT_cons (eo_spec_RefOk n (noEnt_ok)) (mkCT_cons (eo_spec_ValueOk n (noEnt_ok)) (mkCT_cons (eo_spec_l1Ahead n (noEnt_ok)) (mkCT_nil)))
theorem lt_spec_ValuesOk_29 (n : Nat) (v : (List (List PV)) × Int) : (evalCT (CT_spec_ValuesOk n) (mkLT []) K_spec_ValuesOk_L29 (S_spec_ValuesOk_29 v) []).bind (ltail [0, 3] [(.ret, [2]), ((.exit 0), [])]) = (B_spec_ValuesOk_29 n v).bind (lenc S_spec_ValuesOk_29 D_spec_ValuesOk_29) := by
  obtain ⟨w0, w1⟩ := v
  kernel_rfl
theorem le_spec_ValuesOk_29 (n : Nat) : LEok (runs KP lib n) n (29, [0, 3], [(.ret, [2]), ((.exit 0), [])], K_spec_ValuesOk_L29) (LE_spec_ValuesOk_29 n) := fun st e s h =>
  lent_ok (ct_spec_ValuesOk n) (noLoops rfl) (lt_spec_ValuesOk_29 n) (fun r => by
    rcases r with r | r <;> (intro h; cases h)) (fun r y h => by
    rcases r with r | r <;> (cases h; rfl)) (fun hs v h => by
    unfold VH_spec_ValuesOk_29 at h
    split at h <;> cases h
    rfl) h
theorem lo_spec_ValuesOk (n : Nat) : LTok (LT_spec_ValuesOk n) (runs KP lib n) n K_spec_ValuesOk.body := mkLT_ok (by
  intro x hx
  have hx : x ∈ ([(29, [0, 3], [(.ret, [2]), ((.exit 0), [])], K_spec_ValuesOk_L29)] : List (Nat × List Nat × List (Ex × List Nat) × KCode)) := hx
  simp only [List.mem_cons, List.not_mem_nil, or_false] at hx
  rcases hx with rfl
  · exact ⟨LE_spec_ValuesOk_29 n, fun st => rfl, le_spec_ValuesOk_29 n⟩)
theorem th_spec_ValuesOk : ∀ (n : Nat) (x0 : List (List PV)) (r : Bool), F_spec_ValuesOk n x0 = some r → runs KP lib n 13 (A_spec_ValuesOk x0) [] = some ⟨O_spec_ValuesOk r, [], []⟩
  | 0, x0, r, h => by cases h
  | n + 1, x0, r, h => fun_step (kf := K_spec_ValuesOk) rfl (ct_spec_ValuesOk n) (lo_spec_ValuesOk n) (ft_spec_ValuesOk n x0) h
def FH_spec_ValuesOk (n : Nat) : List (List (List Hv)) → Option (Bool)
  | [[[.r x0]]] => F_spec_ValuesOk n x0
  | _ => none
def E_spec_ValuesOk (n : Nat) (d : List AV → Tr AV) : List AV → Tr AV := cent (A_spec_ValuesOk ([])) (FH_spec_ValuesOk n) O_spec_ValuesOk d
theorem eo_spec_ValuesOk (n : Nat) {d : List AV → Tr AV} (hd : ∀ ar r, (d ar).run = some r → runs KP lib n 13 ar [] = some ⟨r, [], []⟩) : ∀ ar r, (E_spec_ValuesOk n d ar).run = some r → runs KP lib n 13 ar [] = some ⟨r, [], []⟩ :=
  cent_ok (fun hs r h => by
    unfold FH_spec_ValuesOk at h
    split at h
    · exact ⟨A_spec_ValuesOk _, rfl, th_spec_ValuesOk n _ r h⟩
    · cases h) hd
/-! ### spec.l6At -/
def A_spec_l6At (x0 : List (List PV)) (x1 : Int) (x2 : Int) : List AV := [(.c (.p (.ls x0))), (.agg [(.p (.i .i64 x1)), (.p (.i .i64 x2))])]
def O_spec_l6At (r : Int × Int × ByteArray) : AV := (.agg [(.p (.i .i64 r.1)), (.p (.i .i64 r.2.1)), (.p (.s r.2.2))])
abbrev CT_spec_l6At (n : Nat) : CTab := mkCT []
def S_spec_l6At_13 (v : (List (List PV)) × Int × Int × Int × Int × Int × ByteArray) : St := ⟨[(0, (.c (.p (.ls v.1)))), (3, (.c (.ptr 0 192 0 0 0))), (4, (.c (.ptr 0 256 0 0 0))), (5, (.c (.p (.i .i64 v.2.1))))], [(192, ⟨0, 2, 34, (.box [(.p (.i .i64 v.2.2.1)), (.p (.i .i64 v.2.2.2.1))])⟩), (256, ⟨0, 3, 32, (.box [(.p (.i .i64 v.2.2.2.2.1)), (.p (.i .i64 v.2.2.2.2.2.1)), (.p (.s v.2.2.2.2.2.2))])⟩)], []⟩
def B_spec_l6At_13 (n : Nat) (v : (List (List PV)) × Int × Int × Int × Int × Int × ByteArray) : Tr (((List (List PV)) × Int × Int × Int × Int × Int × ByteArray) ⊕ ((Int × Int × ByteArray) ⊕ (Int × Int × ByteArray))) := (.ask ((decide (v.2.1 < (v.1.length : Int)))) (.ask (decide (0 ≤ v.2.1 ∧ v.2.1 < v.1.length)) (.opt (v.1[(v.2.1).toNat]?) fun e43 => (.ask (decide (e43.length = 5)) (.opt (cellI .i64 e43 0) fun y44 => (.opt (cellI .i64 e43 1) fun y45 => (.ask (((y44 == v.2.2.1) && ((y45 == v.2.2.2.1) && true))) (.ask (decide (0 ≤ v.2.1 ∧ v.2.1 < v.1.length)) (.opt (v.1[(v.2.1).toNat]?) fun e46 => (.ask (decide (e46.length = 5)) (.opt (cellI .i64 e46 2) fun y47 => (.opt (cellI .i64 e46 3) fun y48 => (.opt (cellS e46 4) fun y49 => (.done (.inr (.inl ((y47, y48, y49)))))))) .fail)) .fail) (.done (.inl (v.1, (IntKind.i64.wrap (v.2.1 + (1 : Int))), v.2.2.1, v.2.2.2.1, v.2.2.2.2.1, v.2.2.2.2.2.1, v.2.2.2.2.2.2)))))) .fail)) .fail) (.done (.inr (.inr ((v.2.2.2.2.1, v.2.2.2.2.2.1, v.2.2.2.2.2.2))))))
def D_spec_l6At_13 : ((Int × Int × ByteArray) ⊕ (Int × Int × ByteArray)) → Ex × St := fun | .inl r => (.ret, ⟨[(4, (.c (.ptr 0 256 0 0 0)))], [(256, ⟨0, 3, 32, (.box [(.p (.i .i64 r.1)), (.p (.i .i64 r.2.1)), (.p (.s r.2.2))])⟩)], []⟩) | .inr r => (fun r => ((.exit 0), ⟨[(4, (.c (.ptr 0 256 0 0 0)))], [(256, ⟨0, 3, 32, (.box [(.p (.i .i64 r.1)), (.p (.i .i64 r.2.1)), (.p (.s r.2.2))])⟩)], []⟩)) r
def DT_spec_l6At_13 : ((Int × Int × ByteArray) ⊕ (Int × Int × ByteArray)) → Tr (Ex × St) := fun r => .alt r (fun r => .done (.ret, ⟨[(4, (.c (.ptr 0 256 0 0 0)))], [(256, ⟨0, 3, 32, (.box [(.p (.i .i64 r.1)), (.p (.i .i64 r.2.1)), (.p (.s r.2.2))])⟩)], []⟩)) (fun r => .done ((.exit 0), ⟨[(4, (.c (.ptr 0 256 0 0 0)))], [(256, ⟨0, 3, 32, (.box [(.p (.i .i64 r.1)), (.p (.i .i64 r.2.1)), (.p (.s r.2.2))])⟩)], []⟩))
def VH_spec_l6At_13 : List (List (List Hv)) × List (List (List Hv)) → Option ((List (List PV)) × Int × Int × Int × Int × Int × ByteArray)
  | ([[[.r w0]], [[]], [[]], [[.i w1]]], [[[.i w2], [.i w3]], [[.i w4], [.i w5], [.s w6]]]) => some (w0, w1, w2, w3, w4, w5, w6)
  | _ => none
abbrev LE_spec_l6At_13 (n : Nat) : St → Tr (Ex × St) := lent (S_spec_l6At_13 ([], 0, 0, 0, 0, 0, ⟨#[]⟩)) VH_spec_l6At_13 (B_spec_l6At_13 n) DT_spec_l6At_13 n
abbrev LT_spec_l6At (n : Nat) : LTab := mkLT [(13, LE_spec_l6At_13 n)]
def T_spec_l6At (n : Nat) (x0 : List (List PV)) (x1 : Int) (x2 : Int) : Tr (Int × Int × ByteArray) := (.opt (loopF (B_spec_l6At_13 n) n (x0, (0 : Int), x1, x2, (0 : Int), (0 : Int), (⟨#[]⟩ : ByteArray))) fun r50 => (.alt r50 (fun r51 => (.done (r51.1, r51.2.1, r51.2.2))) (fun r52 => (.done ((0 : Int), (0 : Int), (⟨#[]⟩ : ByteArray))))))
def F_spec_l6At : Nat → List (List PV) → Int → Int → Option (Int × Int × ByteArray)
  | 0, _, _, _ => none
  | n + 1, x0, x1, x2 => (T_spec_l6At n x0 x1 x2).run
theorem ft_spec_l6At (n : Nat) (x0 : List (List PV)) (x1 : Int) (x2 : Int) : funT (CT_spec_l6At n) (LT_spec_l6At n) K_spec_l6At (A_spec_l6At x0 x1 x2) = (T_spec_l6At n x0 x1 x2).bind fun r => .done (O_spec_l6At r) := by kernel_rfl
theorem ct_spec_l6At (n : Nat) : CTok (CT_spec_l6At n) (runs KP lib n) := mkCT_nil
theorem lt_spec_l6At_13 (n : Nat) (v : (List (List PV)) × Int × Int × Int × Int × Int × ByteArray) : (evalCT (CT_spec_l6At n) (mkLT []) K_spec_l6At_L13 (S_spec_l6At_13 v) []).bind (ltail [0, 3, 4, 5] [(.ret, [4]), ((.exit 0), [4])]) = (B_spec_l6At_13 n v).bind (lenc S_spec_l6At_13 D_spec_l6At_13) := by
  obtain ⟨w0, w1, w2, w3, w4, w5, w6⟩ := v
  kernel_rfl
theorem le_spec_l6At_13 (n : Nat) : LEok (runs KP lib n) n (13, [0, 3, 4, 5], [(.ret, [4]), ((.exit 0), [4])], K_spec_l6At_L13) (LE_spec_l6At_13 n) := fun st e s h =>
  lent_ok (ct_spec_l6At n) (noLoops rfl) (lt_spec_l6At_13 n) (fun r => by
    rcases r with r | r <;> (intro h; cases h)) (fun r y h => by
    rcases r with r | r <;> (cases h; rfl)) (fun hs v h => by
    unfold VH_spec_l6At_13 at h
    split at h <;> cases h
    rfl) h
theorem lo_spec_l6At (n : Nat) : LTok (LT_spec_l6At n) (runs KP lib n) n K_spec_l6At.body := mkLT_ok (by
  intro x hx
  have hx : x ∈ ([(13, [0, 3, 4, 5], [(.ret, [4]), ((.exit 0), [4])], K_spec_l6At_L13)] : List (Nat × List Nat × List (Ex × List Nat) × KCode)) := hx
  simp only [List.mem_cons, List.not_mem_nil, or_false] at hx
  rcases hx with rfl
  · exact ⟨LE_spec_l6At_13 n, fun st => rfl, le_spec_l6At_13 n⟩)
theorem th_spec_l6At : ∀ (n : Nat) (x0 : List (List PV)) (x1 : Int) (x2 : Int) (r : Int × Int × ByteArray), F_spec_l6At n x0 x1 x2 = some r → runs KP lib n 63 (A_spec_l6At x0 x1 x2) [] = some ⟨O_spec_l6At r, [], []⟩
  | 0, x0, x1, x2, r, h => by cases h
  | n + 1, x0, x1, x2, r, h => fun_step (kf := K_spec_l6At) rfl (ct_spec_l6At n) (lo_spec_l6At n) (ft_spec_l6At n x0 x1 x2) h
def FH_spec_l6At (n : Nat) : List (List (List Hv)) → Option (Int × Int × ByteArray)
  | [[[.r x0]], [[.i x1], [.i x2]]] => F_spec_l6At n x0 x1 x2
  | _ => none
def E_spec_l6At (n : Nat) (d : List AV → Tr AV) : List AV → Tr AV := cent (A_spec_l6At ([]) (0) (0)) (FH_spec_l6At n) O_spec_l6At d
theorem eo_spec_l6At (n : Nat) {d : List AV → Tr AV} (hd : ∀ ar r, (d ar).run = some r → runs KP lib n 63 ar [] = some ⟨r, [], []⟩) : ∀ ar r, (E_spec_l6At n d ar).run = some r → runs KP lib n 63 ar [] = some ⟨r, [], []⟩ :=
  cent_ok (fun hs r h => by
    unfold FH_spec_l6At at h
    split at h
    · exact ⟨A_spec_l6At _ _ _, rfl, th_spec_l6At n _ _ _ r h⟩
    · cases h) hd
/-! ### spec.Lookup -/
def A_spec_Lookup (x0 : List (List PV)) (x1 : Int) (x2 : Int) : List AV := [(.c (.p (.ls x0))), (.agg [(.p (.i .i64 x1)), (.p (.i .i64 x2))])]
def O_spec_Lookup (r : Int × Int × ByteArray) : AV := (.agg [(.p (.i .i64 r.1)), (.p (.i .i64 r.2.1)), (.p (.s r.2.2))])
abbrev CT_spec_Lookup (n : Nat) : CTab := mkCT [(13, E_spec_ValuesOk n (noEnt)), (63, E_spec_l6At n (noEnt))]
abbrev LT_spec_Lookup (n : Nat) : LTab := mkLT []
def T_spec_Lookup (n : Nat) (x0 : List (List PV)) (x1 : Int) (x2 : Int) : Tr (Int × Int × ByteArray) := (.opt (F_spec_ValuesOk n x0) fun r42 => (.ask ((!r42)) (.done ((0 : Int), (0 : Int), (⟨#[]⟩ : ByteArray))) (.opt (F_spec_l6At n x0 x1 x2) fun r53 => (.done (r53.1, r53.2.1, r53.2.2)))))
def F_spec_Lookup : Nat → List (List PV) → Int → Int → Option (Int × Int × ByteArray)
  | 0, _, _, _ => none
  | n + 1, x0, x1, x2 => (T_spec_Lookup n x0 x1 x2).run
theorem ft_spec_Lookup (n : Nat) (x0 : List (List PV)) (x1 : Int) (x2 : Int) : funT (CT_spec_Lookup n) (LT_spec_Lookup n) K_spec_Lookup (A_spec_Lookup x0 x1 x2) = (T_spec_Lookup n x0 x1 x2).bind fun r => .done (O_spec_Lookup r) := by kernel_rfl
theorem ct_spec_Lookup (n : Nat) : CTok (CT_spec_Lookup n) (runs KP lib n) := mkCT_cons (eo_spec_ValuesOk n (noEnt_ok)) (mkCT_cons (eo_spec_l6At n (noEnt_ok)) (mkCT_nil))
theorem th_spec_Lookup : ∀ (n : Nat) (x0 : List (List PV)) (x1 : Int) (x2 : Int) (r : Int × Int × ByteArray), F_spec_Lookup n x0 x1 x2 = some r → runs KP lib n 17 (A_spec_Lookup x0 x1 x2) [] = some ⟨O_spec_Lookup r, [], []⟩
  | 0, x0, x1, x2, r, h => by cases h
  | n + 1, x0, x1, x2, r, h => fun_step (kf := K_spec_Lookup) rfl (ct_spec_Lookup n) (noLoops rfl) (ft_spec_Lookup n x0 x1 x2) h
def FH_spec_Lookup (n : Nat) : List (List (List Hv)) → Option (Int × Int × ByteArray)
  | [[[.r x0]], [[.i x1], [.i x2]]] => F_spec_Lookup n x0 x1 x2
  | _ => none
def E_spec_Lookup (n : Nat) (d : List AV → Tr AV) : List AV → Tr AV := cent (A_spec_Lookup ([]) (0) (0)) (FH_spec_Lookup n) O_spec_Lookup d
theorem eo_spec_Lookup (n : Nat) {d : List AV → Tr AV} (hd : ∀ ar r, (d ar).run = some r → runs KP lib n 17 ar [] = some ⟨r, [], []⟩) : ∀ ar r, (E_spec_Lookup n d ar).run = some r → runs KP lib n 17 ar [] = some ⟨r, [], []⟩ :=
  cent_ok (fun hs r h => by
    unfold FH_spec_Lookup at h
    split at h
    · exact ⟨A_spec_Lookup _ _ _, rfl, th_spec_Lookup n _ _ _ r h⟩
    · cases h) hd
/-! ### impl.within -/
def A_impl_within (x0 : Int) (x1 : Int) (x2 : Int) : List AV := [(.c (.p (.i .i64 x0))), (.c (.p (.i .i64 x1))), (.c (.p (.i .i64 x2)))]
def O_impl_within (r : Bool) : AV := (.c (.p (.b r)))
abbrev CT_impl_within (n : Nat) : CTab := mkCT []
abbrev LT_impl_within (n : Nat) : LTab := mkLT []
def T_impl_within (n : Nat) (x0 : Int) (x1 : Int) (x2 : Int) : Tr (Bool) := (.ask ((decide (x0 ≥ x1))) (.done (decide (x0 ≤ x2))) (.done false))
def F_impl_within : Nat → Int → Int → Int → Option (Bool)
  | 0, _, _, _ => none
  | n + 1, x0, x1, x2 => (T_impl_within n x0 x1 x2).run
theorem ft_impl_within (n : Nat) (x0 : Int) (x1 : Int) (x2 : Int) : funT (CT_impl_within n) (LT_impl_within n) K_impl_within (A_impl_within x0 x1 x2) = (T_impl_within n x0 x1 x2).bind fun r => .done (O_impl_within r) := by kernel_rfl
theorem ct_impl_within (n : Nat) : CTok (CT_impl_within n) (runs KP lib n) := mkCT_nil
theorem th_impl_within : ∀ (n : Nat) (x0 : Int) (x1 : Int) (x2 : Int) (r : Bool), F_impl_within n x0 x1 x2 = some r → runs KP lib n 79 (A_impl_within x0 x1 x2) [] = some ⟨O_impl_within r, [], []⟩
  | 0, x0, x1, x2, r, h => by cases h
  | n + 1, x0, x1, x2, r, h => fun_step (kf := K_impl_within) rfl (ct_impl_within n) (noLoops rfl) (ft_impl_within n x0 x1 x2) h
def FH_impl_within (n : Nat) : List (List (List Hv)) → Option (Bool)
  | [[[.i x0]], [[.i x1]], [[.i x2]]] => F_impl_within n x0 x1 x2
  | _ => none
def E_impl_within (n : Nat) (d : List AV → Tr AV) : List AV → Tr AV := cent (A_impl_within (0) (0) (0)) (FH_impl_within n) O_impl_within d
theorem eo_impl_within (n : Nat) {d : List AV → Tr AV} (hd : ∀ ar r, (d ar).run = some r → runs KP lib n 79 ar [] = some ⟨r, [], []⟩) : ∀ ar r, (E_impl_within n d ar).run = some r → runs KP lib n 79 ar [] = some ⟨r, [], []⟩ :=
  cent_ok (fun hs r h => by
    unfold FH_impl_within at h
    split at h
    · exact ⟨A_impl_within _ _ _, rfl, th_impl_within n _ _ _ r h⟩
    · cases h) hd
/-! ### impl.RefOk -/
def A_impl_RefOk (x0 : Int) (x1 : Int) : List AV := [(.agg [(.p (.i .i64 x0)), (.p (.i .i64 x1))])]
def O_impl_RefOk (r : Bool) : AV := (.c (.p (.b r)))
abbrev CT_impl_RefOk (n : Nat) : CTab := mkCT [(79, E_impl_within n (noEnt))]
abbrev LT_impl_RefOk (n : Nat) : LTab := mkLT []
def T_impl_RefOk (n : Nat) (x0 : Int) (x1 : Int) : Tr (Bool) := (.opt (F_impl_within n x0 (1 : Int) (52 : Int)) fun r63 => (.ask (r63) (.opt (F_impl_within n x1 (1 : Int) (99 : Int)) fun r64 => (.done r64)) (.done false)))
def F_impl_RefOk : Nat → Int → Int → Option (Bool)
  | 0, _, _ => none
  | n + 1, x0, x1 => (T_impl_RefOk n x0 x1).run
theorem ft_impl_RefOk (n : Nat) (x0 : Int) (x1 : Int) : funT (CT_impl_RefOk n) (LT_impl_RefOk n) K_impl_RefOk (A_impl_RefOk x0 x1) = (T_impl_RefOk n x0 x1).bind fun r => .done (O_impl_RefOk r) := by kernel_rfl
theorem ct_impl_RefOk (n : Nat) : CTok (CT_impl_RefOk n) (runs KP lib n) := mkCT_cons (eo_impl_within n (noEnt_ok)) (mkCT_nil)
theorem th_impl_RefOk : ∀ (n : Nat) (x0 : Int) (x1 : Int) (r : Bool), F_impl_RefOk n x0 x1 = some r → runs KP lib n 59 (A_impl_RefOk x0 x1) [] = some ⟨O_impl_RefOk r, [], []⟩
  | 0, x0, x1, r, h => by cases h
  | n + 1, x0, x1, r, h => fun_step (kf := K_impl_RefOk) rfl (ct_impl_RefOk n) (noLoops rfl) (ft_impl_RefOk n x0 x1) h
def FH_impl_RefOk (n : Nat) : List (List (List Hv)) → Option (Bool)
  | [[[.i x0], [.i x1]]] => F_impl_RefOk n x0 x1
  | _ => none
def E_impl_RefOk (n : Nat) (d : List AV → Tr AV) : List AV → Tr AV := cent (A_impl_RefOk (0) (0)) (FH_impl_RefOk n) O_impl_RefOk d
theorem eo_impl_RefOk (n : Nat) {d : List AV → Tr AV} (hd : ∀ ar r, (d ar).run = some r → runs KP lib n 59 ar [] = some ⟨r, [], []⟩) : ∀ ar r, (E_impl_RefOk n d ar).run = some r → runs KP lib n 59 ar [] = some ⟨r, [], []⟩ :=
  cent_ok (fun hs r h => by
    unfold FH_impl_RefOk at h
    split at h
    · exact ⟨A_impl_RefOk _ _, rfl, th_impl_RefOk n _ _ r h⟩
    · cases h) hd
/-! ### cmp.isNaN[int64] -/
def A_cmp_isNaN_int64 (x0 : Int) : List AV := [(.c (.p (.i .i64 x0)))]
def O_cmp_isNaN_int64 (r : Bool) : AV := (.c (.p (.b r)))
abbrev CT_cmp_isNaN_int64 (n : Nat) : CTab := mkCT []
abbrev LT_cmp_isNaN_int64 (n : Nat) : LTab := mkLT []
def T_cmp_isNaN_int64 (n : Nat) (x0 : Int) : Tr (Bool) := (.done (x0 != x0))
def F_cmp_isNaN_int64 : Nat → Int → Option (Bool)
  | 0, _ => none
  | n + 1, x0 => (T_cmp_isNaN_int64 n x0).run
theorem ft_cmp_isNaN_int64 (n : Nat) (x0 : Int) : funT (CT_cmp_isNaN_int64 n) (LT_cmp_isNaN_int64 n) K_cmp_isNaN_int64 (A_cmp_isNaN_int64 x0) = (T_cmp_isNaN_int64 n x0).bind fun r => .done (O_cmp_isNaN_int64 r) := by kernel_rfl
theorem ct_cmp_isNaN_int64 (n : Nat) : CTok (CT_cmp_isNaN_int64 n) (runs KP lib n) := mkCT_nil
theorem th_cmp_isNaN_int64 : ∀ (n : Nat) (x0 : Int) (r : Bool), F_cmp_isNaN_int64 n x0 = some r → runs KP lib n 125 (A_cmp_isNaN_int64 x0) [] = some ⟨O_cmp_isNaN_int64 r, [], []⟩
  | 0, x0, r, h => by cases h
  | n + 1, x0, r, h => fun_step (kf := K_cmp_isNaN_int64) rfl (ct_cmp_isNaN_int64 n) (noLoops rfl) (ft_cmp_isNaN_int64 n x0) h
def FH_cmp_isNaN_int64 (n : Nat) : List (List (List Hv)) → Option (Bool)
  | [[[.i x0]]] => F_cmp_isNaN_int64 n x0
  | _ => none
def E_cmp_isNaN_int64 (n : Nat) (d : List AV → Tr AV) : List AV → Tr AV := cent (A_cmp_isNaN_int64 (0)) (FH_cmp_isNaN_int64 n) O_cmp_isNaN_int64 d
theorem eo_cmp_isNaN_int64 (n : Nat) {d : List AV → Tr AV} (hd : ∀ ar r, (d ar).run = some r → runs KP lib n 125 ar [] = some ⟨r, [], []⟩) : ∀ ar r, (E_cmp_isNaN_int64 n d ar).run = some r → runs KP lib n 125 ar [] = some ⟨r, [], []⟩ :=
  cent_ok (fun hs r h => by
    unfold FH_cmp_isNaN_int64 at h
    split at h
    · exact ⟨A_cmp_isNaN_int64 _, rfl, th_cmp_isNaN_int64 n _ r h⟩
    · cases h) hd
/-! ### cmp.Compare[int64] -/
def A_cmp_Compare_int64 (x0 : Int) (x1 : Int) : List AV := [(.c (.p (.i .i64 x0))), (.c (.p (.i .i64 x1)))]
def O_cmp_Compare_int64 (r : Int) : AV := (.c (.p (.i .i64 r)))
abbrev CT_cmp_Compare_int64 (n : Nat) : CTab := mkCT [(125, E_cmp_isNaN_int64 n (noEnt))]
abbrev LT_cmp_Compare_int64 (n : Nat) : LTab := mkLT []
def T_cmp_Compare_int64 (n : Nat) (x0 : Int) (x1 : Int) : Tr (Int) := (.opt (F_cmp_isNaN_int64 n x0) fun r69 => (.opt (F_cmp_isNaN_int64 n x1) fun r70 => (.ask (r69) (.ask (r70) (.done (0 : Int)) (.done (-1 : Int))) (.ask (r70) (.done (1 : Int)) (.ask ((decide (x0 < x1))) (.done (-1 : Int)) (.ask ((decide (x0 > x1))) (.done (1 : Int)) (.done (0 : Int))))))))
def F_cmp_Compare_int64 : Nat → Int → Int → Option (Int)
  | 0, _, _ => none
  | n + 1, x0, x1 => (T_cmp_Compare_int64 n x0 x1).run
theorem ft_cmp_Compare_int64 (n : Nat) (x0 : Int) (x1 : Int) : funT (CT_cmp_Compare_int64 n) (LT_cmp_Compare_int64 n) K_cmp_Compare_int64 (A_cmp_Compare_int64 x0 x1) = (T_cmp_Compare_int64 n x0 x1).bind fun r => .done (O_cmp_Compare_int64 r) := by kernel_rfl
theorem ct_cmp_Compare_int64 (n : Nat) : CTok (CT_cmp_Compare_int64 n) (runs KP lib n) := mkCT_cons (eo_cmp_isNaN_int64 n (noEnt_ok)) (mkCT_nil)
theorem th_cmp_Compare_int64 : ∀ (n : Nat) (x0 : Int) (x1 : Int) (r : Int), F_cmp_Compare_int64 n x0 x1 = some r → runs KP lib n 99 (A_cmp_Compare_int64 x0 x1) [] = some ⟨O_cmp_Compare_int64 r, [], []⟩
  | 0, x0, x1, r, h => by cases h
  | n + 1, x0, x1, r, h => fun_step (kf := K_cmp_Compare_int64) rfl (ct_cmp_Compare_int64 n) (noLoops rfl) (ft_cmp_Compare_int64 n x0 x1) h
def FH_cmp_Compare_int64 (n : Nat) : List (List (List Hv)) → Option (Int)
  | [[[.i x0]], [[.i x1]]] => F_cmp_Compare_int64 n x0 x1
  | _ => none
def E_cmp_Compare_int64 (n : Nat) (d : List AV → Tr AV) : List AV → Tr AV := cent (A_cmp_Compare_int64 (0) (0)) (FH_cmp_Compare_int64 n) O_cmp_Compare_int64 d
theorem eo_cmp_Compare_int64 (n : Nat) {d : List AV → Tr AV} (hd : ∀ ar r, (d ar).run = some r → runs KP lib n 99 ar [] = some ⟨r, [], []⟩) : ∀ ar r, (E_cmp_Compare_int64 n d ar).run = some r → runs KP lib n 99 ar [] = some ⟨r, [], []⟩ :=
  cent_ok (fun hs r h => by
    unfold FH_cmp_Compare_int64 at h
    split at h
    · exact ⟨A_cmp_Compare_int64 _ _, rfl, th_cmp_Compare_int64 n _ _ r h⟩
    · cases h) hd
/-! ### cmp.Or[int] -/
def A_cmp_Or_int (x0 : List (List PV)) : List AV := [(.c (.p (.ls x0)))]
def O_cmp_Or_int (r : Int) : AV := (.c (.p (.i .i64 r)))
abbrev CT_cmp_Or_int (n : Nat) : CTab := mkCT []
def S_cmp_Or_int_29 (v : Int × (List (List PV)) × Int × Int) : St := ⟨[(3, (.c (.p (.i .i64 v.1)))), (6, (.c (.p (.ls v.2.1)))), (7, (.c (.p (.i .i64 v.2.2.1)))), (8, (.c (.p (.i .i64 v.2.2.2))))], [], []⟩
def B_cmp_Or_int_29 (n : Nat) (v : Int × (List (List PV)) × Int × Int) : Tr ((Int × (List (List PV)) × Int × Int) ⊕ ((Int) ⊕ (Int))) := (.ask ((decide (v.2.2.2 < v.2.2.1))) (.ask (decide (0 ≤ v.2.2.2 ∧ v.2.2.2 < v.2.1.length)) (.opt (v.2.1[(v.2.2.2).toNat]?) fun e73 => (.ask (decide (e73.length = 1)) (.opt (cellI .i64 e73 0) fun y74 => (.ask ((y74 != v.1)) (.done (.inr (.inl (y74)))) (.done (.inl (v.1, v.2.1, v.2.2.1, (IntKind.i64.wrap (v.2.2.2 + (1 : Int)))))))) .fail)) .fail) (.done (.inr (.inr (v.1)))))
def D_cmp_Or_int_29 : ((Int) ⊕ (Int)) → Ex × St := fun | .inl r => (.ret, ⟨[(2, (.c (.p (.i .i64 r))))], [], []⟩) | .inr r => (fun r => ((.exit 0), ⟨[(3, (.c (.p (.i .i64 r))))], [], []⟩)) r
def DT_cmp_Or_int_29 : ((Int) ⊕ (Int)) → Tr (Ex × St) := fun r => .alt r (fun r => .done (.ret, ⟨[(2, (.c (.p (.i .i64 r))))], [], []⟩)) (fun r => .done ((.exit 0), ⟨[(3, (.c (.p (.i .i64 r))))], [], []⟩))
def VH_cmp_Or_int_29 : List (List (List Hv)) × List (List (List Hv)) → Option (Int × (List (List PV)) × Int × Int)
  | ([[[.i w0]], [[.r w1]], [[.i w2]], [[.i w3]]], []) => some (w0, w1, w2, w3)
  | _ => none
abbrev LE_cmp_Or_int_29 (n : Nat) : St → Tr (Ex × St) := lent (S_cmp_Or_int_29 (0, [], 0, 0)) VH_cmp_Or_int_29 (B_cmp_Or_int_29 n) DT_cmp_Or_int_29 n
abbrev LT_cmp_Or_int (n : Nat) : LTab := mkLT [(29, LE_cmp_Or_int_29 n)]
def T_cmp_Or_int (n : Nat) (x0 : List (List PV)) : Tr (Int) := (.opt (loopF (B_cmp_Or_int_29 n) n ((0 : Int), x0, (x0.length : Int), (0 : Int))) fun r75 => (.alt r75 (fun r76 => (.done r76)) (fun r77 => (.done r77))))
def F_cmp_Or_int : Nat → List (List PV) → Option (Int)
  | 0, _ => none
  | n + 1, x0 => (T_cmp_Or_int n x0).run
theorem ft_cmp_Or_int (n : Nat) (x0 : List (List PV)) : funT (CT_cmp_Or_int n) (LT_cmp_Or_int n) K_cmp_Or_int (A_cmp_Or_int x0) = (T_cmp_Or_int n x0).bind fun r => .done (O_cmp_Or_int r) := by kernel_rfl
theorem ct_cmp_Or_int (n : Nat) : CTok (CT_cmp_Or_int n) (runs KP lib n) := mkCT_nil
theorem lt_cmp_Or_int_29 (n : Nat) (v : Int × (List (List PV)) × Int × Int) : (evalCT (CT_cmp_Or_int n) (mkLT []) K_cmp_Or_int_L29 (S_cmp_Or_int_29 v) []).bind (ltail [3, 6, 7, 8] [(.ret, [2]), ((.exit 0), [3])]) = (B_cmp_Or_int_29 n v).bind (lenc S_cmp_Or_int_29 D_cmp_Or_int_29) := by
  obtain ⟨w0, w1, w2, w3⟩ := v
  kernel_rfl
theorem le_cmp_Or_int_29 (n : Nat) : LEok (runs KP lib n) n (29, [3, 6, 7, 8], [(.ret, [2]), ((.exit 0), [3])], K_cmp_Or_int_L29) (LE_cmp_Or_int_29 n) := fun st e s h =>
  lent_ok (ct_cmp_Or_int n) (noLoops rfl) (lt_cmp_Or_int_29 n) (fun r => by
    rcases r with r | r <;> (intro h; cases h)) (fun r y h => by
    rcases r with r | r <;> (cases h; rfl)) (fun hs v h => by
    unfold VH_cmp_Or_int_29 at h
    split at h <;> cases h
    rfl) h
theorem lo_cmp_Or_int (n : Nat) : LTok (LT_cmp_Or_int n) (runs KP lib n) n K_cmp_Or_int.body := mkLT_ok (by
  intro x hx
  have hx : x ∈ ([(29, [3, 6, 7, 8], [(.ret, [2]), ((.exit 0), [3])], K_cmp_Or_int_L29)] : List (Nat × List Nat × List (Ex × List Nat) × KCode)) := hx
  simp only [List.mem_cons, List.not_mem_nil, or_false] at hx
  rcases hx with rfl
  · exact ⟨LE_cmp_Or_int_29 n, fun st => rfl, le_cmp_Or_int_29 n⟩)
theorem th_cmp_Or_int : ∀ (n : Nat) (x0 : List (List PV)) (r : Int), F_cmp_Or_int n x0 = some r → runs KP lib n 98 (A_cmp_Or_int x0) [] = some ⟨O_cmp_Or_int r, [], []⟩
  | 0, x0, r, h => by cases h
  | n + 1, x0, r, h => fun_step (kf := K_cmp_Or_int) rfl (ct_cmp_Or_int n) (lo_cmp_Or_int n) (ft_cmp_Or_int n x0) h
def FH_cmp_Or_int (n : Nat) : List (List (List Hv)) → Option (Int)
  | [[[.r x0]]] => F_cmp_Or_int n x0
  | _ => none
def E_cmp_Or_int (n : Nat) (d : List AV → Tr AV) : List AV → Tr AV := cent (A_cmp_Or_int ([])) (FH_cmp_Or_int n) O_cmp_Or_int d
theorem eo_cmp_Or_int (n : Nat) {d : List AV → Tr AV} (hd : ∀ ar r, (d ar).run = some r → runs KP lib n 98 ar [] = some ⟨r, [], []⟩) : ∀ ar r, (E_cmp_Or_int n d ar).run = some r → runs KP lib n 98 ar [] = some ⟨r, [], []⟩ :=
  cent_ok (fun hs r h => by
    unfold FH_cmp_Or_int at h
    split at h
    · exact ⟨A_cmp_Or_int _, rfl, th_cmp_Or_int n _ r h⟩
    · cases h) hd
/-! ### impl.compareRefs -/
def A_impl_compareRefs (x0 : Int) (x1 : Int) (x2 : Int) (x3 : Int) : List AV := [(.agg [(.p (.i .i64 x0)), (.p (.i .i64 x1))]), (.agg [(.p (.i .i64 x2)), (.p (.i .i64 x3))])]
def O_impl_compareRefs (r : Int) : AV := (.c (.p (.i .i64 r)))
abbrev CT_impl_compareRefs (n : Nat) : CTab := mkCT [(99, E_cmp_Compare_int64 n (noEnt)), (98, E_cmp_Or_int n (noEnt))]
abbrev LT_impl_compareRefs (n : Nat) : LTab := mkLT []
def T_impl_compareRefs (n : Nat) (x0 : Int) (x1 : Int) (x2 : Int) (x3 : Int) : Tr (Int) := (.opt (F_cmp_Compare_int64 n x1 x3) fun r71 => (.opt (F_cmp_Compare_int64 n x0 x2) fun r72 => (.ask (decide (2 = ([[(.i .i64 r71)], [(.i .i64 r72)]] : List (List PV)).length)) (.opt (F_cmp_Or_int n ([[(.i .i64 r71)], [(.i .i64 r72)]] : List (List PV))) fun r78 => (.done r78)) .fail)))
def F_impl_compareRefs : Nat → Int → Int → Int → Int → Option (Int)
  | 0, _, _, _, _ => none
  | n + 1, x0, x1, x2, x3 => (T_impl_compareRefs n x0 x1 x2 x3).run
theorem ft_impl_compareRefs (n : Nat) (x0 : Int) (x1 : Int) (x2 : Int) (x3 : Int) : funT (CT_impl_compareRefs n) (LT_impl_compareRefs n) K_impl_compareRefs (A_impl_compareRefs x0 x1 x2 x3) = (T_impl_compareRefs n x0 x1 x2 x3).bind fun r => .done (O_impl_compareRefs r) := by kernel_rfl
theorem ct_impl_compareRefs (n : Nat) : CTok (CT_impl_compareRefs n) (runs KP lib n) := mkCT_cons (eo_cmp_Compare_int64 n (noEnt_ok)) (mkCT_cons (eo_cmp_Or_int n (noEnt_ok)) (mkCT_nil))
theorem th_impl_compareRefs : ∀ (n : Nat) (x0 : Int) (x1 : Int) (x2 : Int) (x3 : Int) (r : Int), F_impl_compareRefs n x0 x1 x2 x3 = some r → runs KP lib n 60 (A_impl_compareRefs x0 x1 x2 x3) [] = some ⟨O_impl_compareRefs r, [], []⟩
  | 0, x0, x1, x2, x3, r, h => by cases h
  | n + 1, x0, x1, x2, x3, r, h => fun_step (kf := K_impl_compareRefs) rfl (ct_impl_compareRefs n) (noLoops rfl) (ft_impl_compareRefs n x0 x1 x2 x3) h
def FH_impl_compareRefs (n : Nat) : List (List (List Hv)) → Option (Int)
  | [[[.i x0], [.i x1]], [[.i x2], [.i x3]]] => F_impl_compareRefs n x0 x1 x2 x3
  | _ => none
def E_impl_compareRefs (n : Nat) (d : List AV → Tr AV) : List AV → Tr AV := cent (A_impl_compareRefs (0) (0) (0) (0)) (FH_impl_compareRefs n) O_impl_compareRefs d
theorem eo_impl_compareRefs (n : Nat) {d : List AV → Tr AV} (hd : ∀ ar r, (d ar).run = some r → runs KP lib n 60 ar [] = some ⟨r, [], []⟩) : ∀ ar r, (E_impl_compareRefs n d ar).run = some r → runs KP lib n 60 ar [] = some ⟨r, [], []⟩ :=
  cent_ok (fun hs r h => by
    unfold FH_impl_compareRefs at h
    split at h
    · exact ⟨A_impl_compareRefs _ _ _ _, rfl, th_impl_compareRefs n _ _ _ _ r h⟩
    · cases h) hd
/-! ### impl.isText -/
def A_impl_isText (x0 : ByteArray) (x1 : Int) : List AV := [(.c (.p (.s x0))), (.c (.p (.i .i64 x1)))]
def O_impl_isText (r : Bool) : AV := (.c (.p (.b r)))
abbrev CT_impl_isText (n : Nat) : CTab := mkCT []
def S_impl_isText_13 (v : ByteArray × Int × Int × Int) : St := ⟨[(0, (.c (.p (.s v.1)))), (1, (.c (.p (.i .i64 v.2.1)))), (7, (.c (.p (.i .i64 v.2.2.1)))), (8, (.c (.p (.i .i64 v.2.2.2))))], [], []⟩
def B_impl_isText_13 (n : Nat) (v : ByteArray × Int × Int × Int) : Tr ((ByteArray × Int × Int × Int) ⊕ ((Bool) ⊕ (ByteArray × Int))) := (.ask ((decide (v.2.2.2 < v.2.2.1))) (.ask (decide (0 ≤ v.2.2.2)) (.opt (v.1.toList[(v.2.2.2).toNat]?) fun c80 => (.ask ((decide ((c80.toNat : Int) < (32 : Int)))) (.done (.inr (.inl (false)))) (.ask (decide (0 ≤ v.2.2.2)) (.opt (v.1.toList[(v.2.2.2).toNat]?) fun c81 => (.ask ((decide ((c81.toNat : Int) > (126 : Int)))) (.done (.inr (.inl (false)))) (.done (.inl (v.1, v.2.1, v.2.2.1, (IntKind.i64.wrap (v.2.2.2 + (1 : Int)))))))) .fail))) .fail) (.done (.inr (.inr ((v.1, v.2.1))))))
def D_impl_isText_13 : ((Bool) ⊕ (ByteArray × Int)) → Ex × St := fun | .inl r => (.ret, ⟨[(4, (.c (.p (.b r))))], [], []⟩) | .inr r => (fun r => ((.exit 0), ⟨[(0, (.c (.p (.s r.1)))), (1, (.c (.p (.i .i64 r.2))))], [], []⟩)) r
def DT_impl_isText_13 : ((Bool) ⊕ (ByteArray × Int)) → Tr (Ex × St) := fun r => .alt r (fun r => .done (.ret, ⟨[(4, (.c (.p (.b r))))], [], []⟩)) (fun r => .done ((.exit 0), ⟨[(0, (.c (.p (.s r.1)))), (1, (.c (.p (.i .i64 r.2))))], [], []⟩))
def VH_impl_isText_13 : List (List (List Hv)) × List (List (List Hv)) → Option (ByteArray × Int × Int × Int)
  | ([[[.s w0]], [[.i w1]], [[.i w2]], [[.i w3]]], []) => some (w0, w1, w2, w3)
  | _ => none
abbrev LE_impl_isText_13 (n : Nat) : St → Tr (Ex × St) := lent (S_impl_isText_13 (⟨#[]⟩, 0, 0, 0)) VH_impl_isText_13 (B_impl_isText_13 n) DT_impl_isText_13 n
abbrev LT_impl_isText (n : Nat) : LTab := mkLT [(13, LE_impl_isText_13 n)]
def T_impl_isText (n : Nat) (x0 : ByteArray) (x1 : Int) : Tr (Bool) := (.opt (loopF (B_impl_isText_13 n) n (x0, x1, (x0.size : Int), (0 : Int))) fun r82 => (.alt r82 (fun r83 => (.done r83)) (fun r84 => (.done (decide ((r84.1.size : Int) ≤ r84.2))))))
def F_impl_isText : Nat → ByteArray → Int → Option (Bool)
  | 0, _, _ => none
  | n + 1, x0, x1 => (T_impl_isText n x0 x1).run
theorem ft_impl_isText (n : Nat) (x0 : ByteArray) (x1 : Int) : funT (CT_impl_isText n) (LT_impl_isText n) K_impl_isText (A_impl_isText x0 x1) = (T_impl_isText n x0 x1).bind fun r => .done (O_impl_isText r) := by kernel_rfl
theorem ct_impl_isText (n : Nat) : CTok (CT_impl_isText n) (runs KP lib n) := mkCT_nil
theorem lt_impl_isText_13 (n : Nat) (v : ByteArray × Int × Int × Int) : (evalCT (CT_impl_isText n) (mkLT []) K_impl_isText_L13 (S_impl_isText_13 v) []).bind (ltail [0, 1, 7, 8] [(.ret, [4]), ((.exit 0), [0, 1])]) = (B_impl_isText_13 n v).bind (lenc S_impl_isText_13 D_impl_isText_13) := by
  obtain ⟨w0, w1, w2, w3⟩ := v
  kernel_rfl
theorem le_impl_isText_13 (n : Nat) : LEok (runs KP lib n) n (13, [0, 1, 7, 8], [(.ret, [4]), ((.exit 0), [0, 1])], K_impl_isText_L13) (LE_impl_isText_13 n) := fun st e s h =>
  lent_ok (ct_impl_isText n) (noLoops rfl) (lt_impl_isText_13 n) (fun r => by
    rcases r with r | r <;> (intro h; cases h)) (fun r y h => by
    rcases r with r | r <;> (cases h; rfl)) (fun hs v h => by
    unfold VH_impl_isText_13 at h
    split at h <;> cases h
    rfl) h
theorem lo_impl_isText (n : Nat) : LTok (LT_impl_isText n) (runs KP lib n) n K_impl_isText.body := mkLT_ok (by
  intro x hx
  have hx : x ∈ ([(13, [0, 1, 7, 8], [(.ret, [4]), ((.exit 0), [0, 1])], K_impl_isText_L13)] : List (Nat × List Nat × List (Ex × List Nat) × KCode)) := hx
  simp only [List.mem_cons, List.not_mem_nil, or_false] at hx
  rcases hx with rfl
  · exact ⟨LE_impl_isText_13 n, fun st => rfl, le_impl_isText_13 n⟩)
theorem th_impl_isText : ∀ (n : Nat) (x0 : ByteArray) (x1 : Int) (r : Bool), F_impl_isText n x0 x1 = some r → runs KP lib n 100 (A_impl_isText x0 x1) [] = some ⟨O_impl_isText r, [], []⟩
  | 0, x0, x1, r, h => by cases h
  | n + 1, x0, x1, r, h => fun_step (kf := K_impl_isText) rfl (ct_impl_isText n) (lo_impl_isText n) (ft_impl_isText n x0 x1) h
def FH_impl_isText (n : Nat) : List (List (List Hv)) → Option (Bool)
  | [[[.s x0]], [[.i x1]]] => F_impl_isText n x0 x1
  | _ => none
def E_impl_isText (n : Nat) (d : List AV → Tr AV) : List AV → Tr AV := cent (A_impl_isText (⟨#[]⟩) (0)) (FH_impl_isText n) O_impl_isText d
theorem eo_impl_isText (n : Nat) {d : List AV → Tr AV} (hd : ∀ ar r, (d ar).run = some r → runs KP lib n 100 ar [] = some ⟨r, [], []⟩) : ∀ ar r, (E_impl_isText n d ar).run = some r → runs KP lib n 100 ar [] = some ⟨r, [], []⟩ :=
  cent_ok (fun hs r h => by
    unfold FH_impl_isText at h
    split at h
    · exact ⟨A_impl_isText _ _, rfl, th_impl_isText n _ _ r h⟩
    · cases h) hd
/-! ### impl.ValueOk -/
def A_impl_ValueOk (x0 : Int) (x1 : Int) (x2 : ByteArray) : List AV := [(.agg [(.p (.i .i64 x0)), (.p (.i .i64 x1)), (.p (.s x2))])]
def O_impl_ValueOk (r : Bool) : AV := (.c (.p (.b r)))
abbrev CT_impl_ValueOk (n : Nat) : CTab := mkCT [(100, E_impl_isText n (noEnt)), (79, E_impl_within n (noEnt))]
abbrev LT_impl_ValueOk (n : Nat) : LTab := mkLT []
def T_impl_ValueOk (n : Nat) (x0 : Int) (x1 : Int) (x2 : ByteArray) : Tr (Bool) := (.ask ((x0 == (2 : Int))) (.ask ((x1 == (0 : Int))) (.opt (F_impl_isText n x2 (200 : Int)) fun r85 => (.done r85)) (.done false)) (.ask ((!(x2.toList == (⟨#[]⟩ : ByteArray).toList))) (.done false) (.ask ((x0 == (0 : Int))) (.done (x1 == (0 : Int))) (.ask ((x0 == (1 : Int))) (.opt (F_impl_within n x1 (-1000000000000000 : Int) (1000000000000000 : Int)) fun r86 => (.done r86)) (.ask ((x0 == (3 : Int))) (.opt (F_impl_within n x1 (0 : Int) (1 : Int)) fun r87 => (.done r87)) (.ask ((x0 == (4 : Int))) (.opt (F_impl_within n x1 (1 : Int) (5 : Int)) fun r88 => (.done r88)) (.done false)))))))
def F_impl_ValueOk : Nat → Int → Int → ByteArray → Option (Bool)
  | 0, _, _, _ => none
  | n + 1, x0, x1, x2 => (T_impl_ValueOk n x0 x1 x2).run
theorem ft_impl_ValueOk (n : Nat) (x0 : Int) (x1 : Int) (x2 : ByteArray) : funT (CT_impl_ValueOk n) (LT_impl_ValueOk n) K_impl_ValueOk (A_impl_ValueOk x0 x1 x2) = (T_impl_ValueOk n x0 x1 x2).bind fun r => .done (O_impl_ValueOk r) := by kernel_rfl
theorem ct_impl_ValueOk (n : Nat) : CTok (CT_impl_ValueOk n) (runs KP lib n) := mkCT_cons (eo_impl_isText n (noEnt_ok)) (mkCT_cons (eo_impl_within n (noEnt_ok)) (mkCT_nil))
theorem th_impl_ValueOk : ∀ (n : Nat) (x0 : Int) (x1 : Int) (x2 : ByteArray) (r : Bool), F_impl_ValueOk n x0 x1 x2 = some r → runs KP lib n 61 (A_impl_ValueOk x0 x1 x2) [] = some ⟨O_impl_ValueOk r, [], []⟩
  | 0, x0, x1, x2, r, h => by cases h
  | n + 1, x0, x1, x2, r, h => fun_step (kf := K_impl_ValueOk) rfl (ct_impl_ValueOk n) (noLoops rfl) (ft_impl_ValueOk n x0 x1 x2) h
def FH_impl_ValueOk (n : Nat) : List (List (List Hv)) → Option (Bool)
  | [[[.i x0], [.i x1], [.s x2]]] => F_impl_ValueOk n x0 x1 x2
  | _ => none
def E_impl_ValueOk (n : Nat) (d : List AV → Tr AV) : List AV → Tr AV := cent (A_impl_ValueOk (0) (0) (⟨#[]⟩)) (FH_impl_ValueOk n) O_impl_ValueOk d
theorem eo_impl_ValueOk (n : Nat) {d : List AV → Tr AV} (hd : ∀ ar r, (d ar).run = some r → runs KP lib n 61 ar [] = some ⟨r, [], []⟩) : ∀ ar r, (E_impl_ValueOk n d ar).run = some r → runs KP lib n 61 ar [] = some ⟨r, [], []⟩ :=
  cent_ok (fun hs r h => by
    unfold FH_impl_ValueOk at h
    split at h
    · exact ⟨A_impl_ValueOk _ _ _, rfl, th_impl_ValueOk n _ _ _ r h⟩
    · cases h) hd
/-! ### impl.ValuesOk -/
def A_impl_ValuesOk (x0 : List (List PV)) : List AV := [(.c (.p (.ls x0)))]
def O_impl_ValuesOk (r : Bool) : AV := (.c (.p (.b r)))
abbrev CT_impl_ValuesOk (n : Nat) : CTab := mkCT [(59, E_impl_RefOk n (noEnt)), (60, E_impl_compareRefs n (noEnt)), (61, E_impl_ValueOk n (noEnt))]
def S_impl_ValuesOk_13 (v : (List (List PV)) × (List (List PV)) × Int × Int) : St := ⟨[(0, (.c (.p (.ls v.1)))), (5, (.c (.p (.ls v.2.1)))), (6, (.c (.p (.i .i64 v.2.2.1)))), (7, (.c (.p (.i .i64 v.2.2.2))))], [], []⟩
def B_impl_ValuesOk_13 (n : Nat) (v : (List (List PV)) × (List (List PV)) × Int × Int) : Tr (((List (List PV)) × (List (List PV)) × Int × Int) ⊕ ((Bool) ⊕ ((List (List PV))))) := (.ask ((decide (v.2.2.2 < v.2.2.1))) (.ask (decide (0 ≤ v.2.2.2 ∧ v.2.2.2 < v.2.1.length)) (.opt (v.2.1[(v.2.2.2).toNat]?) fun e57 => (.ask (decide (e57.length = 5)) (.opt (cellI .i64 e57 0) fun y58 => (.opt (cellI .i64 e57 1) fun y59 => (.opt (cellI .i64 e57 2) fun y60 => (.opt (cellI .i64 e57 3) fun y61 => (.opt (cellS e57 4) fun y62 => (.opt (F_impl_RefOk n y58 y59) fun r63 => (.ask ((!r63)) (.done (.inr (.inl (false)))) (.ask ((decide (v.2.2.2 > (0 : Int)))) (.ask (decide (0 ≤ (IntKind.i64.wrap (v.2.2.2 - (1 : Int))) ∧ (IntKind.i64.wrap (v.2.2.2 - (1 : Int))) < v.1.length)) (.opt (v.1[((IntKind.i64.wrap (v.2.2.2 - (1 : Int)))).toNat]?) fun e64 => (.ask (decide (e64.length = 5)) (.opt (cellI .i64 e64 0) fun y65 => (.opt (cellI .i64 e64 1) fun y66 => (.opt (F_impl_compareRefs n y65 y66 y58 y59) fun r67 => (.ask ((decide (r67 ≥ (0 : Int)))) (.done (.inr (.inl (false)))) (.opt (F_impl_ValueOk n y60 y61 y62) fun r68 => (.ask ((!r68)) (.done (.inr (.inl (false)))) (.done (.inl (v.1, v.2.1, v.2.2.1, (IntKind.i64.wrap (v.2.2.2 + (1 : Int)))))))))))) .fail)) .fail) (.opt (F_impl_ValueOk n y60 y61 y62) fun r69 => (.ask ((!r69)) (.done (.inr (.inl (false)))) (.done (.inl (v.1, v.2.1, v.2.2.1, (IntKind.i64.wrap (v.2.2.2 + (1 : Int)))))))))))))))) .fail)) .fail) (.done (.inr (.inr (v.1)))))
def D_impl_ValuesOk_13 : ((Bool) ⊕ ((List (List PV)))) → Ex × St := fun | .inl r => (.ret, ⟨[(2, (.c (.p (.b r))))], [], []⟩) | .inr r => (fun r => ((.exit 0), ⟨[(0, (.c (.p (.ls r))))], [], []⟩)) r
def DT_impl_ValuesOk_13 : ((Bool) ⊕ ((List (List PV)))) → Tr (Ex × St) := fun r => .alt r (fun r => .done (.ret, ⟨[(2, (.c (.p (.b r))))], [], []⟩)) (fun r => .done ((.exit 0), ⟨[(0, (.c (.p (.ls r))))], [], []⟩))
def VH_impl_ValuesOk_13 : List (List (List Hv)) × List (List (List Hv)) → Option ((List (List PV)) × (List (List PV)) × Int × Int)
  | ([[[.r w0]], [[.r w1]], [[.i w2]], [[.i w3]]], []) => some (w0, w1, w2, w3)
  | _ => none
abbrev LE_impl_ValuesOk_13 (n : Nat) : St → Tr (Ex × St) := lent (S_impl_ValuesOk_13 ([], [], 0, 0)) VH_impl_ValuesOk_13 (B_impl_ValuesOk_13 n) DT_impl_ValuesOk_13 n
abbrev LT_impl_ValuesOk (n : Nat) : LTab := mkLT [(13, LE_impl_ValuesOk_13 n)]
def T_impl_ValuesOk (n : Nat) (x0 : List (List PV)) : Tr (Bool) := (.opt (loopF (B_impl_ValuesOk_13 n) n (x0, x0, (x0.length : Int), (0 : Int))) fun r70 => (.alt r70 (fun r71 => (.done r71)) (fun r72 => (.done (decide ((r72.length : Int) ≤ (120 : Int)))))))
def F_impl_ValuesOk : Nat → List (List PV) → Option (Bool)
  | 0, _ => none
  | n + 1, x0 => (T_impl_ValuesOk n x0).run
theorem ft_impl_ValuesOk (n : Nat) (x0 : List (List PV)) : funT (CT_impl_ValuesOk n) (LT_impl_ValuesOk n) K_impl_ValuesOk (A_impl_ValuesOk x0) = (T_impl_ValuesOk n x0).bind fun r => .done (O_impl_ValuesOk r) := by kernel_rfl
theorem ct_impl_ValuesOk (n : Nat) : CTok (CT_impl_ValuesOk n) (runs KP lib n) := mkCT_cons (eo_impl_RefOk n (noEnt_ok)) (mkCT_cons (eo_impl_compareRefs n (noEnt_ok)) (mkCT_cons (eo_impl_ValueOk n (noEnt_ok)) (mkCT_nil)))
theorem lt_impl_ValuesOk_13 (n : Nat) (v : (List (List PV)) × (List (List PV)) × Int × Int) : (evalCT (CT_impl_ValuesOk n) (mkLT []) K_impl_ValuesOk_L13 (S_impl_ValuesOk_13 v) []).bind (ltail [0, 5, 6, 7] [(.ret, [2]), ((.exit 0), [0])]) = (B_impl_ValuesOk_13 n v).bind (lenc S_impl_ValuesOk_13 D_impl_ValuesOk_13) := by
  obtain ⟨w0, w1, w2, w3⟩ := v
  kernel_rfl
theorem le_impl_ValuesOk_13 (n : Nat) : LEok (runs KP lib n) n (13, [0, 5, 6, 7], [(.ret, [2]), ((.exit 0), [0])], K_impl_ValuesOk_L13) (LE_impl_ValuesOk_13 n) := fun st e s h =>
  lent_ok (ct_impl_ValuesOk n) (noLoops rfl) (lt_impl_ValuesOk_13 n) (fun r => by
    rcases r with r | r <;> (intro h; cases h)) (fun r y h => by
    rcases r with r | r <;> (cases h; rfl)) (fun hs v h => by
    unfold VH_impl_ValuesOk_13 at h
    split at h <;> cases h
    rfl) h
theorem lo_impl_ValuesOk (n : Nat) : LTok (LT_impl_ValuesOk n) (runs KP lib n) n K_impl_ValuesOk.body := mkLT_ok (by
  intro x hx
  have hx : x ∈ ([(13, [0, 5, 6, 7], [(.ret, [2]), ((.exit 0), [0])], K_impl_ValuesOk_L13)] : List (Nat × List Nat × List (Ex × List Nat) × KCode)) := hx
  simp only [List.mem_cons, List.not_mem_nil, or_false] at hx
  rcases hx with rfl
  · exact ⟨LE_impl_ValuesOk_13 n, fun st => rfl, le_impl_ValuesOk_13 n⟩)
theorem th_impl_ValuesOk : ∀ (n : Nat) (x0 : List (List PV)) (r : Bool), F_impl_ValuesOk n x0 = some r → runs KP lib n 15 (A_impl_ValuesOk x0) [] = some ⟨O_impl_ValuesOk r, [], []⟩
  | 0, x0, r, h => by cases h
  | n + 1, x0, r, h => fun_step (kf := K_impl_ValuesOk) rfl (ct_impl_ValuesOk n) (lo_impl_ValuesOk n) (ft_impl_ValuesOk n x0) h
def FH_impl_ValuesOk (n : Nat) : List (List (List Hv)) → Option (Bool)
  | [[[.r x0]]] => F_impl_ValuesOk n x0
  | _ => none
def E_impl_ValuesOk (n : Nat) (d : List AV → Tr AV) : List AV → Tr AV := cent (A_impl_ValuesOk ([])) (FH_impl_ValuesOk n) O_impl_ValuesOk d
theorem eo_impl_ValuesOk (n : Nat) {d : List AV → Tr AV} (hd : ∀ ar r, (d ar).run = some r → runs KP lib n 15 ar [] = some ⟨r, [], []⟩) : ∀ ar r, (E_impl_ValuesOk n d ar).run = some r → runs KP lib n 15 ar [] = some ⟨r, [], []⟩ :=
  cent_ok (fun hs r h => by
    unfold FH_impl_ValuesOk at h
    split at h
    · exact ⟨A_impl_ValuesOk _, rfl, th_impl_ValuesOk n _ r h⟩
    · cases h) hd
/-! ### impl.lookup -/
def A_impl_lookup (x0 : List (List PV)) (x1 : Int) (x2 : Int) : List AV := [(.c (.p (.ls x0))), (.agg [(.p (.i .i64 x1)), (.p (.i .i64 x2))])]
def O_impl_lookup (r : Int × Int × ByteArray) : AV := (.agg [(.p (.i .i64 r.1)), (.p (.i .i64 r.2.1)), (.p (.s r.2.2))])
abbrev CT_impl_lookup (n : Nat) : CTab := mkCT []
def S_impl_lookup_13 (v : (List (List PV)) × Int × Int × Int × Int × Int × Int × ByteArray) : St := ⟨[(3, (.c (.ptr 0 192 0 0 0))), (4, (.c (.ptr 0 256 0 0 0))), (7, (.c (.p (.ls v.1)))), (8, (.c (.p (.i .i64 v.2.1)))), (9, (.c (.p (.i .i64 v.2.2.1))))], [(192, ⟨0, 2, 34, (.box [(.p (.i .i64 v.2.2.2.1)), (.p (.i .i64 v.2.2.2.2.1))])⟩), (256, ⟨0, 3, 32, (.box [(.p (.i .i64 v.2.2.2.2.2.1)), (.p (.i .i64 v.2.2.2.2.2.2.1)), (.p (.s v.2.2.2.2.2.2.2))])⟩)], []⟩
def B_impl_lookup_13 (n : Nat) (v : (List (List PV)) × Int × Int × Int × Int × Int × Int × ByteArray) : Tr (((List (List PV)) × Int × Int × Int × Int × Int × Int × ByteArray) ⊕ ((Int × Int × ByteArray) ⊕ (Int × Int × ByteArray))) := (.ask ((decide (v.2.2.1 < v.2.1))) (.ask (decide (0 ≤ v.2.2.1 ∧ v.2.2.1 < v.1.length)) (.opt (v.1[(v.2.2.1).toNat]?) fun e74 => (.ask (decide (e74.length = 5)) (.opt (cellI .i64 e74 0) fun y75 => (.opt (cellI .i64 e74 1) fun y76 => (.opt (cellI .i64 e74 2) fun y77 => (.opt (cellI .i64 e74 3) fun y78 => (.opt (cellS e74 4) fun y79 => (.ask (((y75 == v.2.2.2.1) && ((y76 == v.2.2.2.2.1) && true))) (.done (.inr (.inl ((y77, y78, y79))))) (.done (.inl (v.1, v.2.1, (IntKind.i64.wrap (v.2.2.1 + (1 : Int))), v.2.2.2.1, v.2.2.2.2.1, v.2.2.2.2.2.1, v.2.2.2.2.2.2.1, v.2.2.2.2.2.2.2))))))))) .fail)) .fail) (.done (.inr (.inr ((v.2.2.2.2.2.1, v.2.2.2.2.2.2.1, v.2.2.2.2.2.2.2))))))
def D_impl_lookup_13 : ((Int × Int × ByteArray) ⊕ (Int × Int × ByteArray)) → Ex × St := fun | .inl r => (.ret, ⟨[(4, (.c (.ptr 0 256 0 0 0)))], [(256, ⟨0, 3, 32, (.box [(.p (.i .i64 r.1)), (.p (.i .i64 r.2.1)), (.p (.s r.2.2))])⟩)], []⟩) | .inr r => (fun r => ((.exit 0), ⟨[(4, (.c (.ptr 0 256 0 0 0)))], [(256, ⟨0, 3, 32, (.box [(.p (.i .i64 r.1)), (.p (.i .i64 r.2.1)), (.p (.s r.2.2))])⟩)], []⟩)) r
def DT_impl_lookup_13 : ((Int × Int × ByteArray) ⊕ (Int × Int × ByteArray)) → Tr (Ex × St) := fun r => .alt r (fun r => .done (.ret, ⟨[(4, (.c (.ptr 0 256 0 0 0)))], [(256, ⟨0, 3, 32, (.box [(.p (.i .i64 r.1)), (.p (.i .i64 r.2.1)), (.p (.s r.2.2))])⟩)], []⟩)) (fun r => .done ((.exit 0), ⟨[(4, (.c (.ptr 0 256 0 0 0)))], [(256, ⟨0, 3, 32, (.box [(.p (.i .i64 r.1)), (.p (.i .i64 r.2.1)), (.p (.s r.2.2))])⟩)], []⟩))
def VH_impl_lookup_13 : List (List (List Hv)) × List (List (List Hv)) → Option ((List (List PV)) × Int × Int × Int × Int × Int × Int × ByteArray)
  | ([[[]], [[]], [[.r w0]], [[.i w1]], [[.i w2]]], [[[.i w3], [.i w4]], [[.i w5], [.i w6], [.s w7]]]) => some (w0, w1, w2, w3, w4, w5, w6, w7)
  | _ => none
abbrev LE_impl_lookup_13 (n : Nat) : St → Tr (Ex × St) := lent (S_impl_lookup_13 ([], 0, 0, 0, 0, 0, 0, ⟨#[]⟩)) VH_impl_lookup_13 (B_impl_lookup_13 n) DT_impl_lookup_13 n
abbrev LT_impl_lookup (n : Nat) : LTab := mkLT [(13, LE_impl_lookup_13 n)]
def T_impl_lookup (n : Nat) (x0 : List (List PV)) (x1 : Int) (x2 : Int) : Tr (Int × Int × ByteArray) := (.opt (loopF (B_impl_lookup_13 n) n (x0, (x0.length : Int), (0 : Int), x1, x2, (0 : Int), (0 : Int), (⟨#[]⟩ : ByteArray))) fun r80 => (.alt r80 (fun r81 => (.done (r81.1, r81.2.1, r81.2.2))) (fun r82 => (.done ((0 : Int), (0 : Int), (⟨#[]⟩ : ByteArray))))))
def F_impl_lookup : Nat → List (List PV) → Int → Int → Option (Int × Int × ByteArray)
  | 0, _, _, _ => none
  | n + 1, x0, x1, x2 => (T_impl_lookup n x0 x1 x2).run
theorem ft_impl_lookup (n : Nat) (x0 : List (List PV)) (x1 : Int) (x2 : Int) : funT (CT_impl_lookup n) (LT_impl_lookup n) K_impl_lookup (A_impl_lookup x0 x1 x2) = (T_impl_lookup n x0 x1 x2).bind fun r => .done (O_impl_lookup r) := by kernel_rfl
theorem ct_impl_lookup (n : Nat) : CTok (CT_impl_lookup n) (runs KP lib n) := mkCT_nil
theorem lt_impl_lookup_13 (n : Nat) (v : (List (List PV)) × Int × Int × Int × Int × Int × Int × ByteArray) : (evalCT (CT_impl_lookup n) (mkLT []) K_impl_lookup_L13 (S_impl_lookup_13 v) []).bind (ltail [3, 4, 7, 8, 9] [(.ret, [4]), ((.exit 0), [4])]) = (B_impl_lookup_13 n v).bind (lenc S_impl_lookup_13 D_impl_lookup_13) := by
  obtain ⟨w0, w1, w2, w3, w4, w5, w6, w7⟩ := v
  kernel_rfl
theorem le_impl_lookup_13 (n : Nat) : LEok (runs KP lib n) n (13, [3, 4, 7, 8, 9], [(.ret, [4]), ((.exit 0), [4])], K_impl_lookup_L13) (LE_impl_lookup_13 n) := fun st e s h =>
  lent_ok (ct_impl_lookup n) (noLoops rfl) (lt_impl_lookup_13 n) (fun r => by
    rcases r with r | r <;> (intro h; cases h)) (fun r y h => by
    rcases r with r | r <;> (cases h; rfl)) (fun hs v h => by
    unfold VH_impl_lookup_13 at h
    split at h <;> cases h
    rfl) h
theorem lo_impl_lookup (n : Nat) : LTok (LT_impl_lookup n) (runs KP lib n) n K_impl_lookup.body := mkLT_ok (by
  intro x hx
  have hx : x ∈ ([(13, [3, 4, 7, 8, 9], [(.ret, [4]), ((.exit 0), [4])], K_impl_lookup_L13)] : List (Nat × List Nat × List (Ex × List Nat) × KCode)) := hx
  simp only [List.mem_cons, List.not_mem_nil, or_false] at hx
  rcases hx with rfl
  · exact ⟨LE_impl_lookup_13 n, fun st => rfl, le_impl_lookup_13 n⟩)
theorem th_impl_lookup : ∀ (n : Nat) (x0 : List (List PV)) (x1 : Int) (x2 : Int) (r : Int × Int × ByteArray), F_impl_lookup n x0 x1 x2 = some r → runs KP lib n 64 (A_impl_lookup x0 x1 x2) [] = some ⟨O_impl_lookup r, [], []⟩
  | 0, x0, x1, x2, r, h => by cases h
  | n + 1, x0, x1, x2, r, h => fun_step (kf := K_impl_lookup) rfl (ct_impl_lookup n) (lo_impl_lookup n) (ft_impl_lookup n x0 x1 x2) h
def FH_impl_lookup (n : Nat) : List (List (List Hv)) → Option (Int × Int × ByteArray)
  | [[[.r x0]], [[.i x1], [.i x2]]] => F_impl_lookup n x0 x1 x2
  | _ => none
def E_impl_lookup (n : Nat) (d : List AV → Tr AV) : List AV → Tr AV := cent (A_impl_lookup ([]) (0) (0)) (FH_impl_lookup n) O_impl_lookup d
theorem eo_impl_lookup (n : Nat) {d : List AV → Tr AV} (hd : ∀ ar r, (d ar).run = some r → runs KP lib n 64 ar [] = some ⟨r, [], []⟩) : ∀ ar r, (E_impl_lookup n d ar).run = some r → runs KP lib n 64 ar [] = some ⟨r, [], []⟩ :=
  cent_ok (fun hs r h => by
    unfold FH_impl_lookup at h
    split at h
    · exact ⟨A_impl_lookup _ _ _, rfl, th_impl_lookup n _ _ _ r h⟩
    · cases h) hd
/-! ### impl.Lookup -/
def A_impl_Lookup (x0 : List (List PV)) (x1 : Int) (x2 : Int) : List AV := [(.c (.p (.ls x0))), (.agg [(.p (.i .i64 x1)), (.p (.i .i64 x2))])]
def O_impl_Lookup (r : Int × Int × ByteArray) : AV := (.agg [(.p (.i .i64 r.1)), (.p (.i .i64 r.2.1)), (.p (.s r.2.2))])
abbrev CT_impl_Lookup (n : Nat) : CTab := mkCT [(15, E_impl_ValuesOk n (noEnt)), (64, E_impl_lookup n (noEnt))]
abbrev LT_impl_Lookup (n : Nat) : LTab := mkLT []
def T_impl_Lookup (n : Nat) (x0 : List (List PV)) (x1 : Int) (x2 : Int) : Tr (Int × Int × ByteArray) := (.opt (F_impl_ValuesOk n x0) fun r73 => (.ask ((!r73)) (.done ((0 : Int), (0 : Int), (⟨#[]⟩ : ByteArray))) (.opt (F_impl_lookup n x0 x1 x2) fun r83 => (.done (r83.1, r83.2.1, r83.2.2)))))
def F_impl_Lookup : Nat → List (List PV) → Int → Int → Option (Int × Int × ByteArray)
  | 0, _, _, _ => none
  | n + 1, x0, x1, x2 => (T_impl_Lookup n x0 x1 x2).run
theorem ft_impl_Lookup (n : Nat) (x0 : List (List PV)) (x1 : Int) (x2 : Int) : funT (CT_impl_Lookup n) (LT_impl_Lookup n) K_impl_Lookup (A_impl_Lookup x0 x1 x2) = (T_impl_Lookup n x0 x1 x2).bind fun r => .done (O_impl_Lookup r) := by kernel_rfl
theorem ct_impl_Lookup (n : Nat) : CTok (CT_impl_Lookup n) (runs KP lib n) := mkCT_cons (eo_impl_ValuesOk n (noEnt_ok)) (mkCT_cons (eo_impl_lookup n (noEnt_ok)) (mkCT_nil))
theorem th_impl_Lookup : ∀ (n : Nat) (x0 : List (List PV)) (x1 : Int) (x2 : Int) (r : Int × Int × ByteArray), F_impl_Lookup n x0 x1 x2 = some r → runs KP lib n 19 (A_impl_Lookup x0 x1 x2) [] = some ⟨O_impl_Lookup r, [], []⟩
  | 0, x0, x1, x2, r, h => by cases h
  | n + 1, x0, x1, x2, r, h => fun_step (kf := K_impl_Lookup) rfl (ct_impl_Lookup n) (noLoops rfl) (ft_impl_Lookup n x0 x1 x2) h
def FH_impl_Lookup (n : Nat) : List (List (List Hv)) → Option (Int × Int × ByteArray)
  | [[[.r x0]], [[.i x1], [.i x2]]] => F_impl_Lookup n x0 x1 x2
  | _ => none
def E_impl_Lookup (n : Nat) (d : List AV → Tr AV) : List AV → Tr AV := cent (A_impl_Lookup ([]) (0) (0)) (FH_impl_Lookup n) O_impl_Lookup d
theorem eo_impl_Lookup (n : Nat) {d : List AV → Tr AV} (hd : ∀ ar r, (d ar).run = some r → runs KP lib n 19 ar [] = some ⟨r, [], []⟩) : ∀ ar r, (E_impl_Lookup n d ar).run = some r → runs KP lib n 19 ar [] = some ⟨r, [], []⟩ :=
  cent_ok (fun hs r h => by
    unfold FH_impl_Lookup at h
    split at h
    · exact ⟨A_impl_Lookup _ _ _, rfl, th_impl_Lookup n _ _ _ r h⟩
    · cases h) hd
/-! ### laws.eqValue -/
def A_laws_eqValue (x0 : Int) (x1 : Int) (x2 : ByteArray) (x3 : Int) (x4 : Int) (x5 : ByteArray) : List AV := [(.agg [(.p (.i .i64 x0)), (.p (.i .i64 x1)), (.p (.s x2))]), (.agg [(.p (.i .i64 x3)), (.p (.i .i64 x4)), (.p (.s x5))])]
def O_laws_eqValue (r : Bool) : AV := (.c (.p (.b r)))
abbrev CT_laws_eqValue (n : Nat) : CTab := mkCT []
abbrev LT_laws_eqValue (n : Nat) : LTab := mkLT []
def T_laws_eqValue (n : Nat) (x0 : Int) (x1 : Int) (x2 : ByteArray) (x3 : Int) (x4 : Int) (x5 : ByteArray) : Tr (Bool) := (.ask ((x0 != x3)) (.done false) (.ask ((x1 != x4)) (.done false) (.ask ((!(x2.toList == x5.toList))) (.done false) (.done true))))
def F_laws_eqValue : Nat → Int → Int → ByteArray → Int → Int → ByteArray → Option (Bool)
  | 0, _, _, _, _, _, _ => none
  | n + 1, x0, x1, x2, x3, x4, x5 => (T_laws_eqValue n x0 x1 x2 x3 x4 x5).run
theorem ft_laws_eqValue (n : Nat) (x0 : Int) (x1 : Int) (x2 : ByteArray) (x3 : Int) (x4 : Int) (x5 : ByteArray) : funT (CT_laws_eqValue n) (LT_laws_eqValue n) K_laws_eqValue (A_laws_eqValue x0 x1 x2 x3 x4 x5) = (T_laws_eqValue n x0 x1 x2 x3 x4 x5).bind fun r => .done (O_laws_eqValue r) := by kernel_rfl
theorem ct_laws_eqValue (n : Nat) : CTok (CT_laws_eqValue n) (runs KP lib n) := mkCT_nil
theorem th_laws_eqValue : ∀ (n : Nat) (x0 : Int) (x1 : Int) (x2 : ByteArray) (x3 : Int) (x4 : Int) (x5 : ByteArray) (r : Bool), F_laws_eqValue n x0 x1 x2 x3 x4 x5 = some r → runs KP lib n 20 (A_laws_eqValue x0 x1 x2 x3 x4 x5) [] = some ⟨O_laws_eqValue r, [], []⟩
  | 0, x0, x1, x2, x3, x4, x5, r, h => by cases h
  | n + 1, x0, x1, x2, x3, x4, x5, r, h => fun_step (kf := K_laws_eqValue) rfl (ct_laws_eqValue n) (noLoops rfl) (ft_laws_eqValue n x0 x1 x2 x3 x4 x5) h
def FH_laws_eqValue (n : Nat) : List (List (List Hv)) → Option (Bool)
  | [[[.i x0], [.i x1], [.s x2]], [[.i x3], [.i x4], [.s x5]]] => F_laws_eqValue n x0 x1 x2 x3 x4 x5
  | _ => none
def E_laws_eqValue (n : Nat) (d : List AV → Tr AV) : List AV → Tr AV := cent (A_laws_eqValue (0) (0) (⟨#[]⟩) (0) (0) (⟨#[]⟩)) (FH_laws_eqValue n) O_laws_eqValue d
theorem eo_laws_eqValue (n : Nat) {d : List AV → Tr AV} (hd : ∀ ar r, (d ar).run = some r → runs KP lib n 20 ar [] = some ⟨r, [], []⟩) : ∀ ar r, (E_laws_eqValue n d ar).run = some r → runs KP lib n 20 ar [] = some ⟨r, [], []⟩ :=
  cent_ok (fun hs r h => by
    unfold FH_laws_eqValue at h
    split at h
    · exact ⟨A_laws_eqValue _ _ _ _ _ _, rfl, th_laws_eqValue n _ _ _ _ _ _ r h⟩
    · cases h) hd
/-! ### laws.eqRef -/
def A_laws_eqRef (x0 : Int) (x1 : Int) (x2 : Int) (x3 : Int) : List AV := [(.agg [(.p (.i .i64 x0)), (.p (.i .i64 x1))]), (.agg [(.p (.i .i64 x2)), (.p (.i .i64 x3))])]
def O_laws_eqRef (r : Bool) : AV := (.c (.p (.b r)))
abbrev CT_laws_eqRef (n : Nat) : CTab := mkCT []
abbrev LT_laws_eqRef (n : Nat) : LTab := mkLT []
def T_laws_eqRef (n : Nat) (x0 : Int) (x1 : Int) (x2 : Int) (x3 : Int) : Tr (Bool) := (.ask ((x0 != x2)) (.done false) (.ask ((x1 != x3)) (.done false) (.done true)))
def F_laws_eqRef : Nat → Int → Int → Int → Int → Option (Bool)
  | 0, _, _, _, _ => none
  | n + 1, x0, x1, x2, x3 => (T_laws_eqRef n x0 x1 x2 x3).run
theorem ft_laws_eqRef (n : Nat) (x0 : Int) (x1 : Int) (x2 : Int) (x3 : Int) : funT (CT_laws_eqRef n) (LT_laws_eqRef n) K_laws_eqRef (A_laws_eqRef x0 x1 x2 x3) = (T_laws_eqRef n x0 x1 x2 x3).bind fun r => .done (O_laws_eqRef r) := by kernel_rfl
theorem ct_laws_eqRef (n : Nat) : CTok (CT_laws_eqRef n) (runs KP lib n) := mkCT_nil
theorem th_laws_eqRef : ∀ (n : Nat) (x0 : Int) (x1 : Int) (x2 : Int) (x3 : Int) (r : Bool), F_laws_eqRef n x0 x1 x2 x3 = some r → runs KP lib n 101 (A_laws_eqRef x0 x1 x2 x3) [] = some ⟨O_laws_eqRef r, [], []⟩
  | 0, x0, x1, x2, x3, r, h => by cases h
  | n + 1, x0, x1, x2, x3, r, h => fun_step (kf := K_laws_eqRef) rfl (ct_laws_eqRef n) (noLoops rfl) (ft_laws_eqRef n x0 x1 x2 x3) h
def FH_laws_eqRef (n : Nat) : List (List (List Hv)) → Option (Bool)
  | [[[.i x0], [.i x1]], [[.i x2], [.i x3]]] => F_laws_eqRef n x0 x1 x2 x3
  | _ => none
def E_laws_eqRef (n : Nat) (d : List AV → Tr AV) : List AV → Tr AV := cent (A_laws_eqRef (0) (0) (0) (0)) (FH_laws_eqRef n) O_laws_eqRef d
theorem eo_laws_eqRef (n : Nat) {d : List AV → Tr AV} (hd : ∀ ar r, (d ar).run = some r → runs KP lib n 101 ar [] = some ⟨r, [], []⟩) : ∀ ar r, (E_laws_eqRef n d ar).run = some r → runs KP lib n 101 ar [] = some ⟨r, [], []⟩ :=
  cent_ok (fun hs r h => by
    unfold FH_laws_eqRef at h
    split at h
    · exact ⟨A_laws_eqRef _ _ _ _, rfl, th_laws_eqRef n _ _ _ _ r h⟩
    · cases h) hd
/-! ### laws.eqCellValue -/
def A_laws_eqCellValue (x0 : Int) (x1 : Int) (x2 : Int) (x3 : Int) (x4 : ByteArray) (x5 : Int) (x6 : Int) (x7 : Int) (x8 : Int) (x9 : ByteArray) : List AV := [(.agg [(.p (.i .i64 x0)), (.p (.i .i64 x1)), (.p (.i .i64 x2)), (.p (.i .i64 x3)), (.p (.s x4))]), (.agg [(.p (.i .i64 x5)), (.p (.i .i64 x6)), (.p (.i .i64 x7)), (.p (.i .i64 x8)), (.p (.s x9))])]
def O_laws_eqCellValue (r : Bool) : AV := (.c (.p (.b r)))
abbrev CT_laws_eqCellValue (n : Nat) : CTab := mkCT [(101, E_laws_eqRef n (noEnt)), (20, E_laws_eqValue n (noEnt))]
abbrev LT_laws_eqCellValue (n : Nat) : LTab := mkLT []
def T_laws_eqCellValue (n : Nat) (x0 : Int) (x1 : Int) (x2 : Int) (x3 : Int) (x4 : ByteArray) (x5 : Int) (x6 : Int) (x7 : Int) (x8 : Int) (x9 : ByteArray) : Tr (Bool) := (.opt (F_laws_eqRef n x0 x1 x5 x6) fun r99 => (.ask ((!r99)) (.done false) (.opt (F_laws_eqValue n x2 x3 x4 x7 x8 x9) fun r100 => (.ask ((!r100)) (.done false) (.done true)))))
def F_laws_eqCellValue : Nat → Int → Int → Int → Int → ByteArray → Int → Int → Int → Int → ByteArray → Option (Bool)
  | 0, _, _, _, _, _, _, _, _, _, _ => none
  | n + 1, x0, x1, x2, x3, x4, x5, x6, x7, x8, x9 => (T_laws_eqCellValue n x0 x1 x2 x3 x4 x5 x6 x7 x8 x9).run
theorem ft_laws_eqCellValue (n : Nat) (x0 : Int) (x1 : Int) (x2 : Int) (x3 : Int) (x4 : ByteArray) (x5 : Int) (x6 : Int) (x7 : Int) (x8 : Int) (x9 : ByteArray) : funT (CT_laws_eqCellValue n) (LT_laws_eqCellValue n) K_laws_eqCellValue (A_laws_eqCellValue x0 x1 x2 x3 x4 x5 x6 x7 x8 x9) = (T_laws_eqCellValue n x0 x1 x2 x3 x4 x5 x6 x7 x8 x9).bind fun r => .done (O_laws_eqCellValue r) := by kernel_rfl
theorem ct_laws_eqCellValue (n : Nat) : CTok (CT_laws_eqCellValue n) (runs KP lib n) := mkCT_cons (eo_laws_eqRef n (noEnt_ok)) (mkCT_cons (eo_laws_eqValue n (noEnt_ok)) (mkCT_nil))
theorem th_laws_eqCellValue : ∀ (n : Nat) (x0 : Int) (x1 : Int) (x2 : Int) (x3 : Int) (x4 : ByteArray) (x5 : Int) (x6 : Int) (x7 : Int) (x8 : Int) (x9 : ByteArray) (r : Bool), F_laws_eqCellValue n x0 x1 x2 x3 x4 x5 x6 x7 x8 x9 = some r → runs KP lib n 62 (A_laws_eqCellValue x0 x1 x2 x3 x4 x5 x6 x7 x8 x9) [] = some ⟨O_laws_eqCellValue r, [], []⟩
  | 0, x0, x1, x2, x3, x4, x5, x6, x7, x8, x9, r, h => by cases h
  | n + 1, x0, x1, x2, x3, x4, x5, x6, x7, x8, x9, r, h => fun_step (kf := K_laws_eqCellValue) rfl (ct_laws_eqCellValue n) (noLoops rfl) (ft_laws_eqCellValue n x0 x1 x2 x3 x4 x5 x6 x7 x8 x9) h
def FH_laws_eqCellValue (n : Nat) : List (List (List Hv)) → Option (Bool)
  | [[[.i x0], [.i x1], [.i x2], [.i x3], [.s x4]], [[.i x5], [.i x6], [.i x7], [.i x8], [.s x9]]] => F_laws_eqCellValue n x0 x1 x2 x3 x4 x5 x6 x7 x8 x9
  | _ => none
def E_laws_eqCellValue (n : Nat) (d : List AV → Tr AV) : List AV → Tr AV := cent (A_laws_eqCellValue (0) (0) (0) (0) (⟨#[]⟩) (0) (0) (0) (0) (⟨#[]⟩)) (FH_laws_eqCellValue n) O_laws_eqCellValue d
theorem eo_laws_eqCellValue (n : Nat) {d : List AV → Tr AV} (hd : ∀ ar r, (d ar).run = some r → runs KP lib n 62 ar [] = some ⟨r, [], []⟩) : ∀ ar r, (E_laws_eqCellValue n d ar).run = some r → runs KP lib n 62 ar [] = some ⟨r, [], []⟩ :=
  cent_ok (fun hs r h => by
    unfold FH_laws_eqCellValue at h
    split at h
    · exact ⟨A_laws_eqCellValue _ _ _ _ _ _ _ _ _ _, rfl, th_laws_eqCellValue n _ _ _ _ _ _ _ _ _ _ r h⟩
    · cases h) hd
/-! ### laws.eqCellValueS -/
def A_laws_eqCellValueS (x0 : List (List PV)) (x1 : List (List PV)) : List AV := [(.c (.p (.ls x0))), (.c (.p (.ls x1)))]
def O_laws_eqCellValueS (r : Bool) : AV := (.c (.p (.b r)))
abbrev CT_laws_eqCellValueS (n : Nat) : CTab := mkCT [(62, E_laws_eqCellValue n (noEnt))]
def S_laws_eqCellValueS_29 (v : (List (List PV)) × (List (List PV)) × Int) : St := ⟨[(0, (.c (.p (.ls v.1)))), (1, (.c (.p (.ls v.2.1)))), (5, (.c (.p (.i .i64 v.2.2))))], [], []⟩
def B_laws_eqCellValueS_29 (n : Nat) (v : (List (List PV)) × (List (List PV)) × Int) : Tr (((List (List PV)) × (List (List PV)) × Int) ⊕ ((Bool) ⊕ (Unit))) := (.ask ((decide (v.2.2 < (v.1.length : Int)))) (.ask (decide (0 ≤ v.2.2 ∧ v.2.2 < v.1.length)) (.opt (v.1[(v.2.2).toNat]?) fun e87 => (.ask (decide (e87.length = 5)) (.opt (cellI .i64 e87 0) fun y88 => (.opt (cellI .i64 e87 1) fun y89 => (.opt (cellI .i64 e87 2) fun y90 => (.opt (cellI .i64 e87 3) fun y91 => (.opt (cellS e87 4) fun y92 => (.ask (decide (0 ≤ v.2.2 ∧ v.2.2 < v.2.1.length)) (.opt (v.2.1[(v.2.2).toNat]?) fun e93 => (.ask (decide (e93.length = 5)) (.opt (cellI .i64 e93 0) fun y94 => (.opt (cellI .i64 e93 1) fun y95 => (.opt (cellI .i64 e93 2) fun y96 => (.opt (cellI .i64 e93 3) fun y97 => (.opt (cellS e93 4) fun y98 => (.opt (F_laws_eqCellValue n y88 y89 y90 y91 y92 y94 y95 y96 y97 y98) fun r99 => (.ask ((!r99)) (.done (.inr (.inl (false)))) (.done (.inl (v.1, v.2.1, (IntKind.i64.wrap (v.2.2 + (1 : Int))))))))))))) .fail)) .fail)))))) .fail)) .fail) (.done (.inr (.inr (())))))
def D_laws_eqCellValueS_29 : ((Bool) ⊕ (Unit)) → Ex × St := fun | .inl r => (.ret, ⟨[(4, (.c (.p (.b r))))], [], []⟩) | .inr r => (fun r => ((.exit 0), ⟨[], [], []⟩)) r
def DT_laws_eqCellValueS_29 : ((Bool) ⊕ (Unit)) → Tr (Ex × St) := fun r => .alt r (fun r => .done (.ret, ⟨[(4, (.c (.p (.b r))))], [], []⟩)) (fun r => .done ((.exit 0), ⟨[], [], []⟩))
def VH_laws_eqCellValueS_29 : List (List (List Hv)) × List (List (List Hv)) → Option ((List (List PV)) × (List (List PV)) × Int)
  | ([[[.r w0]], [[.r w1]], [[.i w2]]], []) => some (w0, w1, w2)
  | _ => none
abbrev LE_laws_eqCellValueS_29 (n : Nat) : St → Tr (Ex × St) := lent (S_laws_eqCellValueS_29 ([], [], 0)) VH_laws_eqCellValueS_29 (B_laws_eqCellValueS_29 n) DT_laws_eqCellValueS_29 n
abbrev LT_laws_eqCellValueS (n : Nat) : LTab := mkLT [(29, LE_laws_eqCellValueS_29 n)]
def T_laws_eqCellValueS (n : Nat) (x0 : List (List PV)) (x1 : List (List PV)) : Tr (Bool) := (.ask (((x0.length : Int) != (x1.length : Int))) (.done false) (.opt (loopF (B_laws_eqCellValueS_29 n) n (x0, x1, (0 : Int))) fun r100 => (.alt r100 (fun r101 => (.done r101)) (fun r102 => (.done true)))))
def F_laws_eqCellValueS : Nat → List (List PV) → List (List PV) → Option (Bool)
  | 0, _, _ => none
  | n + 1, x0, x1 => (T_laws_eqCellValueS n x0 x1).run
theorem ft_laws_eqCellValueS (n : Nat) (x0 : List (List PV)) (x1 : List (List PV)) : funT (CT_laws_eqCellValueS n) (LT_laws_eqCellValueS n) K_laws_eqCellValueS (A_laws_eqCellValueS x0 x1) = (T_laws_eqCellValueS n x0 x1).bind fun r => .done (O_laws_eqCellValueS r) := by kernel_rfl
theorem ct_laws_eqCellValueS (n : Nat) : CTok (CT_laws_eqCellValueS n) (runs KP lib n) := mkCT_cons (eo_laws_eqCellValue n (noEnt_ok)) (mkCT_nil)
theorem lt_laws_eqCellValueS_29 (n : Nat) (v : (List (List PV)) × (List (List PV)) × Int) : (evalCT (CT_laws_eqCellValueS n) (mkLT []) K_laws_eqCellValueS_L29 (S_laws_eqCellValueS_29 v) []).bind (ltail [0, 1, 5] [(.ret, [4]), ((.exit 0), [])]) = (B_laws_eqCellValueS_29 n v).bind (lenc S_laws_eqCellValueS_29 D_laws_eqCellValueS_29) := by
  obtain ⟨w0, w1, w2⟩ := v
  kernel_rfl
theorem le_laws_eqCellValueS_29 (n : Nat) : LEok (runs KP lib n) n (29, [0, 1, 5], [(.ret, [4]), ((.exit 0), [])], K_laws_eqCellValueS_L29) (LE_laws_eqCellValueS_29 n) := fun st e s h =>
  lent_ok (ct_laws_eqCellValueS n) (noLoops rfl) (lt_laws_eqCellValueS_29 n) (fun r => by
    rcases r with r | r <;> (intro h; cases h)) (fun r y h => by
    rcases r with r | r <;> (cases h; rfl)) (fun hs v h => by
    unfold VH_laws_eqCellValueS_29 at h
    split at h <;> cases h
    rfl) h
theorem lo_laws_eqCellValueS (n : Nat) : LTok (LT_laws_eqCellValueS n) (runs KP lib n) n K_laws_eqCellValueS.body := mkLT_ok (by
  intro x hx
  have hx : x ∈ ([(29, [0, 1, 5], [(.ret, [4]), ((.exit 0), [])], K_laws_eqCellValueS_L29)] : List (Nat × List Nat × List (Ex × List Nat) × KCode)) := hx
  simp only [List.mem_cons, List.not_mem_nil, or_false] at hx
  rcases hx with rfl
  · exact ⟨LE_laws_eqCellValueS_29 n, fun st => rfl, le_laws_eqCellValueS_29 n⟩)
theorem th_laws_eqCellValueS : ∀ (n : Nat) (x0 : List (List PV)) (x1 : List (List PV)) (r : Bool), F_laws_eqCellValueS n x0 x1 = some r → runs KP lib n 16 (A_laws_eqCellValueS x0 x1) [] = some ⟨O_laws_eqCellValueS r, [], []⟩
  | 0, x0, x1, r, h => by cases h
  | n + 1, x0, x1, r, h => fun_step (kf := K_laws_eqCellValueS) rfl (ct_laws_eqCellValueS n) (lo_laws_eqCellValueS n) (ft_laws_eqCellValueS n x0 x1) h
def FH_laws_eqCellValueS (n : Nat) : List (List (List Hv)) → Option (Bool)
  | [[[.r x0]], [[.r x1]]] => F_laws_eqCellValueS n x0 x1
  | _ => none
def E_laws_eqCellValueS (n : Nat) (d : List AV → Tr AV) : List AV → Tr AV := cent (A_laws_eqCellValueS ([]) ([])) (FH_laws_eqCellValueS n) O_laws_eqCellValueS d
theorem eo_laws_eqCellValueS (n : Nat) {d : List AV → Tr AV} (hd : ∀ ar r, (d ar).run = some r → runs KP lib n 16 ar [] = some ⟨r, [], []⟩) : ∀ ar r, (E_laws_eqCellValueS n d ar).run = some r → runs KP lib n 16 ar [] = some ⟨r, [], []⟩ :=
  cent_ok (fun hs r h => by
    unfold FH_laws_eqCellValueS at h
    split at h
    · exact ⟨A_laws_eqCellValueS _ _, rfl, th_laws_eqCellValueS n _ _ r h⟩
    · cases h) hd
/-! ### laws.FnExactLookup -/
def A_laws_FnExactLookup (x0 : List (List PV)) (x1 : Int) (x2 : Int) : List AV := [(.c (.p (.ls x0))), (.agg [(.p (.i .i64 x1)), (.p (.i .i64 x2))])]
def O_laws_FnExactLookup (r : Bool) : AV := (.c (.p (.b r)))
abbrev CT_laws_FnExactLookup (n : Nat) : CTab := mkCT [(12, E_laws_szCellValueS n (noEnt)), (14, E_laws_toCellValueS n (noEnt)), (18, E_laws_toRef n (noEnt)), (17, E_spec_Lookup n (noEnt)), (19, E_impl_Lookup n (noEnt)), (20, E_laws_eqValue n (noEnt)), (16, E_laws_eqCellValueS n (noEnt))]
abbrev LT_laws_FnExactLookup (n : Nat) : LTab := mkLT []
def T_laws_FnExactLookup (n : Nat) (x0 : List (List PV)) (x1 : Int) (x2 : Int) : Tr (Bool) := (.opt (F_laws_szCellValueS n x0 (1048576 : Int)) fun r11 => (.ask ((decide (r11 < (0 : Int)))) (.done true) (.opt (F_laws_toCellValueS n x0) fun r21 => (.opt (F_laws_toRef n x1 x2) fun r22 => (.opt (F_spec_Lookup n r21 r22.1 r22.2) fun r54 => (.opt (F_laws_toCellValueS n x0) fun r55 => (.opt (F_laws_toRef n x1 x2) fun r56 => (.opt (F_impl_Lookup n r55 r56.1 r56.2) fun r84 => (.opt (F_laws_eqValue n r84.1 r84.2.1 r84.2.2 r54.1 r54.2.1 r54.2.2) fun r85 => (.ask ((!r85)) (.done false) (.opt (F_laws_toCellValueS n x0) fun r86 => (.opt (F_laws_eqCellValueS n r55 r86) fun r103 => (.ask ((!r103)) (.done false) (.done true))))))))))))))
def F_laws_FnExactLookup : Nat → List (List PV) → Int → Int → Option (Bool)
  | 0, _, _, _ => none
  | n + 1, x0, x1, x2 => (T_laws_FnExactLookup n x0 x1 x2).run
theorem ft_laws_FnExactLookup (n : Nat) (x0 : List (List PV)) (x1 : Int) (x2 : Int) : funT (CT_laws_FnExactLookup n) (LT_laws_FnExactLookup n) K_laws_FnExactLookup (A_laws_FnExactLookup x0 x1 x2) = (T_laws_FnExactLookup n x0 x1 x2).bind fun r => .done (O_laws_FnExactLookup r) := by kernel_rfl
theorem ct_laws_FnExactLookup (n : Nat) : CTok (CT_laws_FnExactLookup n) (runs KP lib n) := mkCT_cons (eo_laws_szCellValueS n (noEnt_ok)) (mkCT_cons (eo_laws_toCellValueS n (noEnt_ok)) (mkCT_cons (eo_laws_toRef n (noEnt_ok)) (mkCT_cons (eo_spec_Lookup n (noEnt_ok)) (mkCT_cons (eo_impl_Lookup n (noEnt_ok)) (mkCT_cons (eo_laws_eqValue n (noEnt_ok)) (mkCT_cons (eo_laws_eqCellValueS n (noEnt_ok)) (mkCT_nil)))))))
theorem th_laws_FnExactLookup : ∀ (n : Nat) (x0 : List (List PV)) (x1 : Int) (x2 : Int) (r : Bool), F_laws_FnExactLookup n x0 x1 x2 = some r → runs KP lib n 4 (A_laws_FnExactLookup x0 x1 x2) [] = some ⟨O_laws_FnExactLookup r, [], []⟩
  | 0, x0, x1, x2, r, h => by cases h
  | n + 1, x0, x1, x2, r, h => fun_step (kf := K_laws_FnExactLookup) rfl (ct_laws_FnExactLookup n) (noLoops rfl) (ft_laws_FnExactLookup n x0 x1 x2) h
def FH_laws_FnExactLookup (n : Nat) : List (List (List Hv)) → Option (Bool)
  | [[[.r x0]], [[.i x1], [.i x2]]] => F_laws_FnExactLookup n x0 x1 x2
  | _ => none
def E_laws_FnExactLookup (n : Nat) (d : List AV → Tr AV) : List AV → Tr AV := cent (A_laws_FnExactLookup ([]) (0) (0)) (FH_laws_FnExactLookup n) O_laws_FnExactLookup d
theorem eo_laws_FnExactLookup (n : Nat) {d : List AV → Tr AV} (hd : ∀ ar r, (d ar).run = some r → runs KP lib n 4 ar [] = some ⟨r, [], []⟩) : ∀ ar r, (E_laws_FnExactLookup n d ar).run = some r → runs KP lib n 4 ar [] = some ⟨r, [], []⟩ :=
  cent_ok (fun hs r h => by
    unfold FH_laws_FnExactLookup at h
    split at h
    · exact ⟨A_laws_FnExactLookup _ _ _, rfl, th_laws_FnExactLookup n _ _ _ r h⟩
    · cases h) hd
end Go.Proofs.Ytaannlnlddbgdab.KFnExactLookup
