/-
  The trees of what FnPlaces calls: plain functions, and that the engine reckons just these. No condition.
-/
import Derived.Test.YtaannlnlddbgdabDoorKFnPlaces
import Derived.Test.YtaannlnlddbgdabDoorE33
import Derived.KernelRfl
namespace Go.Proofs.YtaannlnlddbgdabDoor.KFnPlaces
open Go.Eng
set_option linter.unusedVariables false
set_option maxRecDepth 100000
def lib : FuncId → List AV → Option AV := libCons 33 Q_strings_CutPrefix (libCons 34 Q_strings_TrimLeft (libCons 35 Q_strconv_ParseInt (libCons 52 Q_strconv_FormatInt (libNil))))
/-! ### laws.big -/
def A_laws_big (x0 : List (List PV)) : List AV := [(.c (.p (.ls x0)))]
def U_laws_big (x0 : List (List PV)) : List Go.Eng.Frame := []
def O_laws_big (r : Bool) : Res := ⟨(.c (.p (.b r))), [], []⟩
abbrev CT_laws_big (n : Nat) : CTab := mkCT []
abbrev LT_laws_big (n : Nat) : LTab := mkLT []
def T_laws_big (n : Nat) (x0 : List (List PV)) : Tr (Bool) := (.done (decide ((x0.length : Int) > (1048576 : Int))))
def F_laws_big : Nat → List (List PV) → Option (Bool)
  | 0, _ => none
  | n + 1, x0 => (T_laws_big n x0).run
theorem ft_laws_big (n : Nat) (x0 : List (List PV)) : funT (CT_laws_big n) (LT_laws_big n) K_laws_big (A_laws_big x0) (U_laws_big x0) = (T_laws_big n x0).bind fun r => .done (O_laws_big r) := by kernel_rfl
theorem ct_laws_big (n : Nat) : CTok (CT_laws_big n) (runs KP lib n) := mkCT_nil
theorem th_laws_big : ∀ (n : Nat) (x0 : List (List PV)) (r : Bool), F_laws_big n x0 = some r → runs KP lib n 13 (A_laws_big x0) (U_laws_big x0) = some (O_laws_big r)
  | 0, x0, r, h => by cases h
  | n + 1, x0, r, h => fun_step (kf := K_laws_big) rfl (ct_laws_big n) (noLoops rfl) (ft_laws_big n x0) h
def FH_laws_big (n : Nat) : Cont → Option (Bool)
  | ([[[.r x0]]], []) => F_laws_big n x0
  | _ => none
def E_laws_big (n : Nat) (d : List AV → List Go.Eng.Frame → Tr Res) : List AV → List Go.Eng.Frame → Tr Res := cent (A_laws_big ([])) (U_laws_big ([])) (FH_laws_big n) O_laws_big d
theorem eo_laws_big (n : Nat) {d : List AV → List Go.Eng.Frame → Tr Res} (hd : ∀ ar up r, (d ar up).run = some r → runs KP lib n 13 ar up = some r) : ∀ ar up r, (E_laws_big n d ar up).run = some r → runs KP lib n 13 ar up = some r :=
  cent_ok (fun hs r h => by
    unfold FH_laws_big at h
    split at h
    · exact ⟨A_laws_big _, U_laws_big _, rfl, rfl, th_laws_big n _ r h⟩
    · cases h) hd
/-! ### spec.l1Open -/
def A_spec_l1Open (x0 : List (List PV)) : List AV := [(.c (.p (.ls x0)))]
def U_spec_l1Open (x0 : List (List PV)) : List Go.Eng.Frame := []
def O_spec_l1Open (r : (List (List PV)) × Int) : Res := ⟨(.c (.ptr 0 0 0 0 0)), [], [⟨0, 2, 95, (.box [(.p (.ls r.1)), (.p (.i .i64 r.2))])⟩]⟩
abbrev CT_spec_l1Open (n : Nat) : CTab := mkCT []
abbrev LT_spec_l1Open (n : Nat) : LTab := mkLT []
def T_spec_l1Open (n : Nat) (x0 : List (List PV)) : Tr ((List (List PV)) × Int) := (.done (x0, (0 : Int)))
def F_spec_l1Open : Nat → List (List PV) → Option ((List (List PV)) × Int)
  | 0, _ => none
  | n + 1, x0 => (T_spec_l1Open n x0).run
theorem ft_spec_l1Open (n : Nat) (x0 : List (List PV)) : funT (CT_spec_l1Open n) (LT_spec_l1Open n) K_spec_l1Open (A_spec_l1Open x0) (U_spec_l1Open x0) = (T_spec_l1Open n x0).bind fun r => .done (O_spec_l1Open r) := by kernel_rfl
theorem ct_spec_l1Open (n : Nat) : CTok (CT_spec_l1Open n) (runs KP lib n) := mkCT_nil
theorem th_spec_l1Open : ∀ (n : Nat) (x0 : List (List PV)) (r : (List (List PV)) × Int), F_spec_l1Open n x0 = some r → runs KP lib n 37 (A_spec_l1Open x0) (U_spec_l1Open x0) = some (O_spec_l1Open r)
  | 0, x0, r, h => by cases h
  | n + 1, x0, r, h => fun_step (kf := K_spec_l1Open) rfl (ct_spec_l1Open n) (noLoops rfl) (ft_spec_l1Open n x0) h
def FH_spec_l1Open (n : Nat) : Cont → Option ((List (List PV)) × Int)
  | ([[[.r x0]]], []) => F_spec_l1Open n x0
  | _ => none
def E_spec_l1Open (n : Nat) (d : List AV → List Go.Eng.Frame → Tr Res) : List AV → List Go.Eng.Frame → Tr Res := cent (A_spec_l1Open ([])) (U_spec_l1Open ([])) (FH_spec_l1Open n) O_spec_l1Open d
theorem eo_spec_l1Open (n : Nat) {d : List AV → List Go.Eng.Frame → Tr Res} (hd : ∀ ar up r, (d ar up).run = some r → runs KP lib n 37 ar up = some r) : ∀ ar up r, (E_spec_l1Open n d ar up).run = some r → runs KP lib n 37 ar up = some r :=
  cent_ok (fun hs r h => by
    unfold FH_spec_l1Open at h
    split at h
    · exact ⟨A_spec_l1Open _, U_spec_l1Open _, rfl, rfl, th_spec_l1Open n _ r h⟩
    · cases h) hd
/-! ### (*spec.l1Rd).next -/
def A_spec_l1Rd_next (x0 : List (List PV)) (x1 : Int) : List AV := [(.c (.ptr 0 0 0 0 0))]
def U_spec_l1Rd_next (x0 : List (List PV)) (x1 : Int) : List Go.Eng.Frame := [[(0, ⟨0, 2, 95, (.box [(.p (.ls x0)), (.p (.i .i64 x1))])⟩)]]
def O_spec_l1Rd_next (r : Int × (List (List PV)) × Int) : Res := ⟨(.c (.p (.i .i64 r.1))), [[(0, ⟨0, 2, 95, (.box [(.p (.ls r.2.1)), (.p (.i .i64 r.2.2))])⟩)]], []⟩
abbrev CT_spec_l1Rd_next (n : Nat) : CTab := mkCT []
abbrev LT_spec_l1Rd_next (n : Nat) : LTab := mkLT []
def T_spec_l1Rd_next (n : Nat) (x0 : List (List PV)) (x1 : Int) : Tr (Int × (List (List PV)) × Int) := (.ask ((decide (x1 ≥ (x0.length : Int)))) (.done ((0 : Int), x0, x1)) (.ask (decide (0 ≤ (IntKind.i64.wrap ((IntKind.i64.wrap (x1 + (1 : Int))) - (1 : Int))) ∧ (IntKind.i64.wrap ((IntKind.i64.wrap (x1 + (1 : Int))) - (1 : Int))) < x0.length)) (.opt (x0[((IntKind.i64.wrap ((IntKind.i64.wrap (x1 + (1 : Int))) - (1 : Int)))).toNat]?) fun e3 => (.ask (decide (e3.length = 1)) (.opt (cellI .u8 e3 0) fun y4 => (.done ((IntKind.i64.wrap y4), x0, (IntKind.i64.wrap (x1 + (1 : Int)))))) .fail)) .fail))
def F_spec_l1Rd_next : Nat → List (List PV) → Int → Option (Int × (List (List PV)) × Int)
  | 0, _, _ => none
  | n + 1, x0, x1 => (T_spec_l1Rd_next n x0 x1).run
theorem ft_spec_l1Rd_next (n : Nat) (x0 : List (List PV)) (x1 : Int) : funT (CT_spec_l1Rd_next n) (LT_spec_l1Rd_next n) K_spec_l1Rd_next (A_spec_l1Rd_next x0 x1) (U_spec_l1Rd_next x0 x1) = (T_spec_l1Rd_next n x0 x1).bind fun r => .done (O_spec_l1Rd_next r) := by kernel_rfl
theorem ct_spec_l1Rd_next (n : Nat) : CTok (CT_spec_l1Rd_next n) (runs KP lib n) := mkCT_nil
theorem th_spec_l1Rd_next : ∀ (n : Nat) (x0 : List (List PV)) (x1 : Int) (r : Int × (List (List PV)) × Int), F_spec_l1Rd_next n x0 x1 = some r → runs KP lib n 61 (A_spec_l1Rd_next x0 x1) (U_spec_l1Rd_next x0 x1) = some (O_spec_l1Rd_next r)
  | 0, x0, x1, r, h => by cases h
  | n + 1, x0, x1, r, h => fun_step (kf := K_spec_l1Rd_next) rfl (ct_spec_l1Rd_next n) (noLoops rfl) (ft_spec_l1Rd_next n x0 x1) h
def FH_spec_l1Rd_next (n : Nat) : Cont → Option (Int × (List (List PV)) × Int)
  | ([[[]]], [[[[.r x0], [.i x1]]]]) => F_spec_l1Rd_next n x0 x1
  | _ => none
def E_spec_l1Rd_next (n : Nat) (d : List AV → List Go.Eng.Frame → Tr Res) : List AV → List Go.Eng.Frame → Tr Res := cent (A_spec_l1Rd_next ([]) (0)) (U_spec_l1Rd_next ([]) (0)) (FH_spec_l1Rd_next n) O_spec_l1Rd_next d
theorem eo_spec_l1Rd_next (n : Nat) {d : List AV → List Go.Eng.Frame → Tr Res} (hd : ∀ ar up r, (d ar up).run = some r → runs KP lib n 61 ar up = some r) : ∀ ar up r, (E_spec_l1Rd_next n d ar up).run = some r → runs KP lib n 61 ar up = some r :=
  cent_ok (fun hs r h => by
    unfold FH_spec_l1Rd_next at h
    split at h
    · exact ⟨A_spec_l1Rd_next _ _, U_spec_l1Rd_next _ _, rfl, rfl, th_spec_l1Rd_next n _ _ r h⟩
    · cases h) hd
/-! ### (*spec.l1Rd).below -/
def A_spec_l1Rd_below (x0 : Int) (x1 : List (List PV)) (x2 : Int) : List AV := [(.c (.ptr 0 0 0 0 0)), (.c (.p (.i .i64 x0)))]
def U_spec_l1Rd_below (x0 : Int) (x1 : List (List PV)) (x2 : Int) : List Go.Eng.Frame := [[(0, ⟨0, 2, 95, (.box [(.p (.ls x1)), (.p (.i .i64 x2))])⟩)]]
def O_spec_l1Rd_below (r : Int × (List (List PV)) × Int) : Res := ⟨(.c (.p (.i .i64 r.1))), [[(0, ⟨0, 2, 95, (.box [(.p (.ls r.2.1)), (.p (.i .i64 r.2.2))])⟩)]], []⟩
abbrev CT_spec_l1Rd_below (n : Nat) : CTab := mkCT [(61, E_spec_l1Rd_next n (noEnt))]
abbrev LT_spec_l1Rd_below (n : Nat) : LTab := mkLT []
def T_spec_l1Rd_below (n : Nat) (x0 : Int) (x1 : List (List PV)) (x2 : Int) : Tr (Int × (List (List PV)) × Int) := (.ask ((decide (x0 ≤ (1 : Int)))) (.done ((0 : Int), x1, x2)) (.ask ((decide (x0 ≤ (256 : Int)))) (.opt (F_spec_l1Rd_next n x1 x2) fun r5 => (.ask (decide (x0 = 0)) .fail (.done ((Int.tmod r5.1 x0), r5.2.1, r5.2.2)))) (.opt (F_spec_l1Rd_next n x1 x2) fun r6 => (.opt (F_spec_l1Rd_next n r6.2.1 r6.2.2) fun r7 => (.ask (decide (x0 = 0)) .fail (.done ((Int.tmod (IntKind.i64.wrap ((IntKind.i64.wrap (r6.1 * (256 : Int))) + r7.1)) x0), r7.2.1, r7.2.2)))))))
def F_spec_l1Rd_below : Nat → Int → List (List PV) → Int → Option (Int × (List (List PV)) × Int)
  | 0, _, _, _ => none
  | n + 1, x0, x1, x2 => (T_spec_l1Rd_below n x0 x1 x2).run
theorem ft_spec_l1Rd_below (n : Nat) (x0 : Int) (x1 : List (List PV)) (x2 : Int) : funT (CT_spec_l1Rd_below n) (LT_spec_l1Rd_below n) K_spec_l1Rd_below (A_spec_l1Rd_below x0 x1 x2) (U_spec_l1Rd_below x0 x1 x2) = (T_spec_l1Rd_below n x0 x1 x2).bind fun r => .done (O_spec_l1Rd_below r) := by kernel_rfl
theorem ct_spec_l1Rd_below (n : Nat) : CTok (CT_spec_l1Rd_below n) (runs KP lib n) := mkCT_cons (eo_spec_l1Rd_next n (noEnt_ok)) (mkCT_nil)
theorem th_spec_l1Rd_below : ∀ (n : Nat) (x0 : Int) (x1 : List (List PV)) (x2 : Int) (r : Int × (List (List PV)) × Int), F_spec_l1Rd_below n x0 x1 x2 = some r → runs KP lib n 40 (A_spec_l1Rd_below x0 x1 x2) (U_spec_l1Rd_below x0 x1 x2) = some (O_spec_l1Rd_below r)
  | 0, x0, x1, x2, r, h => by cases h
  | n + 1, x0, x1, x2, r, h => fun_step (kf := K_spec_l1Rd_below) rfl (ct_spec_l1Rd_below n) (noLoops rfl) (ft_spec_l1Rd_below n x0 x1 x2) h
def FH_spec_l1Rd_below (n : Nat) : Cont → Option (Int × (List (List PV)) × Int)
  | ([[[]], [[.i x0]]], [[[[.r x1], [.i x2]]]]) => F_spec_l1Rd_below n x0 x1 x2
  | _ => none
def E_spec_l1Rd_below (n : Nat) (d : List AV → List Go.Eng.Frame → Tr Res) : List AV → List Go.Eng.Frame → Tr Res := cent (A_spec_l1Rd_below (0) ([]) (0)) (U_spec_l1Rd_below (0) ([]) (0)) (FH_spec_l1Rd_below n) O_spec_l1Rd_below d
theorem eo_spec_l1Rd_below (n : Nat) {d : List AV → List Go.Eng.Frame → Tr Res} (hd : ∀ ar up r, (d ar up).run = some r → runs KP lib n 40 ar up = some r) : ∀ ar up r, (E_spec_l1Rd_below n d ar up).run = some r → runs KP lib n 40 ar up = some r :=
  cent_ok (fun hs r h => by
    unfold FH_spec_l1Rd_below at h
    split at h
    · exact ⟨A_spec_l1Rd_below _ _ _, U_spec_l1Rd_below _ _ _, rfl, rfl, th_spec_l1Rd_below n _ _ _ r h⟩
    · cases h) hd
/-! ### (*spec.l1Rd).once -/
def A_spec_l1Rd_once (x0 : Int) (x1 : List (List PV)) (x2 : Int) : List AV := [(.c (.ptr 0 0 0 0 0)), (.c (.p (.i .i64 x0)))]
def U_spec_l1Rd_once (x0 : Int) (x1 : List (List PV)) (x2 : Int) : List Go.Eng.Frame := [[(0, ⟨0, 2, 95, (.box [(.p (.ls x1)), (.p (.i .i64 x2))])⟩)]]
def O_spec_l1Rd_once (r : Bool × (List (List PV)) × Int) : Res := ⟨(.c (.p (.b r.1))), [[(0, ⟨0, 2, 95, (.box [(.p (.ls r.2.1)), (.p (.i .i64 r.2.2))])⟩)]], []⟩
abbrev CT_spec_l1Rd_once (n : Nat) : CTab := mkCT [(40, E_spec_l1Rd_below n (noEnt))]
abbrev LT_spec_l1Rd_once (n : Nat) : LTab := mkLT []
def T_spec_l1Rd_once (n : Nat) (x0 : Int) (x1 : List (List PV)) (x2 : Int) : Tr (Bool × (List (List PV)) × Int) := (.opt (F_spec_l1Rd_below n x0 x1 x2) fun r8 => (.done ((r8.1 == (IntKind.i64.wrap (x0 - (1 : Int)))), r8.2.1, r8.2.2)))
def F_spec_l1Rd_once : Nat → Int → List (List PV) → Int → Option (Bool × (List (List PV)) × Int)
  | 0, _, _, _ => none
  | n + 1, x0, x1, x2 => (T_spec_l1Rd_once n x0 x1 x2).run
theorem ft_spec_l1Rd_once (n : Nat) (x0 : Int) (x1 : List (List PV)) (x2 : Int) : funT (CT_spec_l1Rd_once n) (LT_spec_l1Rd_once n) K_spec_l1Rd_once (A_spec_l1Rd_once x0 x1 x2) (U_spec_l1Rd_once x0 x1 x2) = (T_spec_l1Rd_once n x0 x1 x2).bind fun r => .done (O_spec_l1Rd_once r) := by kernel_rfl
theorem ct_spec_l1Rd_once (n : Nat) : CTok (CT_spec_l1Rd_once n) (runs KP lib n) := mkCT_cons (eo_spec_l1Rd_below n (noEnt_ok)) (mkCT_nil)
theorem th_spec_l1Rd_once : ∀ (n : Nat) (x0 : Int) (x1 : List (List PV)) (x2 : Int) (r : Bool × (List (List PV)) × Int), F_spec_l1Rd_once n x0 x1 x2 = some r → runs KP lib n 43 (A_spec_l1Rd_once x0 x1 x2) (U_spec_l1Rd_once x0 x1 x2) = some (O_spec_l1Rd_once r)
  | 0, x0, x1, x2, r, h => by cases h
  | n + 1, x0, x1, x2, r, h => fun_step (kf := K_spec_l1Rd_once) rfl (ct_spec_l1Rd_once n) (noLoops rfl) (ft_spec_l1Rd_once n x0 x1 x2) h
def FH_spec_l1Rd_once (n : Nat) : Cont → Option (Bool × (List (List PV)) × Int)
  | ([[[]], [[.i x0]]], [[[[.r x1], [.i x2]]]]) => F_spec_l1Rd_once n x0 x1 x2
  | _ => none
def E_spec_l1Rd_once (n : Nat) (d : List AV → List Go.Eng.Frame → Tr Res) : List AV → List Go.Eng.Frame → Tr Res := cent (A_spec_l1Rd_once (0) ([]) (0)) (U_spec_l1Rd_once (0) ([]) (0)) (FH_spec_l1Rd_once n) O_spec_l1Rd_once d
theorem eo_spec_l1Rd_once (n : Nat) {d : List AV → List Go.Eng.Frame → Tr Res} (hd : ∀ ar up r, (d ar up).run = some r → runs KP lib n 43 ar up = some r) : ∀ ar up r, (E_spec_l1Rd_once n d ar up).run = some r → runs KP lib n 43 ar up = some r :=
  cent_ok (fun hs r h => by
    unfold FH_spec_l1Rd_once at h
    split at h
    · exact ⟨A_spec_l1Rd_once _ _ _, U_spec_l1Rd_once _ _ _, rfl, rfl, th_spec_l1Rd_once n _ _ _ r h⟩
    · cases h) hd
/-! ### (*spec.l1Rd).word -/
def A_spec_l1Rd_word (x0 : List (List PV)) (x1 : Int) : List AV := [(.c (.ptr 0 0 0 0 0))]
def U_spec_l1Rd_word (x0 : List (List PV)) (x1 : Int) : List Go.Eng.Frame := [[(0, ⟨0, 2, 95, (.box [(.p (.ls x0)), (.p (.i .i64 x1))])⟩)]]
def O_spec_l1Rd_word (r : Int × (List (List PV)) × Int) : Res := ⟨(.c (.p (.i .u64 r.1))), [[(0, ⟨0, 2, 95, (.box [(.p (.ls r.2.1)), (.p (.i .i64 r.2.2))])⟩)]], []⟩
abbrev CT_spec_l1Rd_word (n : Nat) : CTab := mkCT [(61, E_spec_l1Rd_next n (noEnt))]
def S_spec_l1Rd_word_29 (v : Int × Int × (List (List PV)) × Int) : St := ⟨[(0, (.c (.ptr 0 0 0 0 0))), (3, (.c (.p (.i .u64 v.1)))), (4, (.c (.p (.i .i64 v.2.1))))], [], [[(0, ⟨0, 2, 95, (.box [(.p (.ls v.2.2.1)), (.p (.i .i64 v.2.2.2))])⟩)]]⟩
def B_spec_l1Rd_word_29 (n : Nat) (v : Int × Int × (List (List PV)) × Int) : Tr ((Int × Int × (List (List PV)) × Int) ⊕ ((Int × (List (List PV)) × Int))) := (.ask ((decide (v.2.1 < (8 : Int)))) (.opt (F_spec_l1Rd_next n v.2.2.1 v.2.2.2) fun r14 => (.done (.inl ((IntKind.u64.wrap ((BitVec.ofInt IntKind.u64.bits (IntKind.u64.wrap (v.1 * (2 : Int) ^ (8 : Nat))) ||| BitVec.ofInt IntKind.u64.bits (IntKind.u64.wrap r14.1)).toNat : Int)), (IntKind.i64.wrap (v.2.1 + (1 : Int))), r14.2.1, r14.2.2)))) (.done (.inr ((v.1, v.2.2.1, v.2.2.2)))))
def D_spec_l1Rd_word_29 : (Int × (List (List PV)) × Int) → Ex × St := fun r => ((.exit 0), ⟨[(3, (.c (.p (.i .u64 r.1))))], [], [[(0, ⟨0, 2, 95, (.box [(.p (.ls r.2.1)), (.p (.i .i64 r.2.2))])⟩)]]⟩)
def DT_spec_l1Rd_word_29 : (Int × (List (List PV)) × Int) → Tr (Ex × St) := fun r => .done ((.exit 0), ⟨[(3, (.c (.p (.i .u64 r.1))))], [], [[(0, ⟨0, 2, 95, (.box [(.p (.ls r.2.1)), (.p (.i .i64 r.2.2))])⟩)]]⟩)
def VH_spec_l1Rd_word_29 : Cont3 → Option (Int × Int × (List (List PV)) × Int)
  | ([[[]], [[.i w0]], [[.i w1]]], [], [[[[.r w2], [.i w3]]]]) => some (w0, w1, w2, w3)
  | _ => none
abbrev LE_spec_l1Rd_word_29 (n : Nat) : St → Tr (Ex × St) := lent (S_spec_l1Rd_word_29 (0, 0, [], 0)) VH_spec_l1Rd_word_29 (B_spec_l1Rd_word_29 n) DT_spec_l1Rd_word_29 n
abbrev LT_spec_l1Rd_word (n : Nat) : LTab := mkLT [(29, LE_spec_l1Rd_word_29 n)]
def T_spec_l1Rd_word (n : Nat) (x0 : List (List PV)) (x1 : Int) : Tr (Int × (List (List PV)) × Int) := (.opt (loopF (B_spec_l1Rd_word_29 n) n ((0 : Int), (0 : Int), x0, x1)) fun r15 => (.done (r15.1, r15.2.1, r15.2.2)))
def F_spec_l1Rd_word : Nat → List (List PV) → Int → Option (Int × (List (List PV)) × Int)
  | 0, _, _ => none
  | n + 1, x0, x1 => (T_spec_l1Rd_word n x0 x1).run
theorem ft_spec_l1Rd_word (n : Nat) (x0 : List (List PV)) (x1 : Int) : funT (CT_spec_l1Rd_word n) (LT_spec_l1Rd_word n) K_spec_l1Rd_word (A_spec_l1Rd_word x0 x1) (U_spec_l1Rd_word x0 x1) = (T_spec_l1Rd_word n x0 x1).bind fun r => .done (O_spec_l1Rd_word r) := by kernel_rfl
theorem ct_spec_l1Rd_word (n : Nat) : CTok (CT_spec_l1Rd_word n) (runs KP lib n) := mkCT_cons (eo_spec_l1Rd_next n (noEnt_ok)) (mkCT_nil)
theorem lt_spec_l1Rd_word_29 (n : Nat) (v : Int × Int × (List (List PV)) × Int) : (evalCT (CT_spec_l1Rd_word n) (mkLT []) K_spec_l1Rd_word_L29 (S_spec_l1Rd_word_29 v) []).bind (ltail [0, 3, 4] [(.ret, [2]), ((.exit 0), [3])]) = (B_spec_l1Rd_word_29 n v).bind (lenc S_spec_l1Rd_word_29 D_spec_l1Rd_word_29) := by
  obtain ⟨w0, w1, w2, w3⟩ := v
  kernel_rfl
theorem le_spec_l1Rd_word_29 (n : Nat) : LEok (runs KP lib n) n (29, [0, 3, 4], [(.ret, [2]), ((.exit 0), [3])], K_spec_l1Rd_word_L29) (LE_spec_l1Rd_word_29 n) := fun st e s h =>
  lent_ok (ct_spec_l1Rd_word n) (noLoops rfl) (lt_spec_l1Rd_word_29 n) (fun r h => by cases h) (fun r y h => by cases h; rfl) (fun hs v h => by
    unfold VH_spec_l1Rd_word_29 at h
    split at h <;> cases h
    rfl) h
theorem lo_spec_l1Rd_word (n : Nat) : LTok (LT_spec_l1Rd_word n) (runs KP lib n) n K_spec_l1Rd_word.body := mkLT_ok (by
  intro x hx
  have hx : x ∈ ([(29, [0, 3, 4], [(.ret, [2]), ((.exit 0), [3])], K_spec_l1Rd_word_L29)] : List (Nat × List Nat × List (Ex × List Nat) × KCode)) := hx
  simp only [List.mem_cons, List.not_mem_nil, or_false] at hx
  rcases hx with rfl
  · exact ⟨LE_spec_l1Rd_word_29 n, fun st => rfl, le_spec_l1Rd_word_29 n⟩)
theorem th_spec_l1Rd_word : ∀ (n : Nat) (x0 : List (List PV)) (x1 : Int) (r : Int × (List (List PV)) × Int), F_spec_l1Rd_word n x0 x1 = some r → runs KP lib n 95 (A_spec_l1Rd_word x0 x1) (U_spec_l1Rd_word x0 x1) = some (O_spec_l1Rd_word r)
  | 0, x0, x1, r, h => by cases h
  | n + 1, x0, x1, r, h => fun_step (kf := K_spec_l1Rd_word) rfl (ct_spec_l1Rd_word n) (lo_spec_l1Rd_word n) (ft_spec_l1Rd_word n x0 x1) h
def FH_spec_l1Rd_word (n : Nat) : Cont → Option (Int × (List (List PV)) × Int)
  | ([[[]]], [[[[.r x0], [.i x1]]]]) => F_spec_l1Rd_word n x0 x1
  | _ => none
def E_spec_l1Rd_word (n : Nat) (d : List AV → List Go.Eng.Frame → Tr Res) : List AV → List Go.Eng.Frame → Tr Res := cent (A_spec_l1Rd_word ([]) (0)) (U_spec_l1Rd_word ([]) (0)) (FH_spec_l1Rd_word n) O_spec_l1Rd_word d
theorem eo_spec_l1Rd_word (n : Nat) {d : List AV → List Go.Eng.Frame → Tr Res} (hd : ∀ ar up r, (d ar up).run = some r → runs KP lib n 95 ar up = some r) : ∀ ar up r, (E_spec_l1Rd_word n d ar up).run = some r → runs KP lib n 95 ar up = some r :=
  cent_ok (fun hs r h => by
    unfold FH_spec_l1Rd_word at h
    split at h
    · exact ⟨A_spec_l1Rd_word _ _, U_spec_l1Rd_word _ _, rfl, rfl, th_spec_l1Rd_word n _ _ r h⟩
    · cases h) hd
/-! ### (*spec.l1Rd).near -/
def A_spec_l1Rd_near (x0 : Int) (x1 : Int) (x2 : List (List PV)) (x3 : Int) : List AV := [(.c (.ptr 0 0 0 0 0)), (.c (.p (.i .i64 x0))), (.c (.p (.i .i64 x1)))]
def U_spec_l1Rd_near (x0 : Int) (x1 : Int) (x2 : List (List PV)) (x3 : Int) : List Go.Eng.Frame := [[(0, ⟨0, 2, 95, (.box [(.p (.ls x2)), (.p (.i .i64 x3))])⟩)]]
def O_spec_l1Rd_near (r : Int × (List (List PV)) × Int) : Res := ⟨(.c (.p (.i .i64 r.1))), [[(0, ⟨0, 2, 95, (.box [(.p (.ls r.2.1)), (.p (.i .i64 r.2.2))])⟩)]], []⟩
abbrev CT_spec_l1Rd_near (n : Nat) : CTab := mkCT [(40, E_spec_l1Rd_below n (noEnt)), (95, E_spec_l1Rd_word n (noEnt))]
abbrev LT_spec_l1Rd_near (n : Nat) : LTab := mkLT []
def T_spec_l1Rd_near (n : Nat) (x0 : Int) (x1 : Int) (x2 : List (List PV)) (x3 : Int) : Tr (Int × (List (List PV)) × Int) := (.opt (F_spec_l1Rd_below n (8 : Int) x2 x3) fun r13 => (.ask ((r13.1 == (0 : Int))) (.done (x0, r13.2.1, r13.2.2)) (.ask ((r13.1 == (1 : Int))) (.done (x1, r13.2.1, r13.2.2)) (.ask ((decide (x1 < x0))) (.done (x0, r13.2.1, r13.2.2)) (.opt (F_spec_l1Rd_word n r13.2.1 r13.2.2) fun r16 => (.ask (decide ((IntKind.u64.wrap (IntKind.i64.wrap ((IntKind.i64.wrap (x1 - x0)) + (1 : Int)))) = 0)) .fail (.done ((IntKind.i64.wrap (x0 + (IntKind.i64.wrap (Int.tmod (Int.fdiv r16.1 ((2 : Int) ^ (1 : Nat))) (IntKind.u64.wrap (IntKind.i64.wrap ((IntKind.i64.wrap (x1 - x0)) + (1 : Int)))))))), r16.2.1, r16.2.2))))))))
def F_spec_l1Rd_near : Nat → Int → Int → List (List PV) → Int → Option (Int × (List (List PV)) × Int)
  | 0, _, _, _, _ => none
  | n + 1, x0, x1, x2, x3 => (T_spec_l1Rd_near n x0 x1 x2 x3).run
theorem ft_spec_l1Rd_near (n : Nat) (x0 : Int) (x1 : Int) (x2 : List (List PV)) (x3 : Int) : funT (CT_spec_l1Rd_near n) (LT_spec_l1Rd_near n) K_spec_l1Rd_near (A_spec_l1Rd_near x0 x1 x2 x3) (U_spec_l1Rd_near x0 x1 x2 x3) = (T_spec_l1Rd_near n x0 x1 x2 x3).bind fun r => .done (O_spec_l1Rd_near r) := by kernel_rfl
theorem ct_spec_l1Rd_near (n : Nat) : CTok (CT_spec_l1Rd_near n) (runs KP lib n) := mkCT_cons (eo_spec_l1Rd_below n (noEnt_ok)) (mkCT_cons (eo_spec_l1Rd_word n (noEnt_ok)) (mkCT_nil))
theorem th_spec_l1Rd_near : ∀ (n : Nat) (x0 : Int) (x1 : Int) (x2 : List (List PV)) (x3 : Int) (r : Int × (List (List PV)) × Int), F_spec_l1Rd_near n x0 x1 x2 x3 = some r → runs KP lib n 60 (A_spec_l1Rd_near x0 x1 x2 x3) (U_spec_l1Rd_near x0 x1 x2 x3) = some (O_spec_l1Rd_near r)
  | 0, x0, x1, x2, x3, r, h => by cases h
  | n + 1, x0, x1, x2, x3, r, h => fun_step (kf := K_spec_l1Rd_near) rfl (ct_spec_l1Rd_near n) (noLoops rfl) (ft_spec_l1Rd_near n x0 x1 x2 x3) h
def FH_spec_l1Rd_near (n : Nat) : Cont → Option (Int × (List (List PV)) × Int)
  | ([[[]], [[.i x0]], [[.i x1]]], [[[[.r x2], [.i x3]]]]) => F_spec_l1Rd_near n x0 x1 x2 x3
  | _ => none
def E_spec_l1Rd_near (n : Nat) (d : List AV → List Go.Eng.Frame → Tr Res) : List AV → List Go.Eng.Frame → Tr Res := cent (A_spec_l1Rd_near (0) (0) ([]) (0)) (U_spec_l1Rd_near (0) (0) ([]) (0)) (FH_spec_l1Rd_near n) O_spec_l1Rd_near d
theorem eo_spec_l1Rd_near (n : Nat) {d : List AV → List Go.Eng.Frame → Tr Res} (hd : ∀ ar up r, (d ar up).run = some r → runs KP lib n 60 ar up = some r) : ∀ ar up r, (E_spec_l1Rd_near n d ar up).run = some r → runs KP lib n 60 ar up = some r :=
  cent_ok (fun hs r h => by
    unfold FH_spec_l1Rd_near at h
    split at h
    · exact ⟨A_spec_l1Rd_near _ _ _ _, U_spec_l1Rd_near _ _ _ _, rfl, rfl, th_spec_l1Rd_near n _ _ _ _ r h⟩
    · cases h) hd
/-! ### (*spec.l1Rd).off -/
def A_spec_l1Rd_off (x0 : Int) (x1 : Int) (x2 : List (List PV)) (x3 : Int) : List AV := [(.c (.ptr 0 0 0 0 0)), (.c (.p (.i .i64 x0))), (.c (.p (.i .i64 x1)))]
def U_spec_l1Rd_off (x0 : Int) (x1 : Int) (x2 : List (List PV)) (x3 : Int) : List Go.Eng.Frame := [[(0, ⟨0, 2, 95, (.box [(.p (.ls x2)), (.p (.i .i64 x3))])⟩)]]
def O_spec_l1Rd_off (r : Int × (List (List PV)) × Int) : Res := ⟨(.c (.p (.i .i64 r.1))), [[(0, ⟨0, 2, 95, (.box [(.p (.ls r.2.1)), (.p (.i .i64 r.2.2))])⟩)]], []⟩
abbrev CT_spec_l1Rd_off (n : Nat) : CTab := mkCT [(43, E_spec_l1Rd_once n (noEnt)), (40, E_spec_l1Rd_below n (noEnt)), (60, E_spec_l1Rd_near n (noEnt))]
abbrev LT_spec_l1Rd_off (n : Nat) : LTab := mkLT []
def T_spec_l1Rd_off (n : Nat) (x0 : Int) (x1 : Int) (x2 : List (List PV)) (x3 : Int) : Tr (Int × (List (List PV)) × Int) := (.opt (F_spec_l1Rd_once n (24 : Int) x2 x3) fun r9 => (.ask (r9.1) (.opt (F_spec_l1Rd_below n (4 : Int) r9.2.1 r9.2.2) fun r10 => (.ask (decide (4 = ([[(.i .i64 (IntKind.i64.wrap (x0 - (1 : Int))))], [(.i .i64 (IntKind.i64.wrap (x1 + (1 : Int))))], [(.i .i64 (-9223372036854775808 : Int))], [(.i .i64 (9223372036854775807 : Int))]] : List (List PV)).length ∧ 0 ≤ r10.1 ∧ r10.1 < ((4 : Nat) : Int))) (.opt (([[(.i .i64 (IntKind.i64.wrap (x0 - (1 : Int))))], [(.i .i64 (IntKind.i64.wrap (x1 + (1 : Int))))], [(.i .i64 (-9223372036854775808 : Int))], [(.i .i64 (9223372036854775807 : Int))]] : List (List PV))[(r10.1).toNat]?) fun e11 => (.opt (cellI .i64 e11 0) fun y12 => (.done (y12, r10.2.1, r10.2.2)))) .fail)) (.opt (F_spec_l1Rd_near n x0 x1 r9.2.1 r9.2.2) fun r17 => (.done (r17.1, r17.2.1, r17.2.2)))))
def F_spec_l1Rd_off : Nat → Int → Int → List (List PV) → Int → Option (Int × (List (List PV)) × Int)
  | 0, _, _, _, _ => none
  | n + 1, x0, x1, x2, x3 => (T_spec_l1Rd_off n x0 x1 x2 x3).run
theorem ft_spec_l1Rd_off (n : Nat) (x0 : Int) (x1 : Int) (x2 : List (List PV)) (x3 : Int) : funT (CT_spec_l1Rd_off n) (LT_spec_l1Rd_off n) K_spec_l1Rd_off (A_spec_l1Rd_off x0 x1 x2 x3) (U_spec_l1Rd_off x0 x1 x2 x3) = (T_spec_l1Rd_off n x0 x1 x2 x3).bind fun r => .done (O_spec_l1Rd_off r) := by kernel_rfl
theorem ct_spec_l1Rd_off (n : Nat) : CTok (CT_spec_l1Rd_off n) (runs KP lib n) := mkCT_cons (eo_spec_l1Rd_once n (noEnt_ok)) (mkCT_cons (eo_spec_l1Rd_below n (noEnt_ok)) (mkCT_cons (eo_spec_l1Rd_near n (noEnt_ok)) (mkCT_nil)))
theorem th_spec_l1Rd_off : ∀ (n : Nat) (x0 : Int) (x1 : Int) (x2 : List (List PV)) (x3 : Int) (r : Int × (List (List PV)) × Int), F_spec_l1Rd_off n x0 x1 x2 x3 = some r → runs KP lib n 38 (A_spec_l1Rd_off x0 x1 x2 x3) (U_spec_l1Rd_off x0 x1 x2 x3) = some (O_spec_l1Rd_off r)
  | 0, x0, x1, x2, x3, r, h => by cases h
  | n + 1, x0, x1, x2, x3, r, h => fun_step (kf := K_spec_l1Rd_off) rfl (ct_spec_l1Rd_off n) (noLoops rfl) (ft_spec_l1Rd_off n x0 x1 x2 x3) h
def FH_spec_l1Rd_off (n : Nat) : Cont → Option (Int × (List (List PV)) × Int)
  | ([[[]], [[.i x0]], [[.i x1]]], [[[[.r x2], [.i x3]]]]) => F_spec_l1Rd_off n x0 x1 x2 x3
  | _ => none
def E_spec_l1Rd_off (n : Nat) (d : List AV → List Go.Eng.Frame → Tr Res) : List AV → List Go.Eng.Frame → Tr Res := cent (A_spec_l1Rd_off (0) (0) ([]) (0)) (U_spec_l1Rd_off (0) (0) ([]) (0)) (FH_spec_l1Rd_off n) O_spec_l1Rd_off d
theorem eo_spec_l1Rd_off (n : Nat) {d : List AV → List Go.Eng.Frame → Tr Res} (hd : ∀ ar up r, (d ar up).run = some r → runs KP lib n 38 ar up = some r) : ∀ ar up r, (E_spec_l1Rd_off n d ar up).run = some r → runs KP lib n 38 ar up = some r :=
  cent_ok (fun hs r h => by
    unfold FH_spec_l1Rd_off at h
    split at h
    · exact ⟨A_spec_l1Rd_off _ _ _ _, U_spec_l1Rd_off _ _ _ _, rfl, rfl, th_spec_l1Rd_off n _ _ _ _ r h⟩
    · cases h) hd
/-! ### spec.DrawColText -/
def A_spec_DrawColText (x0 : List (List PV)) : List AV := [(.c (.p (.ls x0)))]
def U_spec_DrawColText (x0 : List (List PV)) : List Go.Eng.Frame := []
def O_spec_DrawColText (r : Int) : Res := ⟨(.c (.p (.i .i64 r))), [], []⟩
abbrev CT_spec_DrawColText (n : Nat) : CTab := mkCT [(37, E_spec_l1Open n (noEnt)), (38, E_spec_l1Rd_off n (noEnt))]
abbrev LT_spec_DrawColText (n : Nat) : LTab := mkLT []
def T_spec_DrawColText (n : Nat) (x0 : List (List PV)) : Tr (Int) := (.opt (F_spec_l1Open n x0) fun r2 => (.opt (F_spec_l1Rd_off n (1 : Int) (52 : Int) r2.1 r2.2) fun r18 => (.done r18.1)))
def F_spec_DrawColText : Nat → List (List PV) → Option (Int)
  | 0, _ => none
  | n + 1, x0 => (T_spec_DrawColText n x0).run
theorem ft_spec_DrawColText (n : Nat) (x0 : List (List PV)) : funT (CT_spec_DrawColText n) (LT_spec_DrawColText n) K_spec_DrawColText (A_spec_DrawColText x0) (U_spec_DrawColText x0) = (T_spec_DrawColText n x0).bind fun r => .done (O_spec_DrawColText r) := by kernel_rfl
theorem ct_spec_DrawColText (n : Nat) : CTok (CT_spec_DrawColText n) (runs KP lib n) := mkCT_cons (eo_spec_l1Open n (noEnt_ok)) (mkCT_cons (eo_spec_l1Rd_off n (noEnt_ok)) (mkCT_nil))
theorem th_spec_DrawColText : ∀ (n : Nat) (x0 : List (List PV)) (r : Int), F_spec_DrawColText n x0 = some r → runs KP lib n 14 (A_spec_DrawColText x0) (U_spec_DrawColText x0) = some (O_spec_DrawColText r)
  | 0, x0, r, h => by cases h
  | n + 1, x0, r, h => fun_step (kf := K_spec_DrawColText) rfl (ct_spec_DrawColText n) (noLoops rfl) (ft_spec_DrawColText n x0) h
def FH_spec_DrawColText (n : Nat) : Cont → Option (Int)
  | ([[[.r x0]]], []) => F_spec_DrawColText n x0
  | _ => none
def E_spec_DrawColText (n : Nat) (d : List AV → List Go.Eng.Frame → Tr Res) : List AV → List Go.Eng.Frame → Tr Res := cent (A_spec_DrawColText ([])) (U_spec_DrawColText ([])) (FH_spec_DrawColText n) O_spec_DrawColText d
theorem eo_spec_DrawColText (n : Nat) {d : List AV → List Go.Eng.Frame → Tr Res} (hd : ∀ ar up r, (d ar up).run = some r → runs KP lib n 14 ar up = some r) : ∀ ar up r, (E_spec_DrawColText n d ar up).run = some r → runs KP lib n 14 ar up = some r :=
  cent_ok (fun hs r h => by
    unfold FH_spec_DrawColText at h
    split at h
    · exact ⟨A_spec_DrawColText _, U_spec_DrawColText _, rfl, rfl, th_spec_DrawColText n _ r h⟩
    · cases h) hd
/-! ### impl.within -/
def A_impl_within (x0 : Int) (x1 : Int) (x2 : Int) : List AV := [(.c (.p (.i .i64 x0))), (.c (.p (.i .i64 x1))), (.c (.p (.i .i64 x2)))]
def U_impl_within (x0 : Int) (x1 : Int) (x2 : Int) : List Go.Eng.Frame := []
def O_impl_within (r : Bool) : Res := ⟨(.c (.p (.b r))), [], []⟩
abbrev CT_impl_within (n : Nat) : CTab := mkCT []
abbrev LT_impl_within (n : Nat) : LTab := mkLT []
def T_impl_within (n : Nat) (x0 : Int) (x1 : Int) (x2 : Int) : Tr (Bool) := (.ask ((decide (x0 ≥ x1))) (.done (decide (x0 ≤ x2))) (.done false))
def F_impl_within : Nat → Int → Int → Int → Option (Bool)
  | 0, _, _, _ => none
  | n + 1, x0, x1, x2 => (T_impl_within n x0 x1 x2).run
theorem ft_impl_within (n : Nat) (x0 : Int) (x1 : Int) (x2 : Int) : funT (CT_impl_within n) (LT_impl_within n) K_impl_within (A_impl_within x0 x1 x2) (U_impl_within x0 x1 x2) = (T_impl_within n x0 x1 x2).bind fun r => .done (O_impl_within r) := by kernel_rfl
theorem ct_impl_within (n : Nat) : CTok (CT_impl_within n) (runs KP lib n) := mkCT_nil
theorem th_impl_within : ∀ (n : Nat) (x0 : Int) (x1 : Int) (x2 : Int) (r : Bool), F_impl_within n x0 x1 x2 = some r → runs KP lib n 39 (A_impl_within x0 x1 x2) (U_impl_within x0 x1 x2) = some (O_impl_within r)
  | 0, x0, x1, x2, r, h => by cases h
  | n + 1, x0, x1, x2, r, h => fun_step (kf := K_impl_within) rfl (ct_impl_within n) (noLoops rfl) (ft_impl_within n x0 x1 x2) h
def FH_impl_within (n : Nat) : Cont → Option (Bool)
  | ([[[.i x0]], [[.i x1]], [[.i x2]]], []) => F_impl_within n x0 x1 x2
  | _ => none
def E_impl_within (n : Nat) (d : List AV → List Go.Eng.Frame → Tr Res) : List AV → List Go.Eng.Frame → Tr Res := cent (A_impl_within (0) (0) (0)) (U_impl_within (0) (0) (0)) (FH_impl_within n) O_impl_within d
theorem eo_impl_within (n : Nat) {d : List AV → List Go.Eng.Frame → Tr Res} (hd : ∀ ar up r, (d ar up).run = some r → runs KP lib n 39 ar up = some r) : ∀ ar up r, (E_impl_within n d ar up).run = some r → runs KP lib n 39 ar up = some r :=
  cent_ok (fun hs r h => by
    unfold FH_impl_within at h
    split at h
    · exact ⟨A_impl_within _ _ _, U_impl_within _ _ _, rfl, rfl, th_impl_within n _ _ _ r h⟩
    · cases h) hd
/-! ### impl.ColText -/
def A_impl_ColText (x0 : Int) : List AV := [(.c (.p (.i .i64 x0)))]
def U_impl_ColText (x0 : Int) : List Go.Eng.Frame := []
def O_impl_ColText (r : ByteArray) : Res := ⟨(.c (.p (.s r))), [], []⟩
abbrev CT_impl_ColText (n : Nat) : CTab := mkCT [(39, E_impl_within n (noEnt))]
abbrev LT_impl_ColText (n : Nat) : LTab := mkLT []
def T_impl_ColText (n : Nat) (x0 : Int) : Tr (ByteArray) := (.opt (F_impl_within n x0 (1 : Int) (52 : Int)) fun r20 => (.ask ((!r20)) (.done (⟨#[]⟩ : ByteArray)) (.ask ((decide (x0 ≤ (26 : Int)))) (.ask (decide (1 = ([[(.i .u8 (IntKind.u8.wrap (IntKind.i64.wrap ((IntKind.i64.wrap ((65 : Int) + x0)) - (1 : Int)))))]] : List (List PV)).length)) (.opt (bytesOf ([[(.i .u8 (IntKind.u8.wrap (IntKind.i64.wrap ((IntKind.i64.wrap ((65 : Int) + x0)) - (1 : Int)))))]] : List (List PV))) fun l21 => (.done (⟨l21.toArray⟩ : ByteArray))) .fail) (.ask (decide (2 = ([[(.i .u8 (IntKind.u8.wrap (IntKind.i64.wrap ((IntKind.i64.wrap ((65 : Int) + (IntKind.i64.wrap (Int.tdiv (IntKind.i64.wrap (x0 - (1 : Int))) (26 : Int))))) - (1 : Int)))))], [(.i .u8 (IntKind.u8.wrap (IntKind.i64.wrap ((65 : Int) + (Int.tmod (IntKind.i64.wrap (x0 - (1 : Int))) (26 : Int))))))]] : List (List PV)).length)) (.opt (bytesOf ([[(.i .u8 (IntKind.u8.wrap (IntKind.i64.wrap ((IntKind.i64.wrap ((65 : Int) + (IntKind.i64.wrap (Int.tdiv (IntKind.i64.wrap (x0 - (1 : Int))) (26 : Int))))) - (1 : Int)))))], [(.i .u8 (IntKind.u8.wrap (IntKind.i64.wrap ((65 : Int) + (Int.tmod (IntKind.i64.wrap (x0 - (1 : Int))) (26 : Int))))))]] : List (List PV))) fun l22 => (.done (⟨l22.toArray⟩ : ByteArray))) .fail))))
def F_impl_ColText : Nat → Int → Option (ByteArray)
  | 0, _ => none
  | n + 1, x0 => (T_impl_ColText n x0).run
theorem ft_impl_ColText (n : Nat) (x0 : Int) : funT (CT_impl_ColText n) (LT_impl_ColText n) K_impl_ColText (A_impl_ColText x0) (U_impl_ColText x0) = (T_impl_ColText n x0).bind fun r => .done (O_impl_ColText r) := by kernel_rfl
theorem ct_impl_ColText (n : Nat) : CTok (CT_impl_ColText n) (runs KP lib n) := mkCT_cons (eo_impl_within n (noEnt_ok)) (mkCT_nil)
theorem th_impl_ColText : ∀ (n : Nat) (x0 : Int) (r : ByteArray), F_impl_ColText n x0 = some r → runs KP lib n 15 (A_impl_ColText x0) (U_impl_ColText x0) = some (O_impl_ColText r)
  | 0, x0, r, h => by cases h
  | n + 1, x0, r, h => fun_step (kf := K_impl_ColText) rfl (ct_impl_ColText n) (noLoops rfl) (ft_impl_ColText n x0) h
def FH_impl_ColText (n : Nat) : Cont → Option (ByteArray)
  | ([[[.i x0]]], []) => F_impl_ColText n x0
  | _ => none
def E_impl_ColText (n : Nat) (d : List AV → List Go.Eng.Frame → Tr Res) : List AV → List Go.Eng.Frame → Tr Res := cent (A_impl_ColText (0)) (U_impl_ColText (0)) (FH_impl_ColText n) O_impl_ColText d
theorem eo_impl_ColText (n : Nat) {d : List AV → List Go.Eng.Frame → Tr Res} (hd : ∀ ar up r, (d ar up).run = some r → runs KP lib n 15 ar up = some r) : ∀ ar up r, (E_impl_ColText n d ar up).run = some r → runs KP lib n 15 ar up = some r :=
  cent_ok (fun hs r h => by
    unfold FH_impl_ColText at h
    split at h
    · exact ⟨A_impl_ColText _, U_impl_ColText _, rfl, rfl, th_impl_ColText n _ r h⟩
    · cases h) hd
/-! ### spec.DrawReadCol -/
def A_spec_DrawReadCol (x0 : List (List PV)) : List AV := [(.c (.p (.ls x0)))]
def U_spec_DrawReadCol (x0 : List (List PV)) : List Go.Eng.Frame := []
def O_spec_DrawReadCol (r : ByteArray) : Res := ⟨(.c (.p (.s r))), [], []⟩
abbrev CT_spec_DrawReadCol (n : Nat) : CTab := mkCT [(37, E_spec_l1Open n (noEnt)), (40, E_spec_l1Rd_below n (noEnt))]
abbrev LT_spec_DrawReadCol (n : Nat) : LTab := mkLT []
def T_spec_DrawReadCol (n : Nat) (x0 : List (List PV)) : Tr (ByteArray) := (.opt (F_spec_l1Open n x0) fun r24 => (.opt (F_spec_l1Rd_below n (10 : Int) r24.1 r24.2) fun r25 => (.ask (decide (10 = ([[(.s (⟨#[65]⟩ : ByteArray))], [(.s (⟨#[90]⟩ : ByteArray))], [(.s (⟨#[65, 65]⟩ : ByteArray))], [(.s (⟨#[65, 90]⟩ : ByteArray))], [(.s (⟨#[66, 65]⟩ : ByteArray))], [(.s (⟨#[]⟩ : ByteArray))], [(.s (⟨#[97]⟩ : ByteArray))], [(.s (⟨#[49]⟩ : ByteArray))], [(.s (⟨#[65, 66, 67]⟩ : ByteArray))], [(.s (⟨#[66]⟩ : ByteArray))]] : List (List PV)).length ∧ 0 ≤ r25.1 ∧ r25.1 < ((10 : Nat) : Int))) (.opt (([[(.s (⟨#[65]⟩ : ByteArray))], [(.s (⟨#[90]⟩ : ByteArray))], [(.s (⟨#[65, 65]⟩ : ByteArray))], [(.s (⟨#[65, 90]⟩ : ByteArray))], [(.s (⟨#[66, 65]⟩ : ByteArray))], [(.s (⟨#[]⟩ : ByteArray))], [(.s (⟨#[97]⟩ : ByteArray))], [(.s (⟨#[49]⟩ : ByteArray))], [(.s (⟨#[65, 66, 67]⟩ : ByteArray))], [(.s (⟨#[66]⟩ : ByteArray))]] : List (List PV))[(r25.1).toNat]?) fun e26 => (.opt (cellS e26 0) fun y27 => (.done y27))) .fail)))
def F_spec_DrawReadCol : Nat → List (List PV) → Option (ByteArray)
  | 0, _ => none
  | n + 1, x0 => (T_spec_DrawReadCol n x0).run
theorem ft_spec_DrawReadCol (n : Nat) (x0 : List (List PV)) : funT (CT_spec_DrawReadCol n) (LT_spec_DrawReadCol n) K_spec_DrawReadCol (A_spec_DrawReadCol x0) (U_spec_DrawReadCol x0) = (T_spec_DrawReadCol n x0).bind fun r => .done (O_spec_DrawReadCol r) := by kernel_rfl
theorem ct_spec_DrawReadCol (n : Nat) : CTok (CT_spec_DrawReadCol n) (runs KP lib n) := mkCT_cons (eo_spec_l1Open n (noEnt_ok)) (mkCT_cons (eo_spec_l1Rd_below n (noEnt_ok)) (mkCT_nil))
theorem th_spec_DrawReadCol : ∀ (n : Nat) (x0 : List (List PV)) (r : ByteArray), F_spec_DrawReadCol n x0 = some r → runs KP lib n 16 (A_spec_DrawReadCol x0) (U_spec_DrawReadCol x0) = some (O_spec_DrawReadCol r)
  | 0, x0, r, h => by cases h
  | n + 1, x0, r, h => fun_step (kf := K_spec_DrawReadCol) rfl (ct_spec_DrawReadCol n) (noLoops rfl) (ft_spec_DrawReadCol n x0) h
def FH_spec_DrawReadCol (n : Nat) : Cont → Option (ByteArray)
  | ([[[.r x0]]], []) => F_spec_DrawReadCol n x0
  | _ => none
def E_spec_DrawReadCol (n : Nat) (d : List AV → List Go.Eng.Frame → Tr Res) : List AV → List Go.Eng.Frame → Tr Res := cent (A_spec_DrawReadCol ([])) (U_spec_DrawReadCol ([])) (FH_spec_DrawReadCol n) O_spec_DrawReadCol d
theorem eo_spec_DrawReadCol (n : Nat) {d : List AV → List Go.Eng.Frame → Tr Res} (hd : ∀ ar up r, (d ar up).run = some r → runs KP lib n 16 ar up = some r) : ∀ ar up r, (E_spec_DrawReadCol n d ar up).run = some r → runs KP lib n 16 ar up = some r :=
  cent_ok (fun hs r h => by
    unfold FH_spec_DrawReadCol at h
    split at h
    · exact ⟨A_spec_DrawReadCol _, U_spec_DrawReadCol _, rfl, rfl, th_spec_DrawReadCol n _ r h⟩
    · cases h) hd
/-! ### spec.l1In -/
def A_spec_l1In (x0 : Int) (x1 : Int) (x2 : Int) : List AV := [(.c (.p (.i .i64 x0))), (.c (.p (.i .i64 x1))), (.c (.p (.i .i64 x2)))]
def U_spec_l1In (x0 : Int) (x1 : Int) (x2 : Int) : List Go.Eng.Frame := []
def O_spec_l1In (r : Bool) : Res := ⟨(.c (.p (.b r))), [], []⟩
abbrev CT_spec_l1In (n : Nat) : CTab := mkCT []
abbrev LT_spec_l1In (n : Nat) : LTab := mkLT []
def T_spec_l1In (n : Nat) (x0 : Int) (x1 : Int) (x2 : Int) : Tr (Bool) := (.ask ((decide (x0 ≥ x1))) (.done (decide (x0 ≤ x2))) (.done false))
def F_spec_l1In : Nat → Int → Int → Int → Option (Bool)
  | 0, _, _, _ => none
  | n + 1, x0, x1, x2 => (T_spec_l1In n x0 x1 x2).run
theorem ft_spec_l1In (n : Nat) (x0 : Int) (x1 : Int) (x2 : Int) : funT (CT_spec_l1In n) (LT_spec_l1In n) K_spec_l1In (A_spec_l1In x0 x1 x2) (U_spec_l1In x0 x1 x2) = (T_spec_l1In n x0 x1 x2).bind fun r => .done (O_spec_l1In r) := by kernel_rfl
theorem ct_spec_l1In (n : Nat) : CTok (CT_spec_l1In n) (runs KP lib n) := mkCT_nil
theorem th_spec_l1In : ∀ (n : Nat) (x0 : Int) (x1 : Int) (x2 : Int) (r : Bool), F_spec_l1In n x0 x1 x2 = some r → runs KP lib n 41 (A_spec_l1In x0 x1 x2) (U_spec_l1In x0 x1 x2) = some (O_spec_l1In r)
  | 0, x0, x1, x2, r, h => by cases h
  | n + 1, x0, x1, x2, r, h => fun_step (kf := K_spec_l1In) rfl (ct_spec_l1In n) (noLoops rfl) (ft_spec_l1In n x0 x1 x2) h
def FH_spec_l1In (n : Nat) : Cont → Option (Bool)
  | ([[[.i x0]], [[.i x1]], [[.i x2]]], []) => F_spec_l1In n x0 x1 x2
  | _ => none
def E_spec_l1In (n : Nat) (d : List AV → List Go.Eng.Frame → Tr Res) : List AV → List Go.Eng.Frame → Tr Res := cent (A_spec_l1In (0) (0) (0)) (U_spec_l1In (0) (0) (0)) (FH_spec_l1In n) O_spec_l1In d
theorem eo_spec_l1In (n : Nat) {d : List AV → List Go.Eng.Frame → Tr Res} (hd : ∀ ar up r, (d ar up).run = some r → runs KP lib n 41 ar up = some r) : ∀ ar up r, (E_spec_l1In n d ar up).run = some r → runs KP lib n 41 ar up = some r :=
  cent_ok (fun hs r h => by
    unfold FH_spec_l1In at h
    split at h
    · exact ⟨A_spec_l1In _ _ _, U_spec_l1In _ _ _, rfl, rfl, th_spec_l1In n _ _ _ r h⟩
    · cases h) hd
/-! ### spec.ColText -/
def A_spec_ColText (x0 : Int) : List AV := [(.c (.p (.i .i64 x0)))]
def U_spec_ColText (x0 : Int) : List Go.Eng.Frame := []
def O_spec_ColText (r : ByteArray) : Res := ⟨(.c (.p (.s r))), [], []⟩
abbrev CT_spec_ColText (n : Nat) : CTab := mkCT [(41, E_spec_l1In n (noEnt))]
def S_spec_ColText_30 (v : Int × ByteArray) : St := ⟨[(0, (.c (.p (.i .i64 v.1)))), (3, (.c (.p (.s v.2))))], [], []⟩
def B_spec_ColText_30 (n : Nat) (v : Int × ByteArray) : Tr ((Int × ByteArray) ⊕ ((ByteArray))) := (.ask ((decide (v.1 > (0 : Int)))) (.ask (decide (1 = ([[(.i .u8 (IntKind.u8.wrap (IntKind.i64.wrap ((65 : Int) + (Int.tmod (IntKind.i64.wrap (v.1 - (1 : Int))) (26 : Int))))))]] : List (List PV)).length)) (.opt (bytesOf ([[(.i .u8 (IntKind.u8.wrap (IntKind.i64.wrap ((65 : Int) + (Int.tmod (IntKind.i64.wrap (v.1 - (1 : Int))) (26 : Int))))))]] : List (List PV))) fun l30 => (.ask (decide ((⟨l30.toArray⟩ : ByteArray).size + v.2.size ≤ 9223372036854775807)) (.done (.inl ((IntKind.i64.wrap (Int.tdiv (IntKind.i64.wrap (v.1 - (1 : Int))) (26 : Int))), ((⟨l30.toArray⟩ : ByteArray) ++ v.2)))) .fail)) .fail) (.done (.inr (v.2))))
def D_spec_ColText_30 : (ByteArray) → Ex × St := fun r => ((.exit 0), ⟨[(3, (.c (.p (.s r))))], [], []⟩)
def DT_spec_ColText_30 : (ByteArray) → Tr (Ex × St) := fun r => .done ((.exit 0), ⟨[(3, (.c (.p (.s r))))], [], []⟩)
def VH_spec_ColText_30 : Cont3 → Option (Int × ByteArray)
  | ([[[.i w0]], [[.s w1]]], [], []) => some (w0, w1)
  | _ => none
abbrev LE_spec_ColText_30 (n : Nat) : St → Tr (Ex × St) := lent (S_spec_ColText_30 (0, ⟨#[]⟩)) VH_spec_ColText_30 (B_spec_ColText_30 n) DT_spec_ColText_30 n
abbrev LT_spec_ColText (n : Nat) : LTab := mkLT [(30, LE_spec_ColText_30 n)]
def T_spec_ColText (n : Nat) (x0 : Int) : Tr (ByteArray) := (.opt (F_spec_l1In n x0 (1 : Int) (52 : Int)) fun r29 => (.ask ((!r29)) (.done (⟨#[]⟩ : ByteArray)) (.opt (loopF (B_spec_ColText_30 n) n (x0, (⟨#[]⟩ : ByteArray))) fun r31 => (.done r31))))
def F_spec_ColText : Nat → Int → Option (ByteArray)
  | 0, _ => none
  | n + 1, x0 => (T_spec_ColText n x0).run
theorem ft_spec_ColText (n : Nat) (x0 : Int) : funT (CT_spec_ColText n) (LT_spec_ColText n) K_spec_ColText (A_spec_ColText x0) (U_spec_ColText x0) = (T_spec_ColText n x0).bind fun r => .done (O_spec_ColText r) := by kernel_rfl
theorem ct_spec_ColText (n : Nat) : CTok (CT_spec_ColText n) (runs KP lib n) := mkCT_cons (eo_spec_l1In n (noEnt_ok)) (mkCT_nil)
theorem lt_spec_ColText_30 (n : Nat) (v : Int × ByteArray) : (evalCT (CT_spec_ColText n) (mkLT []) K_spec_ColText_L30 (S_spec_ColText_30 v) []).bind (ltail [0, 3] [(.ret, [2]), ((.exit 0), [3])]) = (B_spec_ColText_30 n v).bind (lenc S_spec_ColText_30 D_spec_ColText_30) := by
  obtain ⟨w0, w1⟩ := v
  kernel_rfl
theorem le_spec_ColText_30 (n : Nat) : LEok (runs KP lib n) n (30, [0, 3], [(.ret, [2]), ((.exit 0), [3])], K_spec_ColText_L30) (LE_spec_ColText_30 n) := fun st e s h =>
  lent_ok (ct_spec_ColText n) (noLoops rfl) (lt_spec_ColText_30 n) (fun r h => by cases h) (fun r y h => by cases h; rfl) (fun hs v h => by
    unfold VH_spec_ColText_30 at h
    split at h <;> cases h
    rfl) h
theorem lo_spec_ColText (n : Nat) : LTok (LT_spec_ColText n) (runs KP lib n) n K_spec_ColText.body := mkLT_ok (by
  intro x hx
  have hx : x ∈ ([(30, [0, 3], [(.ret, [2]), ((.exit 0), [3])], K_spec_ColText_L30)] : List (Nat × List Nat × List (Ex × List Nat) × KCode)) := hx
  simp only [List.mem_cons, List.not_mem_nil, or_false] at hx
  rcases hx with rfl
  · exact ⟨LE_spec_ColText_30 n, fun st => rfl, le_spec_ColText_30 n⟩)
theorem th_spec_ColText : ∀ (n : Nat) (x0 : Int) (r : ByteArray), F_spec_ColText n x0 = some r → runs KP lib n 17 (A_spec_ColText x0) (U_spec_ColText x0) = some (O_spec_ColText r)
  | 0, x0, r, h => by cases h
  | n + 1, x0, r, h => fun_step (kf := K_spec_ColText) rfl (ct_spec_ColText n) (lo_spec_ColText n) (ft_spec_ColText n x0) h
def FH_spec_ColText (n : Nat) : Cont → Option (ByteArray)
  | ([[[.i x0]]], []) => F_spec_ColText n x0
  | _ => none
def E_spec_ColText (n : Nat) (d : List AV → List Go.Eng.Frame → Tr Res) : List AV → List Go.Eng.Frame → Tr Res := cent (A_spec_ColText (0)) (U_spec_ColText (0)) (FH_spec_ColText n) O_spec_ColText d
theorem eo_spec_ColText (n : Nat) {d : List AV → List Go.Eng.Frame → Tr Res} (hd : ∀ ar up r, (d ar up).run = some r → runs KP lib n 17 ar up = some r) : ∀ ar up r, (E_spec_ColText n d ar up).run = some r → runs KP lib n 17 ar up = some r :=
  cent_ok (fun hs r h => by
    unfold FH_spec_ColText at h
    split at h
    · exact ⟨A_spec_ColText _, U_spec_ColText _, rfl, rfl, th_spec_ColText n _ r h⟩
    · cases h) hd
/-! ### impl.ReadCol -/
def A_impl_ReadCol (x0 : ByteArray) : List AV := [(.c (.p (.s x0)))]
def U_impl_ReadCol (x0 : ByteArray) : List Go.Eng.Frame := []
def O_impl_ReadCol (r : Int) : Res := ⟨(.c (.p (.i .i64 r))), [], []⟩
abbrev CT_impl_ReadCol (n : Nat) : CTab := mkCT [(15, E_impl_ColText n (noEnt))]
def S_impl_ReadCol_13 (v : ByteArray × Int) : St := ⟨[(0, (.c (.p (.s v.1)))), (3, (.c (.p (.i .i64 v.2))))], [], []⟩
def B_impl_ReadCol_13 (n : Nat) (v : ByteArray × Int) : Tr ((ByteArray × Int) ⊕ ((Int) ⊕ (Unit))) := (.ask ((decide (v.2 ≤ (52 : Int)))) (.opt (F_impl_ColText n v.2) fun r33 => (.ask ((r33.toList == v.1.toList)) (.done (.inr (.inl (v.2)))) (.done (.inl (v.1, (IntKind.i64.wrap (v.2 + (1 : Int)))))))) (.done (.inr (.inr (())))))
def D_impl_ReadCol_13 : ((Int) ⊕ (Unit)) → Ex × St := fun | .inl r => (.ret, ⟨[(2, (.c (.p (.i .i64 r))))], [], []⟩) | .inr r => (fun r => ((.exit 0), ⟨[], [], []⟩)) r
def DT_impl_ReadCol_13 : ((Int) ⊕ (Unit)) → Tr (Ex × St) := fun r => .alt r (fun r => .done (.ret, ⟨[(2, (.c (.p (.i .i64 r))))], [], []⟩)) (fun r => .done ((.exit 0), ⟨[], [], []⟩))
def VH_impl_ReadCol_13 : Cont3 → Option (ByteArray × Int)
  | ([[[.s w0]], [[.i w1]]], [], []) => some (w0, w1)
  | _ => none
abbrev LE_impl_ReadCol_13 (n : Nat) : St → Tr (Ex × St) := lent (S_impl_ReadCol_13 (⟨#[]⟩, 0)) VH_impl_ReadCol_13 (B_impl_ReadCol_13 n) DT_impl_ReadCol_13 n
abbrev LT_impl_ReadCol (n : Nat) : LTab := mkLT [(13, LE_impl_ReadCol_13 n)]
def T_impl_ReadCol (n : Nat) (x0 : ByteArray) : Tr (Int) := (.opt (loopF (B_impl_ReadCol_13 n) n (x0, (1 : Int))) fun r34 => (.alt r34 (fun r35 => (.done r35)) (fun r36 => (.done (0 : Int)))))
def F_impl_ReadCol : Nat → ByteArray → Option (Int)
  | 0, _ => none
  | n + 1, x0 => (T_impl_ReadCol n x0).run
theorem ft_impl_ReadCol (n : Nat) (x0 : ByteArray) : funT (CT_impl_ReadCol n) (LT_impl_ReadCol n) K_impl_ReadCol (A_impl_ReadCol x0) (U_impl_ReadCol x0) = (T_impl_ReadCol n x0).bind fun r => .done (O_impl_ReadCol r) := by kernel_rfl
theorem ct_impl_ReadCol (n : Nat) : CTok (CT_impl_ReadCol n) (runs KP lib n) := mkCT_cons (eo_impl_ColText n (noEnt_ok)) (mkCT_nil)
theorem lt_impl_ReadCol_13 (n : Nat) (v : ByteArray × Int) : (evalCT (CT_impl_ReadCol n) (mkLT []) K_impl_ReadCol_L13 (S_impl_ReadCol_13 v) []).bind (ltail [0, 3] [(.ret, [2]), ((.exit 0), [])]) = (B_impl_ReadCol_13 n v).bind (lenc S_impl_ReadCol_13 D_impl_ReadCol_13) := by
  obtain ⟨w0, w1⟩ := v
  kernel_rfl
theorem le_impl_ReadCol_13 (n : Nat) : LEok (runs KP lib n) n (13, [0, 3], [(.ret, [2]), ((.exit 0), [])], K_impl_ReadCol_L13) (LE_impl_ReadCol_13 n) := fun st e s h =>
  lent_ok (ct_impl_ReadCol n) (noLoops rfl) (lt_impl_ReadCol_13 n) (fun r => by
    rcases r with r | r <;> (intro h; cases h)) (fun r y h => by
    rcases r with r | r <;> (cases h; rfl)) (fun hs v h => by
    unfold VH_impl_ReadCol_13 at h
    split at h <;> cases h
    rfl) h
theorem lo_impl_ReadCol (n : Nat) : LTok (LT_impl_ReadCol n) (runs KP lib n) n K_impl_ReadCol.body := mkLT_ok (by
  intro x hx
  have hx : x ∈ ([(13, [0, 3], [(.ret, [2]), ((.exit 0), [])], K_impl_ReadCol_L13)] : List (Nat × List Nat × List (Ex × List Nat) × KCode)) := hx
  simp only [List.mem_cons, List.not_mem_nil, or_false] at hx
  rcases hx with rfl
  · exact ⟨LE_impl_ReadCol_13 n, fun st => rfl, le_impl_ReadCol_13 n⟩)
theorem th_impl_ReadCol : ∀ (n : Nat) (x0 : ByteArray) (r : Int), F_impl_ReadCol n x0 = some r → runs KP lib n 18 (A_impl_ReadCol x0) (U_impl_ReadCol x0) = some (O_impl_ReadCol r)
  | 0, x0, r, h => by cases h
  | n + 1, x0, r, h => fun_step (kf := K_impl_ReadCol) rfl (ct_impl_ReadCol n) (lo_impl_ReadCol n) (ft_impl_ReadCol n x0) h
def FH_impl_ReadCol (n : Nat) : Cont → Option (Int)
  | ([[[.s x0]]], []) => F_impl_ReadCol n x0
  | _ => none
def E_impl_ReadCol (n : Nat) (d : List AV → List Go.Eng.Frame → Tr Res) : List AV → List Go.Eng.Frame → Tr Res := cent (A_impl_ReadCol (⟨#[]⟩)) (U_impl_ReadCol (⟨#[]⟩)) (FH_impl_ReadCol n) O_impl_ReadCol d
theorem eo_impl_ReadCol (n : Nat) {d : List AV → List Go.Eng.Frame → Tr Res} (hd : ∀ ar up r, (d ar up).run = some r → runs KP lib n 18 ar up = some r) : ∀ ar up r, (E_impl_ReadCol n d ar up).run = some r → runs KP lib n 18 ar up = some r :=
  cent_ok (fun hs r h => by
    unfold FH_impl_ReadCol at h
    split at h
    · exact ⟨A_impl_ReadCol _, U_impl_ReadCol _, rfl, rfl, th_impl_ReadCol n _ r h⟩
    · cases h) hd
/-! ### spec.ReadCol -/
def A_spec_ReadCol (x0 : ByteArray) : List AV := [(.c (.p (.s x0)))]
def U_spec_ReadCol (x0 : ByteArray) : List Go.Eng.Frame := []
def O_spec_ReadCol (r : Int) : Res := ⟨(.c (.p (.i .i64 r))), [], []⟩
abbrev CT_spec_ReadCol (n : Nat) : CTab := mkCT [(17, E_spec_ColText n (noEnt))]
def S_spec_ReadCol_13 (v : ByteArray × Int) : St := ⟨[(0, (.c (.p (.s v.1)))), (3, (.c (.p (.i .i64 v.2))))], [], []⟩
def B_spec_ReadCol_13 (n : Nat) (v : ByteArray × Int) : Tr ((ByteArray × Int) ⊕ ((Int) ⊕ (Unit))) := (.ask ((decide (v.2 ≤ (52 : Int)))) (.opt (F_spec_ColText n v.2) fun r38 => (.ask ((r38.toList == v.1.toList)) (.done (.inr (.inl (v.2)))) (.done (.inl (v.1, (IntKind.i64.wrap (v.2 + (1 : Int)))))))) (.done (.inr (.inr (())))))
def D_spec_ReadCol_13 : ((Int) ⊕ (Unit)) → Ex × St := fun | .inl r => (.ret, ⟨[(2, (.c (.p (.i .i64 r))))], [], []⟩) | .inr r => (fun r => ((.exit 0), ⟨[], [], []⟩)) r
def DT_spec_ReadCol_13 : ((Int) ⊕ (Unit)) → Tr (Ex × St) := fun r => .alt r (fun r => .done (.ret, ⟨[(2, (.c (.p (.i .i64 r))))], [], []⟩)) (fun r => .done ((.exit 0), ⟨[], [], []⟩))
def VH_spec_ReadCol_13 : Cont3 → Option (ByteArray × Int)
  | ([[[.s w0]], [[.i w1]]], [], []) => some (w0, w1)
  | _ => none
abbrev LE_spec_ReadCol_13 (n : Nat) : St → Tr (Ex × St) := lent (S_spec_ReadCol_13 (⟨#[]⟩, 0)) VH_spec_ReadCol_13 (B_spec_ReadCol_13 n) DT_spec_ReadCol_13 n
abbrev LT_spec_ReadCol (n : Nat) : LTab := mkLT [(13, LE_spec_ReadCol_13 n)]
def T_spec_ReadCol (n : Nat) (x0 : ByteArray) : Tr (Int) := (.opt (loopF (B_spec_ReadCol_13 n) n (x0, (1 : Int))) fun r39 => (.alt r39 (fun r40 => (.done r40)) (fun r41 => (.done (0 : Int)))))
def F_spec_ReadCol : Nat → ByteArray → Option (Int)
  | 0, _ => none
  | n + 1, x0 => (T_spec_ReadCol n x0).run
theorem ft_spec_ReadCol (n : Nat) (x0 : ByteArray) : funT (CT_spec_ReadCol n) (LT_spec_ReadCol n) K_spec_ReadCol (A_spec_ReadCol x0) (U_spec_ReadCol x0) = (T_spec_ReadCol n x0).bind fun r => .done (O_spec_ReadCol r) := by kernel_rfl
theorem ct_spec_ReadCol (n : Nat) : CTok (CT_spec_ReadCol n) (runs KP lib n) := mkCT_cons (eo_spec_ColText n (noEnt_ok)) (mkCT_nil)
theorem lt_spec_ReadCol_13 (n : Nat) (v : ByteArray × Int) : (evalCT (CT_spec_ReadCol n) (mkLT []) K_spec_ReadCol_L13 (S_spec_ReadCol_13 v) []).bind (ltail [0, 3] [(.ret, [2]), ((.exit 0), [])]) = (B_spec_ReadCol_13 n v).bind (lenc S_spec_ReadCol_13 D_spec_ReadCol_13) := by
  obtain ⟨w0, w1⟩ := v
  kernel_rfl
theorem le_spec_ReadCol_13 (n : Nat) : LEok (runs KP lib n) n (13, [0, 3], [(.ret, [2]), ((.exit 0), [])], K_spec_ReadCol_L13) (LE_spec_ReadCol_13 n) := fun st e s h =>
  lent_ok (ct_spec_ReadCol n) (noLoops rfl) (lt_spec_ReadCol_13 n) (fun r => by
    rcases r with r | r <;> (intro h; cases h)) (fun r y h => by
    rcases r with r | r <;> (cases h; rfl)) (fun hs v h => by
    unfold VH_spec_ReadCol_13 at h
    split at h <;> cases h
    rfl) h
theorem lo_spec_ReadCol (n : Nat) : LTok (LT_spec_ReadCol n) (runs KP lib n) n K_spec_ReadCol.body := mkLT_ok (by
  intro x hx
  have hx : x ∈ ([(13, [0, 3], [(.ret, [2]), ((.exit 0), [])], K_spec_ReadCol_L13)] : List (Nat × List Nat × List (Ex × List Nat) × KCode)) := hx
  simp only [List.mem_cons, List.not_mem_nil, or_false] at hx
  rcases hx with rfl
  · exact ⟨LE_spec_ReadCol_13 n, fun st => rfl, le_spec_ReadCol_13 n⟩)
theorem th_spec_ReadCol : ∀ (n : Nat) (x0 : ByteArray) (r : Int), F_spec_ReadCol n x0 = some r → runs KP lib n 19 (A_spec_ReadCol x0) (U_spec_ReadCol x0) = some (O_spec_ReadCol r)
  | 0, x0, r, h => by cases h
  | n + 1, x0, r, h => fun_step (kf := K_spec_ReadCol) rfl (ct_spec_ReadCol n) (lo_spec_ReadCol n) (ft_spec_ReadCol n x0) h
def FH_spec_ReadCol (n : Nat) : Cont → Option (Int)
  | ([[[.s x0]]], []) => F_spec_ReadCol n x0
  | _ => none
def E_spec_ReadCol (n : Nat) (d : List AV → List Go.Eng.Frame → Tr Res) : List AV → List Go.Eng.Frame → Tr Res := cent (A_spec_ReadCol (⟨#[]⟩)) (U_spec_ReadCol (⟨#[]⟩)) (FH_spec_ReadCol n) O_spec_ReadCol d
theorem eo_spec_ReadCol (n : Nat) {d : List AV → List Go.Eng.Frame → Tr Res} (hd : ∀ ar up r, (d ar up).run = some r → runs KP lib n 19 ar up = some r) : ∀ ar up r, (E_spec_ReadCol n d ar up).run = some r → runs KP lib n 19 ar up = some r :=
  cent_ok (fun hs r h => by
    unfold FH_spec_ReadCol at h
    split at h
    · exact ⟨A_spec_ReadCol _, U_spec_ReadCol _, rfl, rfl, th_spec_ReadCol n _ r h⟩
    · cases h) hd
/-! ### (*spec.l1Rd).ref -/
def A_spec_l1Rd_ref (x0 : List (List PV)) (x1 : Int) : List AV := [(.c (.ptr 0 0 0 0 0))]
def U_spec_l1Rd_ref (x0 : List (List PV)) (x1 : Int) : List Go.Eng.Frame := [[(0, ⟨0, 2, 95, (.box [(.p (.ls x0)), (.p (.i .i64 x1))])⟩)]]
def O_spec_l1Rd_ref (r : Int × Int × (List (List PV)) × Int) : Res := ⟨(.agg [(.p (.i .i64 r.1)), (.p (.i .i64 r.2.1))]), [[(0, ⟨0, 2, 95, (.box [(.p (.ls r.2.2.1)), (.p (.i .i64 r.2.2.2))])⟩)]], []⟩
abbrev CT_spec_l1Rd_ref (n : Nat) : CTab := mkCT [(40, E_spec_l1Rd_below n (noEnt))]
abbrev LT_spec_l1Rd_ref (n : Nat) : LTab := mkLT []
def T_spec_l1Rd_ref (n : Nat) (x0 : List (List PV)) (x1 : Int) : Tr (Int × Int × (List (List PV)) × Int) := (.opt (F_spec_l1Rd_below n (3 : Int) x0 x1) fun r45 => (.opt (F_spec_l1Rd_below n (4 : Int) r45.2.1 r45.2.2) fun r46 => (.done ((IntKind.i64.wrap ((1 : Int) + r45.1)), (IntKind.i64.wrap ((1 : Int) + r46.1)), r46.2.1, r46.2.2))))
def F_spec_l1Rd_ref : Nat → List (List PV) → Int → Option (Int × Int × (List (List PV)) × Int)
  | 0, _, _ => none
  | n + 1, x0, x1 => (T_spec_l1Rd_ref n x0 x1).run
theorem ft_spec_l1Rd_ref (n : Nat) (x0 : List (List PV)) (x1 : Int) : funT (CT_spec_l1Rd_ref n) (LT_spec_l1Rd_ref n) K_spec_l1Rd_ref (A_spec_l1Rd_ref x0 x1) (U_spec_l1Rd_ref x0 x1) = (T_spec_l1Rd_ref n x0 x1).bind fun r => .done (O_spec_l1Rd_ref r) := by kernel_rfl
theorem ct_spec_l1Rd_ref (n : Nat) : CTok (CT_spec_l1Rd_ref n) (runs KP lib n) := mkCT_cons (eo_spec_l1Rd_below n (noEnt_ok)) (mkCT_nil)
theorem th_spec_l1Rd_ref : ∀ (n : Nat) (x0 : List (List PV)) (x1 : Int) (r : Int × Int × (List (List PV)) × Int), F_spec_l1Rd_ref n x0 x1 = some r → runs KP lib n 62 (A_spec_l1Rd_ref x0 x1) (U_spec_l1Rd_ref x0 x1) = some (O_spec_l1Rd_ref r)
  | 0, x0, x1, r, h => by cases h
  | n + 1, x0, x1, r, h => fun_step (kf := K_spec_l1Rd_ref) rfl (ct_spec_l1Rd_ref n) (noLoops rfl) (ft_spec_l1Rd_ref n x0 x1) h
def FH_spec_l1Rd_ref (n : Nat) : Cont → Option (Int × Int × (List (List PV)) × Int)
  | ([[[]]], [[[[.r x0], [.i x1]]]]) => F_spec_l1Rd_ref n x0 x1
  | _ => none
def E_spec_l1Rd_ref (n : Nat) (d : List AV → List Go.Eng.Frame → Tr Res) : List AV → List Go.Eng.Frame → Tr Res := cent (A_spec_l1Rd_ref ([]) (0)) (U_spec_l1Rd_ref ([]) (0)) (FH_spec_l1Rd_ref n) O_spec_l1Rd_ref d
theorem eo_spec_l1Rd_ref (n : Nat) {d : List AV → List Go.Eng.Frame → Tr Res} (hd : ∀ ar up r, (d ar up).run = some r → runs KP lib n 62 ar up = some r) : ∀ ar up r, (E_spec_l1Rd_ref n d ar up).run = some r → runs KP lib n 62 ar up = some r :=
  cent_ok (fun hs r h => by
    unfold FH_spec_l1Rd_ref at h
    split at h
    · exact ⟨A_spec_l1Rd_ref _ _, U_spec_l1Rd_ref _ _, rfl, rfl, th_spec_l1Rd_ref n _ _ r h⟩
    · cases h) hd
/-! ### (*spec.l1Rd).place -/
def A_spec_l1Rd_place (x0 : List (List PV)) (x1 : Int) : List AV := [(.c (.ptr 0 0 0 0 0))]
def U_spec_l1Rd_place (x0 : List (List PV)) (x1 : Int) : List Go.Eng.Frame := [[(0, ⟨0, 2, 95, (.box [(.p (.ls x0)), (.p (.i .i64 x1))])⟩)]]
def O_spec_l1Rd_place (r : Int × Int × Bool × Bool × (List (List PV)) × Int) : Res := ⟨(.agg [(.p (.i .i64 r.1)), (.p (.i .i64 r.2.1)), (.p (.b r.2.2.1)), (.p (.b r.2.2.2.1))]), [[(0, ⟨0, 2, 95, (.box [(.p (.ls r.2.2.2.2.1)), (.p (.i .i64 r.2.2.2.2.2))])⟩)]], []⟩
abbrev CT_spec_l1Rd_place (n : Nat) : CTab := mkCT [(62, E_spec_l1Rd_ref n (noEnt)), (43, E_spec_l1Rd_once n (noEnt)), (38, E_spec_l1Rd_off n (noEnt))]
abbrev LT_spec_l1Rd_place (n : Nat) : LTab := mkLT []
def T_spec_l1Rd_place (n : Nat) (x0 : List (List PV)) (x1 : Int) : Tr (Int × Int × Bool × Bool × (List (List PV)) × Int) := (.opt (F_spec_l1Rd_ref n x0 x1) fun r47 => (.opt (F_spec_l1Rd_once n (4 : Int) r47.2.2.1 r47.2.2.2) fun r48 => (.opt (F_spec_l1Rd_once n (4 : Int) r48.2.1 r48.2.2) fun r49 => (.opt (F_spec_l1Rd_once n (20 : Int) r49.2.1 r49.2.2) fun r50 => (.ask (r50.1) (.opt (F_spec_l1Rd_off n (1 : Int) (52 : Int) r50.2.1 r50.2.2) fun r51 => (.opt (F_spec_l1Rd_off n (1 : Int) (99 : Int) r51.2.1 r51.2.2) fun r52 => (.done (r51.1, r52.1, r48.1, r49.1, r52.2.1, r52.2.2)))) (.done (r47.1, r47.2.1, r48.1, r49.1, r50.2.1, r50.2.2)))))))
def F_spec_l1Rd_place : Nat → List (List PV) → Int → Option (Int × Int × Bool × Bool × (List (List PV)) × Int)
  | 0, _, _ => none
  | n + 1, x0, x1 => (T_spec_l1Rd_place n x0 x1).run
theorem ft_spec_l1Rd_place (n : Nat) (x0 : List (List PV)) (x1 : Int) : funT (CT_spec_l1Rd_place n) (LT_spec_l1Rd_place n) K_spec_l1Rd_place (A_spec_l1Rd_place x0 x1) (U_spec_l1Rd_place x0 x1) = (T_spec_l1Rd_place n x0 x1).bind fun r => .done (O_spec_l1Rd_place r) := by kernel_rfl
theorem ct_spec_l1Rd_place (n : Nat) : CTok (CT_spec_l1Rd_place n) (runs KP lib n) := mkCT_cons (eo_spec_l1Rd_ref n (noEnt_ok)) (mkCT_cons (eo_spec_l1Rd_once n (noEnt_ok)) (mkCT_cons (eo_spec_l1Rd_off n (noEnt_ok)) (mkCT_nil)))
theorem th_spec_l1Rd_place : ∀ (n : Nat) (x0 : List (List PV)) (x1 : Int) (r : Int × Int × Bool × Bool × (List (List PV)) × Int), F_spec_l1Rd_place n x0 x1 = some r → runs KP lib n 42 (A_spec_l1Rd_place x0 x1) (U_spec_l1Rd_place x0 x1) = some (O_spec_l1Rd_place r)
  | 0, x0, x1, r, h => by cases h
  | n + 1, x0, x1, r, h => fun_step (kf := K_spec_l1Rd_place) rfl (ct_spec_l1Rd_place n) (noLoops rfl) (ft_spec_l1Rd_place n x0 x1) h
def FH_spec_l1Rd_place (n : Nat) : Cont → Option (Int × Int × Bool × Bool × (List (List PV)) × Int)
  | ([[[]]], [[[[.r x0], [.i x1]]]]) => F_spec_l1Rd_place n x0 x1
  | _ => none
def E_spec_l1Rd_place (n : Nat) (d : List AV → List Go.Eng.Frame → Tr Res) : List AV → List Go.Eng.Frame → Tr Res := cent (A_spec_l1Rd_place ([]) (0)) (U_spec_l1Rd_place ([]) (0)) (FH_spec_l1Rd_place n) O_spec_l1Rd_place d
theorem eo_spec_l1Rd_place (n : Nat) {d : List AV → List Go.Eng.Frame → Tr Res} (hd : ∀ ar up r, (d ar up).run = some r → runs KP lib n 42 ar up = some r) : ∀ ar up r, (E_spec_l1Rd_place n d ar up).run = some r → runs KP lib n 42 ar up = some r :=
  cent_ok (fun hs r h => by
    unfold FH_spec_l1Rd_place at h
    split at h
    · exact ⟨A_spec_l1Rd_place _ _, U_spec_l1Rd_place _ _, rfl, rfl, th_spec_l1Rd_place n _ _ r h⟩
    · cases h) hd
/-! ### spec.DrawPlaceText -/
def A_spec_DrawPlaceText (x0 : List (List PV)) : List AV := [(.c (.p (.ls x0)))]
def U_spec_DrawPlaceText (x0 : List (List PV)) : List Go.Eng.Frame := []
def O_spec_DrawPlaceText (r : Int × Int × Bool × Bool) : Res := ⟨(.agg [(.p (.i .i64 r.1)), (.p (.i .i64 r.2.1)), (.p (.b r.2.2.1)), (.p (.b r.2.2.2))]), [], []⟩
abbrev CT_spec_DrawPlaceText (n : Nat) : CTab := mkCT [(37, E_spec_l1Open n (noEnt)), (42, E_spec_l1Rd_place n (noEnt))]
abbrev LT_spec_DrawPlaceText (n : Nat) : LTab := mkLT []
def T_spec_DrawPlaceText (n : Nat) (x0 : List (List PV)) : Tr (Int × Int × Bool × Bool) := (.opt (F_spec_l1Open n x0) fun r44 => (.opt (F_spec_l1Rd_place n r44.1 r44.2) fun r53 => (.done (r53.1, r53.2.1, r53.2.2.1, r53.2.2.2.1))))
def F_spec_DrawPlaceText : Nat → List (List PV) → Option (Int × Int × Bool × Bool)
  | 0, _ => none
  | n + 1, x0 => (T_spec_DrawPlaceText n x0).run
theorem ft_spec_DrawPlaceText (n : Nat) (x0 : List (List PV)) : funT (CT_spec_DrawPlaceText n) (LT_spec_DrawPlaceText n) K_spec_DrawPlaceText (A_spec_DrawPlaceText x0) (U_spec_DrawPlaceText x0) = (T_spec_DrawPlaceText n x0).bind fun r => .done (O_spec_DrawPlaceText r) := by kernel_rfl
theorem ct_spec_DrawPlaceText (n : Nat) : CTok (CT_spec_DrawPlaceText n) (runs KP lib n) := mkCT_cons (eo_spec_l1Open n (noEnt_ok)) (mkCT_cons (eo_spec_l1Rd_place n (noEnt_ok)) (mkCT_nil))
theorem th_spec_DrawPlaceText : ∀ (n : Nat) (x0 : List (List PV)) (r : Int × Int × Bool × Bool), F_spec_DrawPlaceText n x0 = some r → runs KP lib n 20 (A_spec_DrawPlaceText x0) (U_spec_DrawPlaceText x0) = some (O_spec_DrawPlaceText r)
  | 0, x0, r, h => by cases h
  | n + 1, x0, r, h => fun_step (kf := K_spec_DrawPlaceText) rfl (ct_spec_DrawPlaceText n) (noLoops rfl) (ft_spec_DrawPlaceText n x0) h
def FH_spec_DrawPlaceText (n : Nat) : Cont → Option (Int × Int × Bool × Bool)
  | ([[[.r x0]]], []) => F_spec_DrawPlaceText n x0
  | _ => none
def E_spec_DrawPlaceText (n : Nat) (d : List AV → List Go.Eng.Frame → Tr Res) : List AV → List Go.Eng.Frame → Tr Res := cent (A_spec_DrawPlaceText ([])) (U_spec_DrawPlaceText ([])) (FH_spec_DrawPlaceText n) O_spec_DrawPlaceText d
theorem eo_spec_DrawPlaceText (n : Nat) {d : List AV → List Go.Eng.Frame → Tr Res} (hd : ∀ ar up r, (d ar up).run = some r → runs KP lib n 20 ar up = some r) : ∀ ar up r, (E_spec_DrawPlaceText n d ar up).run = some r → runs KP lib n 20 ar up = some r :=
  cent_ok (fun hs r h => by
    unfold FH_spec_DrawPlaceText at h
    split at h
    · exact ⟨A_spec_DrawPlaceText _, U_spec_DrawPlaceText _, rfl, rfl, th_spec_DrawPlaceText n _ r h⟩
    · cases h) hd
/-! ### impl.RefOk -/
def A_impl_RefOk (x0 : Int) (x1 : Int) : List AV := [(.agg [(.p (.i .i64 x0)), (.p (.i .i64 x1))])]
def U_impl_RefOk (x0 : Int) (x1 : Int) : List Go.Eng.Frame := []
def O_impl_RefOk (r : Bool) : Res := ⟨(.c (.p (.b r))), [], []⟩
abbrev CT_impl_RefOk (n : Nat) : CTab := mkCT [(39, E_impl_within n (noEnt))]
abbrev LT_impl_RefOk (n : Nat) : LTab := mkLT []
def T_impl_RefOk (n : Nat) (x0 : Int) (x1 : Int) : Tr (Bool) := (.opt (F_impl_within n x0 (1 : Int) (52 : Int)) fun r55 => (.ask (r55) (.opt (F_impl_within n x1 (1 : Int) (99 : Int)) fun r56 => (.done r56)) (.done false)))
def F_impl_RefOk : Nat → Int → Int → Option (Bool)
  | 0, _, _ => none
  | n + 1, x0, x1 => (T_impl_RefOk n x0 x1).run
theorem ft_impl_RefOk (n : Nat) (x0 : Int) (x1 : Int) : funT (CT_impl_RefOk n) (LT_impl_RefOk n) K_impl_RefOk (A_impl_RefOk x0 x1) (U_impl_RefOk x0 x1) = (T_impl_RefOk n x0 x1).bind fun r => .done (O_impl_RefOk r) := by kernel_rfl
theorem ct_impl_RefOk (n : Nat) : CTok (CT_impl_RefOk n) (runs KP lib n) := mkCT_cons (eo_impl_within n (noEnt_ok)) (mkCT_nil)
theorem th_impl_RefOk : ∀ (n : Nat) (x0 : Int) (x1 : Int) (r : Bool), F_impl_RefOk n x0 x1 = some r → runs KP lib n 21 (A_impl_RefOk x0 x1) (U_impl_RefOk x0 x1) = some (O_impl_RefOk r)
  | 0, x0, x1, r, h => by cases h
  | n + 1, x0, x1, r, h => fun_step (kf := K_impl_RefOk) rfl (ct_impl_RefOk n) (noLoops rfl) (ft_impl_RefOk n x0 x1) h
def FH_impl_RefOk (n : Nat) : Cont → Option (Bool)
  | ([[[.i x0], [.i x1]]], []) => F_impl_RefOk n x0 x1
  | _ => none
def E_impl_RefOk (n : Nat) (d : List AV → List Go.Eng.Frame → Tr Res) : List AV → List Go.Eng.Frame → Tr Res := cent (A_impl_RefOk (0) (0)) (U_impl_RefOk (0) (0)) (FH_impl_RefOk n) O_impl_RefOk d
theorem eo_impl_RefOk (n : Nat) {d : List AV → List Go.Eng.Frame → Tr Res} (hd : ∀ ar up r, (d ar up).run = some r → runs KP lib n 21 ar up = some r) : ∀ ar up r, (E_impl_RefOk n d ar up).run = some r → runs KP lib n 21 ar up = some r :=
  cent_ok (fun hs r h => by
    unfold FH_impl_RefOk at h
    split at h
    · exact ⟨A_impl_RefOk _ _, U_impl_RefOk _ _, rfl, rfl, th_impl_RefOk n _ _ r h⟩
    · cases h) hd
/-! ### strconv.FormatInt -/
def A_strconv_FormatInt (x0 : Int) (x1 : Int) : List AV := [(.c (.p (.i .i64 x0))), (.c (.p (.i .i64 x1)))]
def U_strconv_FormatInt (x0 : Int) (x1 : Int) : List Go.Eng.Frame := []
def O_strconv_FormatInt (r : (ByteArray)) : Res := ⟨(.c (.p (.s r))), [], []⟩
def F_strconv_FormatInt : Nat → Int → Int → Option ((ByteArray))
  | 0, _, _ => none
  | n + 1, x0, x1 => L_strconv_FormatInt x0 x1
theorem th_strconv_FormatInt : ∀ (n : Nat) (x0 : Int) (x1 : Int) (r : (ByteArray)), F_strconv_FormatInt n x0 x1 = some r → runs KP lib n 52 (A_strconv_FormatInt x0 x1) (U_strconv_FormatInt x0 x1) = some (O_strconv_FormatInt r)
  | 0, x0, x1, r, h => by cases h
  | n + 1, x0, x1, r, h => by
    have h : L_strconv_FormatInt x0 x1 = some r := h
    exact lib_step rfl (congrArg (Option.map fun r : (ByteArray) => ((.c (.p (.s r))) : AV)) h)
def FH_strconv_FormatInt (n : Nat) : Cont → Option ((ByteArray))
  | ([[[.i x0]], [[.i x1]]], []) => F_strconv_FormatInt n x0 x1
  | _ => none
def E_strconv_FormatInt (n : Nat) (d : List AV → List Go.Eng.Frame → Tr Res) : List AV → List Go.Eng.Frame → Tr Res := cent (A_strconv_FormatInt (0) (0)) (U_strconv_FormatInt (0) (0)) (FH_strconv_FormatInt n) O_strconv_FormatInt d
theorem eo_strconv_FormatInt (n : Nat) {d : List AV → List Go.Eng.Frame → Tr Res} (hd : ∀ ar up r, (d ar up).run = some r → runs KP lib n 52 ar up = some r) : ∀ ar up r, (E_strconv_FormatInt n d ar up).run = some r → runs KP lib n 52 ar up = some r :=
  cent_ok (fun hs r h => by
    unfold FH_strconv_FormatInt at h
    split at h
    · exact ⟨A_strconv_FormatInt _ _, U_strconv_FormatInt _ _, rfl, rfl, th_strconv_FormatInt n _ _ r h⟩
    · cases h) hd
/-! ### impl.decimal -/
def A_impl_decimal (x0 : Int) : List AV := [(.c (.p (.i .i64 x0)))]
def U_impl_decimal (x0 : Int) : List Go.Eng.Frame := []
def O_impl_decimal (r : ByteArray) : Res := ⟨(.c (.p (.s r))), [], []⟩
abbrev CT_impl_decimal (n : Nat) : CTab := mkCT [(52, E_strconv_FormatInt n (noEnt))]
abbrev LT_impl_decimal (n : Nat) : LTab := mkLT []
def T_impl_decimal (n : Nat) (x0 : Int) : Tr (ByteArray) := (.opt (F_strconv_FormatInt n x0 (10 : Int)) fun r59 => (.done r59))
def F_impl_decimal : Nat → Int → Option (ByteArray)
  | 0, _ => none
  | n + 1, x0 => (T_impl_decimal n x0).run
theorem ft_impl_decimal (n : Nat) (x0 : Int) : funT (CT_impl_decimal n) (LT_impl_decimal n) K_impl_decimal (A_impl_decimal x0) (U_impl_decimal x0) = (T_impl_decimal n x0).bind fun r => .done (O_impl_decimal r) := by kernel_rfl
theorem ct_impl_decimal (n : Nat) : CTok (CT_impl_decimal n) (runs KP lib n) := mkCT_cons (eo_strconv_FormatInt n (noEnt_ok)) (mkCT_nil)
theorem th_impl_decimal : ∀ (n : Nat) (x0 : Int) (r : ByteArray), F_impl_decimal n x0 = some r → runs KP lib n 31 (A_impl_decimal x0) (U_impl_decimal x0) = some (O_impl_decimal r)
  | 0, x0, r, h => by cases h
  | n + 1, x0, r, h => fun_step (kf := K_impl_decimal) rfl (ct_impl_decimal n) (noLoops rfl) (ft_impl_decimal n x0) h
def FH_impl_decimal (n : Nat) : Cont → Option (ByteArray)
  | ([[[.i x0]]], []) => F_impl_decimal n x0
  | _ => none
def E_impl_decimal (n : Nat) (d : List AV → List Go.Eng.Frame → Tr Res) : List AV → List Go.Eng.Frame → Tr Res := cent (A_impl_decimal (0)) (U_impl_decimal (0)) (FH_impl_decimal n) O_impl_decimal d
theorem eo_impl_decimal (n : Nat) {d : List AV → List Go.Eng.Frame → Tr Res} (hd : ∀ ar up r, (d ar up).run = some r → runs KP lib n 31 ar up = some r) : ∀ ar up r, (E_impl_decimal n d ar up).run = some r → runs KP lib n 31 ar up = some r :=
  cent_ok (fun hs r h => by
    unfold FH_impl_decimal at h
    split at h
    · exact ⟨A_impl_decimal _, U_impl_decimal _, rfl, rfl, th_impl_decimal n _ r h⟩
    · cases h) hd
/-! ### impl.PlaceText -/
def A_impl_PlaceText (x0 : Int) (x1 : Int) (x2 : Bool) (x3 : Bool) : List AV := [(.agg [(.p (.i .i64 x0)), (.p (.i .i64 x1)), (.p (.b x2)), (.p (.b x3))])]
def U_impl_PlaceText (x0 : Int) (x1 : Int) (x2 : Bool) (x3 : Bool) : List Go.Eng.Frame := []
def O_impl_PlaceText (r : ByteArray) : Res := ⟨(.c (.p (.s r))), [], []⟩
abbrev CT_impl_PlaceText (n : Nat) : CTab := mkCT [(21, E_impl_RefOk n (noEnt)), (15, E_impl_ColText n (noEnt)), (31, E_impl_decimal n (noEnt))]
abbrev LT_impl_PlaceText (n : Nat) : LTab := mkLT []
def T_impl_PlaceText (n : Nat) (x0 : Int) (x1 : Int) (x2 : Bool) (x3 : Bool) : Tr (ByteArray) := (.opt (F_impl_RefOk n x0 x1) fun r57 => (.ask ((!r57)) (.done (⟨#[]⟩ : ByteArray)) (.ask (x2) (.opt (F_impl_ColText n x0) fun r58 => (.ask (decide ((⟨#[36]⟩ : ByteArray).size + r58.size ≤ 9223372036854775807)) (.ask (x3) (.ask (decide (((⟨#[36]⟩ : ByteArray) ++ r58).size + (⟨#[36]⟩ : ByteArray).size ≤ 9223372036854775807)) (.opt (F_impl_decimal n x1) fun r60 => (.ask (decide ((((⟨#[36]⟩ : ByteArray) ++ r58) ++ (⟨#[36]⟩ : ByteArray)).size + r60.size ≤ 9223372036854775807)) (.done ((((⟨#[36]⟩ : ByteArray) ++ r58) ++ (⟨#[36]⟩ : ByteArray)) ++ r60)) .fail)) .fail) (.opt (F_impl_decimal n x1) fun r61 => (.ask (decide (((⟨#[36]⟩ : ByteArray) ++ r58).size + r61.size ≤ 9223372036854775807)) (.done (((⟨#[36]⟩ : ByteArray) ++ r58) ++ r61)) .fail))) .fail)) (.opt (F_impl_ColText n x0) fun r62 => (.ask (decide ((⟨#[]⟩ : ByteArray).size + r62.size ≤ 9223372036854775807)) (.ask (x3) (.ask (decide (((⟨#[]⟩ : ByteArray) ++ r62).size + (⟨#[36]⟩ : ByteArray).size ≤ 9223372036854775807)) (.opt (F_impl_decimal n x1) fun r63 => (.ask (decide ((((⟨#[]⟩ : ByteArray) ++ r62) ++ (⟨#[36]⟩ : ByteArray)).size + r63.size ≤ 9223372036854775807)) (.done ((((⟨#[]⟩ : ByteArray) ++ r62) ++ (⟨#[36]⟩ : ByteArray)) ++ r63)) .fail)) .fail) (.opt (F_impl_decimal n x1) fun r64 => (.ask (decide (((⟨#[]⟩ : ByteArray) ++ r62).size + r64.size ≤ 9223372036854775807)) (.done (((⟨#[]⟩ : ByteArray) ++ r62) ++ r64)) .fail))) .fail)))))
def F_impl_PlaceText : Nat → Int → Int → Bool → Bool → Option (ByteArray)
  | 0, _, _, _, _ => none
  | n + 1, x0, x1, x2, x3 => (T_impl_PlaceText n x0 x1 x2 x3).run
theorem ft_impl_PlaceText (n : Nat) (x0 : Int) (x1 : Int) (x2 : Bool) (x3 : Bool) : funT (CT_impl_PlaceText n) (LT_impl_PlaceText n) K_impl_PlaceText (A_impl_PlaceText x0 x1 x2 x3) (U_impl_PlaceText x0 x1 x2 x3) = (T_impl_PlaceText n x0 x1 x2 x3).bind fun r => .done (O_impl_PlaceText r) := by kernel_rfl
theorem ct_impl_PlaceText (n : Nat) : CTok (CT_impl_PlaceText n) (runs KP lib n) := mkCT_cons (eo_impl_RefOk n (noEnt_ok)) (mkCT_cons (eo_impl_ColText n (noEnt_ok)) (mkCT_cons (eo_impl_decimal n (noEnt_ok)) (mkCT_nil)))
theorem th_impl_PlaceText : ∀ (n : Nat) (x0 : Int) (x1 : Int) (x2 : Bool) (x3 : Bool) (r : ByteArray), F_impl_PlaceText n x0 x1 x2 x3 = some r → runs KP lib n 9 (A_impl_PlaceText x0 x1 x2 x3) (U_impl_PlaceText x0 x1 x2 x3) = some (O_impl_PlaceText r)
  | 0, x0, x1, x2, x3, r, h => by cases h
  | n + 1, x0, x1, x2, x3, r, h => fun_step (kf := K_impl_PlaceText) rfl (ct_impl_PlaceText n) (noLoops rfl) (ft_impl_PlaceText n x0 x1 x2 x3) h
def FH_impl_PlaceText (n : Nat) : Cont → Option (ByteArray)
  | ([[[.i x0], [.i x1], [.b x2], [.b x3]]], []) => F_impl_PlaceText n x0 x1 x2 x3
  | _ => none
def E_impl_PlaceText (n : Nat) (d : List AV → List Go.Eng.Frame → Tr Res) : List AV → List Go.Eng.Frame → Tr Res := cent (A_impl_PlaceText (0) (0) (false) (false)) (U_impl_PlaceText (0) (0) (false) (false)) (FH_impl_PlaceText n) O_impl_PlaceText d
theorem eo_impl_PlaceText (n : Nat) {d : List AV → List Go.Eng.Frame → Tr Res} (hd : ∀ ar up r, (d ar up).run = some r → runs KP lib n 9 ar up = some r) : ∀ ar up r, (E_impl_PlaceText n d ar up).run = some r → runs KP lib n 9 ar up = some r :=
  cent_ok (fun hs r h => by
    unfold FH_impl_PlaceText at h
    split at h
    · exact ⟨A_impl_PlaceText _ _ _ _, U_impl_PlaceText _ _ _ _, rfl, rfl, th_impl_PlaceText n _ _ _ _ r h⟩
    · cases h) hd
/-! ### strings.CutPrefix -/
def A_strings_CutPrefix (x0 : ByteArray) (x1 : ByteArray) : List AV := [(.c (.p (.s x0))), (.c (.p (.s x1)))]
def U_strings_CutPrefix (x0 : ByteArray) (x1 : ByteArray) : List Go.Eng.Frame := []
def O_strings_CutPrefix (r : (ByteArray × Bool)) : Res := ⟨(.tup [(false, [(.p (.s r.1))]), (false, [(.p (.b r.2))])]), [], []⟩
def F_strings_CutPrefix : Nat → ByteArray → ByteArray → Option ((ByteArray × Bool))
  | 0, _, _ => none
  | n + 1, x0, x1 => L_strings_CutPrefix x0 x1
theorem th_strings_CutPrefix : ∀ (n : Nat) (x0 : ByteArray) (x1 : ByteArray) (r : (ByteArray × Bool)), F_strings_CutPrefix n x0 x1 = some r → runs KP lib n 33 (A_strings_CutPrefix x0 x1) (U_strings_CutPrefix x0 x1) = some (O_strings_CutPrefix r)
  | 0, x0, x1, r, h => by cases h
  | n + 1, x0, x1, r, h => by
    have h : L_strings_CutPrefix x0 x1 = some r := h
    exact lib_step rfl (congrArg (Option.map fun r : (ByteArray × Bool) => ((.tup [(false, [(.p (.s r.1))]), (false, [(.p (.b r.2))])]) : AV)) h)
def FH_strings_CutPrefix (n : Nat) : Cont → Option ((ByteArray × Bool))
  | ([[[.s x0]], [[.s x1]]], []) => F_strings_CutPrefix n x0 x1
  | _ => none
def E_strings_CutPrefix (n : Nat) (d : List AV → List Go.Eng.Frame → Tr Res) : List AV → List Go.Eng.Frame → Tr Res := cent (A_strings_CutPrefix (⟨#[]⟩) (⟨#[]⟩)) (U_strings_CutPrefix (⟨#[]⟩) (⟨#[]⟩)) (FH_strings_CutPrefix n) O_strings_CutPrefix d
theorem eo_strings_CutPrefix (n : Nat) {d : List AV → List Go.Eng.Frame → Tr Res} (hd : ∀ ar up r, (d ar up).run = some r → runs KP lib n 33 ar up = some r) : ∀ ar up r, (E_strings_CutPrefix n d ar up).run = some r → runs KP lib n 33 ar up = some r :=
  cent_ok (fun hs r h => by
    unfold FH_strings_CutPrefix at h
    split at h
    · exact ⟨A_strings_CutPrefix _ _, U_strings_CutPrefix _ _, rfl, rfl, th_strings_CutPrefix n _ _ r h⟩
    · cases h) hd
/-! ### strings.TrimLeft -/
def A_strings_TrimLeft (x0 : ByteArray) (x1 : ByteArray) : List AV := [(.c (.p (.s x0))), (.c (.p (.s x1)))]
def U_strings_TrimLeft (x0 : ByteArray) (x1 : ByteArray) : List Go.Eng.Frame := []
def O_strings_TrimLeft (r : (ByteArray)) : Res := ⟨(.c (.p (.s r))), [], []⟩
def F_strings_TrimLeft : Nat → ByteArray → ByteArray → Option ((ByteArray))
  | 0, _, _ => none
  | n + 1, x0, x1 => L_strings_TrimLeft x0 x1
theorem th_strings_TrimLeft : ∀ (n : Nat) (x0 : ByteArray) (x1 : ByteArray) (r : (ByteArray)), F_strings_TrimLeft n x0 x1 = some r → runs KP lib n 34 (A_strings_TrimLeft x0 x1) (U_strings_TrimLeft x0 x1) = some (O_strings_TrimLeft r)
  | 0, x0, x1, r, h => by cases h
  | n + 1, x0, x1, r, h => by
    have h : L_strings_TrimLeft x0 x1 = some r := h
    exact lib_step rfl (congrArg (Option.map fun r : (ByteArray) => ((.c (.p (.s r))) : AV)) h)
def FH_strings_TrimLeft (n : Nat) : Cont → Option ((ByteArray))
  | ([[[.s x0]], [[.s x1]]], []) => F_strings_TrimLeft n x0 x1
  | _ => none
def E_strings_TrimLeft (n : Nat) (d : List AV → List Go.Eng.Frame → Tr Res) : List AV → List Go.Eng.Frame → Tr Res := cent (A_strings_TrimLeft (⟨#[]⟩) (⟨#[]⟩)) (U_strings_TrimLeft (⟨#[]⟩) (⟨#[]⟩)) (FH_strings_TrimLeft n) O_strings_TrimLeft d
theorem eo_strings_TrimLeft (n : Nat) {d : List AV → List Go.Eng.Frame → Tr Res} (hd : ∀ ar up r, (d ar up).run = some r → runs KP lib n 34 ar up = some r) : ∀ ar up r, (E_strings_TrimLeft n d ar up).run = some r → runs KP lib n 34 ar up = some r :=
  cent_ok (fun hs r h => by
    unfold FH_strings_TrimLeft at h
    split at h
    · exact ⟨A_strings_TrimLeft _ _, U_strings_TrimLeft _ _, rfl, rfl, th_strings_TrimLeft n _ _ r h⟩
    · cases h) hd
/-! ### strconv.ParseInt -/
def A_strconv_ParseInt (x0 : ByteArray) (x1 : Int) (x2 : Int) : List AV := [(.c (.p (.s x0))), (.c (.p (.i .i64 x1))), (.c (.p (.i .i64 x2)))]
def U_strconv_ParseInt (x0 : ByteArray) (x1 : Int) (x2 : Int) : List Go.Eng.Frame := []
def O_strconv_ParseInt : (Int) ⊕ (Int) → Res := fun | .inl r => ⟨(.tup [(false, [(.p (.i .i64 r))]), (false, [(.p .nif)])]), [], []⟩ | .inr r => ⟨(.tup [(false, [(.p (.i .i64 r))]), (false, [(.p .ifc)])]), [], []⟩
def F_strconv_ParseInt : Nat → ByteArray → Int → Int → Option ((Int) ⊕ (Int))
  | 0, _, _, _ => none
  | n + 1, x0, x1, x2 => L_strconv_ParseInt x0 x1 x2
theorem th_strconv_ParseInt : ∀ (n : Nat) (x0 : ByteArray) (x1 : Int) (x2 : Int) (r : (Int) ⊕ (Int)), F_strconv_ParseInt n x0 x1 x2 = some r → runs KP lib n 35 (A_strconv_ParseInt x0 x1 x2) (U_strconv_ParseInt x0 x1 x2) = some (O_strconv_ParseInt r)
  | 0, x0, x1, x2, r, h => by cases h
  | n + 1, x0, x1, x2, r, h => by
    have h : L_strconv_ParseInt x0 x1 x2 = some r := h
    rcases r with r | r
    · exact lib_step rfl (congrArg (Option.map Q_strconv_ParseInt_av) h)
    · exact lib_step rfl (congrArg (Option.map Q_strconv_ParseInt_av) h)
def FH_strconv_ParseInt (n : Nat) : Cont → Option ((Int) ⊕ (Int))
  | ([[[.s x0]], [[.i x1]], [[.i x2]]], []) => F_strconv_ParseInt n x0 x1 x2
  | _ => none
def E_strconv_ParseInt (n : Nat) (d : List AV → List Go.Eng.Frame → Tr Res) : List AV → List Go.Eng.Frame → Tr Res := cent2 (A_strconv_ParseInt (⟨#[]⟩) (0) (0)) (U_strconv_ParseInt (⟨#[]⟩) (0) (0)) (FH_strconv_ParseInt n) O_strconv_ParseInt d
theorem eo_strconv_ParseInt (n : Nat) {d : List AV → List Go.Eng.Frame → Tr Res} (hd : ∀ ar up r, (d ar up).run = some r → runs KP lib n 35 ar up = some r) : ∀ ar up r, (E_strconv_ParseInt n d ar up).run = some r → runs KP lib n 35 ar up = some r :=
  cent2_ok (fun hs r h => by
    unfold FH_strconv_ParseInt at h
    split at h
    · exact ⟨A_strconv_ParseInt _ _ _, U_strconv_ParseInt _ _ _, rfl, rfl, th_strconv_ParseInt n _ _ _ r h⟩
    · cases h) hd
/-! ### impl.ReadPlace -/
def A_impl_ReadPlace (x0 : ByteArray) : List AV := [(.c (.p (.s x0)))]
def U_impl_ReadPlace (x0 : ByteArray) : List Go.Eng.Frame := []
def O_impl_ReadPlace (r : Int × Int × Bool × Bool × Bool) : Res := ⟨(.tup [(true, [(.p (.i .i64 r.1)), (.p (.i .i64 r.2.1)), (.p (.b r.2.2.1)), (.p (.b r.2.2.2.1))]), (false, [(.p (.b r.2.2.2.2))])]), [], []⟩
abbrev CT_impl_ReadPlace (n : Nat) : CTab := mkCT [(33, E_strings_CutPrefix n (noEnt)), (34, E_strings_TrimLeft n (noEnt)), (18, E_impl_ReadCol n (noEnt)), (35, E_strconv_ParseInt n (noEnt)), (21, E_impl_RefOk n (noEnt)), (9, E_impl_PlaceText n (noEnt))]
abbrev LT_impl_ReadPlace (n : Nat) : LTab := mkLT []
def T_impl_ReadPlace (n : Nat) (x0 : ByteArray) : Tr (Int × Int × Bool × Bool × Bool) := (.opt (F_strings_CutPrefix n x0 (⟨#[36]⟩ : ByteArray)) fun r66 => (.opt (F_strings_TrimLeft n r66.1 (⟨#[65, 66, 67, 68, 69, 70, 71, 72, 73, 74, 75, 76, 77, 78, 79, 80, 81, 82, 83, 84, 85, 86, 87, 88, 89, 90]⟩ : ByteArray)) fun r67 => (.ask (decide (0 ≤ (0 : Int) ∧ (0 : Int) ≤ (IntKind.i64.wrap ((r66.1.size : Int) - (r67.size : Int))) ∧ (IntKind.i64.wrap ((r66.1.size : Int) - (r67.size : Int))) ≤ r66.1.size)) (.opt (F_impl_ReadCol n (r66.1.extract ((0 : Int)).toNat ((IntKind.i64.wrap ((r66.1.size : Int) - (r67.size : Int)))).toNat)) fun r68 => (.ask (decide (0 ≤ (IntKind.i64.wrap ((r66.1.size : Int) - (r67.size : Int))) ∧ (IntKind.i64.wrap ((r66.1.size : Int) - (r67.size : Int))) ≤ (r66.1.size : Int) ∧ (r66.1.size : Int) ≤ r66.1.size)) (.opt (F_strings_CutPrefix n (r66.1.extract ((IntKind.i64.wrap ((r66.1.size : Int) - (r67.size : Int)))).toNat ((r66.1.size : Int)).toNat) (⟨#[36]⟩ : ByteArray)) fun r69 => (.opt (F_strconv_ParseInt n r69.1 (10 : Int) (64 : Int)) fun r70 => (.alt r70 (fun r71 => (.opt (F_impl_RefOk n r68 r71) fun r73 => (.ask ((!r73)) (.done ((0 : Int), (0 : Int), false, false, false)) (.opt (F_impl_PlaceText n r68 r71 r66.2 r69.2) fun r74 => (.ask ((!(r74.toList == x0.toList))) (.done ((0 : Int), (0 : Int), false, false, false)) (.done (r68, r71, r66.2, r69.2, true))))))) (fun r72 => (.opt (F_impl_RefOk n r68 r72) fun r75 => (.ask ((!r75)) (.done ((0 : Int), (0 : Int), false, false, false)) (.opt (F_impl_PlaceText n r68 r72 r66.2 r69.2) fun r76 => (.ask ((!(r76.toList == x0.toList))) (.done ((0 : Int), (0 : Int), false, false, false)) (.done (r68, r72, r66.2, r69.2, true)))))))))) .fail)) .fail)))
def F_impl_ReadPlace : Nat → ByteArray → Option (Int × Int × Bool × Bool × Bool)
  | 0, _ => none
  | n + 1, x0 => (T_impl_ReadPlace n x0).run
theorem ft_impl_ReadPlace (n : Nat) (x0 : ByteArray) : funT (CT_impl_ReadPlace n) (LT_impl_ReadPlace n) K_impl_ReadPlace (A_impl_ReadPlace x0) (U_impl_ReadPlace x0) = (T_impl_ReadPlace n x0).bind fun r => .done (O_impl_ReadPlace r) := by kernel_rfl
theorem ct_impl_ReadPlace (n : Nat) : CTok (CT_impl_ReadPlace n) (runs KP lib n) := mkCT_cons (eo_strings_CutPrefix n (noEnt_ok)) (mkCT_cons (eo_strings_TrimLeft n (noEnt_ok)) (mkCT_cons (eo_impl_ReadCol n (noEnt_ok)) (mkCT_cons (eo_strconv_ParseInt n (noEnt_ok)) (mkCT_cons (eo_impl_RefOk n (noEnt_ok)) (mkCT_cons (eo_impl_PlaceText n (noEnt_ok)) (mkCT_nil))))))
theorem th_impl_ReadPlace : ∀ (n : Nat) (x0 : ByteArray) (r : Int × Int × Bool × Bool × Bool), F_impl_ReadPlace n x0 = some r → runs KP lib n 11 (A_impl_ReadPlace x0) (U_impl_ReadPlace x0) = some (O_impl_ReadPlace r)
  | 0, x0, r, h => by cases h
  | n + 1, x0, r, h => fun_step (kf := K_impl_ReadPlace) rfl (ct_impl_ReadPlace n) (noLoops rfl) (ft_impl_ReadPlace n x0) h
def FH_impl_ReadPlace (n : Nat) : Cont → Option (Int × Int × Bool × Bool × Bool)
  | ([[[.s x0]]], []) => F_impl_ReadPlace n x0
  | _ => none
def E_impl_ReadPlace (n : Nat) (d : List AV → List Go.Eng.Frame → Tr Res) : List AV → List Go.Eng.Frame → Tr Res := cent (A_impl_ReadPlace (⟨#[]⟩)) (U_impl_ReadPlace (⟨#[]⟩)) (FH_impl_ReadPlace n) O_impl_ReadPlace d
theorem eo_impl_ReadPlace (n : Nat) {d : List AV → List Go.Eng.Frame → Tr Res} (hd : ∀ ar up r, (d ar up).run = some r → runs KP lib n 11 ar up = some r) : ∀ ar up r, (E_impl_ReadPlace n d ar up).run = some r → runs KP lib n 11 ar up = some r :=
  cent_ok (fun hs r h => by
    unfold FH_impl_ReadPlace at h
    split at h
    · exact ⟨A_impl_ReadPlace _, U_impl_ReadPlace _, rfl, rfl, th_impl_ReadPlace n _ r h⟩
    · cases h) hd
/-! ### spec.RefOk -/
def A_spec_RefOk (x0 : Int) (x1 : Int) : List AV := [(.agg [(.p (.i .i64 x0)), (.p (.i .i64 x1))])]
def U_spec_RefOk (x0 : Int) (x1 : Int) : List Go.Eng.Frame := []
def O_spec_RefOk (r : Bool) : Res := ⟨(.c (.p (.b r))), [], []⟩
abbrev CT_spec_RefOk (n : Nat) : CTab := mkCT [(41, E_spec_l1In n (noEnt))]
abbrev LT_spec_RefOk (n : Nat) : LTab := mkLT []
def T_spec_RefOk (n : Nat) (x0 : Int) (x1 : Int) : Tr (Bool) := (.opt (F_spec_l1In n x0 (1 : Int) (52 : Int)) fun r78 => (.ask (r78) (.opt (F_spec_l1In n x1 (1 : Int) (99 : Int)) fun r79 => (.done r79)) (.done false)))
def F_spec_RefOk : Nat → Int → Int → Option (Bool)
  | 0, _, _ => none
  | n + 1, x0, x1 => (T_spec_RefOk n x0 x1).run
theorem ft_spec_RefOk (n : Nat) (x0 : Int) (x1 : Int) : funT (CT_spec_RefOk n) (LT_spec_RefOk n) K_spec_RefOk (A_spec_RefOk x0 x1) (U_spec_RefOk x0 x1) = (T_spec_RefOk n x0 x1).bind fun r => .done (O_spec_RefOk r) := by kernel_rfl
theorem ct_spec_RefOk (n : Nat) : CTok (CT_spec_RefOk n) (runs KP lib n) := mkCT_cons (eo_spec_l1In n (noEnt_ok)) (mkCT_nil)
theorem th_spec_RefOk : ∀ (n : Nat) (x0 : Int) (x1 : Int) (r : Bool), F_spec_RefOk n x0 x1 = some r → runs KP lib n 28 (A_spec_RefOk x0 x1) (U_spec_RefOk x0 x1) = some (O_spec_RefOk r)
  | 0, x0, x1, r, h => by cases h
  | n + 1, x0, x1, r, h => fun_step (kf := K_spec_RefOk) rfl (ct_spec_RefOk n) (noLoops rfl) (ft_spec_RefOk n x0 x1) h
def FH_spec_RefOk (n : Nat) : Cont → Option (Bool)
  | ([[[.i x0], [.i x1]]], []) => F_spec_RefOk n x0 x1
  | _ => none
def E_spec_RefOk (n : Nat) (d : List AV → List Go.Eng.Frame → Tr Res) : List AV → List Go.Eng.Frame → Tr Res := cent (A_spec_RefOk (0) (0)) (U_spec_RefOk (0) (0)) (FH_spec_RefOk n) O_spec_RefOk d
theorem eo_spec_RefOk (n : Nat) {d : List AV → List Go.Eng.Frame → Tr Res} (hd : ∀ ar up r, (d ar up).run = some r → runs KP lib n 28 ar up = some r) : ∀ ar up r, (E_spec_RefOk n d ar up).run = some r → runs KP lib n 28 ar up = some r :=
  cent_ok (fun hs r h => by
    unfold FH_spec_RefOk at h
    split at h
    · exact ⟨A_spec_RefOk _ _, U_spec_RefOk _ _, rfl, rfl, th_spec_RefOk n _ _ r h⟩
    · cases h) hd
/-! ### spec.l1Dec -/
def A_spec_l1Dec (x0 : Int) : List AV := [(.c (.p (.i .i64 x0)))]
def U_spec_l1Dec (x0 : Int) : List Go.Eng.Frame := []
def O_spec_l1Dec (r : ByteArray) : Res := ⟨(.c (.p (.s r))), [], []⟩
def FHr_spec_l1Dec (rec : Int → Option (ByteArray)) : Cont → Option (ByteArray)
  | ([[[.i x0]]], []) => rec x0
  | _ => none
abbrev CT_spec_l1Dec (rec : Int → Option (ByteArray)) (n : Nat) : CTab := mkCT [(29, cent (A_spec_l1Dec (0)) (U_spec_l1Dec (0)) (fun hs => FHr_spec_l1Dec rec hs) O_spec_l1Dec (noEnt))]
def S_spec_l1Dec_30 (v : Int × ByteArray) : St := ⟨[(0, (.c (.p (.i .i64 v.1)))), (3, (.c (.p (.s v.2))))], [], []⟩
def B_spec_l1Dec_30 (n : Nat) (v : Int × ByteArray) : Tr ((Int × ByteArray) ⊕ ((Int × ByteArray))) := (.ask ((decide (v.1 ≥ (10 : Int)))) (.ask (decide (1 = ([[(.i .u8 (IntKind.u8.wrap (IntKind.i64.wrap ((48 : Int) + (Int.tmod v.1 (10 : Int))))))]] : List (List PV)).length)) (.opt (bytesOf ([[(.i .u8 (IntKind.u8.wrap (IntKind.i64.wrap ((48 : Int) + (Int.tmod v.1 (10 : Int))))))]] : List (List PV))) fun l84 => (.ask (decide ((⟨l84.toArray⟩ : ByteArray).size + v.2.size ≤ 9223372036854775807)) (.done (.inl ((IntKind.i64.wrap (Int.tdiv v.1 (10 : Int))), ((⟨l84.toArray⟩ : ByteArray) ++ v.2)))) .fail)) .fail) (.done (.inr ((v.1, v.2)))))
def D_spec_l1Dec_30 : (Int × ByteArray) → Ex × St := fun r => ((.exit 0), ⟨[(0, (.c (.p (.i .i64 r.1)))), (3, (.c (.p (.s r.2))))], [], []⟩)
def DT_spec_l1Dec_30 : (Int × ByteArray) → Tr (Ex × St) := fun r => .done ((.exit 0), ⟨[(0, (.c (.p (.i .i64 r.1)))), (3, (.c (.p (.s r.2))))], [], []⟩)
def VH_spec_l1Dec_30 : Cont3 → Option (Int × ByteArray)
  | ([[[.i w0]], [[.s w1]]], [], []) => some (w0, w1)
  | _ => none
abbrev LE_spec_l1Dec_30 (n : Nat) : St → Tr (Ex × St) := lent (S_spec_l1Dec_30 (0, ⟨#[]⟩)) VH_spec_l1Dec_30 (B_spec_l1Dec_30 n) DT_spec_l1Dec_30 n
abbrev LT_spec_l1Dec (rec : Int → Option (ByteArray)) (n : Nat) : LTab := mkLT [(30, LE_spec_l1Dec_30 n)]
def T_spec_l1Dec (rec : Int → Option (ByteArray)) (n : Nat) (x0 : Int) : Tr (ByteArray) := (.ask ((decide (x0 < (0 : Int)))) (.opt (rec (IntKind.i64.wrap (0 - x0))) fun r83 => (.ask (decide ((⟨#[45]⟩ : ByteArray).size + r83.size ≤ 9223372036854775807)) (.done ((⟨#[45]⟩ : ByteArray) ++ r83)) .fail)) (.opt (loopF (B_spec_l1Dec_30 n) n (x0, (⟨#[]⟩ : ByteArray))) fun r85 => (.ask (decide (1 = ([[(.i .u8 (IntKind.u8.wrap (IntKind.i64.wrap ((48 : Int) + r85.1))))]] : List (List PV)).length)) (.opt (bytesOf ([[(.i .u8 (IntKind.u8.wrap (IntKind.i64.wrap ((48 : Int) + r85.1))))]] : List (List PV))) fun l86 => (.ask (decide ((⟨l86.toArray⟩ : ByteArray).size + r85.2.size ≤ 9223372036854775807)) (.done ((⟨l86.toArray⟩ : ByteArray) ++ r85.2)) .fail)) .fail)))
def F_spec_l1Dec : Nat → Int → Option (ByteArray)
  | 0, _ => none
  | n + 1, x0 => (T_spec_l1Dec (F_spec_l1Dec n) n x0).run
theorem ft_spec_l1Dec (rec : Int → Option (ByteArray)) (n : Nat) (x0 : Int) : funT (CT_spec_l1Dec rec n) (LT_spec_l1Dec rec n) K_spec_l1Dec (A_spec_l1Dec x0) (U_spec_l1Dec x0) = (T_spec_l1Dec rec n x0).bind fun r => .done (O_spec_l1Dec r) := by kernel_rfl
theorem ct_spec_l1Dec (n : Nat) (ih : ∀ (x0 : Int) r, F_spec_l1Dec n x0 = some r → runs KP lib n 29 (A_spec_l1Dec x0) (U_spec_l1Dec x0) = some (O_spec_l1Dec r)) : CTok (CT_spec_l1Dec (F_spec_l1Dec n) n) (runs KP lib n) := mkCT_cons (cent_ok (fun hs r h => by
    unfold FHr_spec_l1Dec at h
    split at h
    · exact ⟨A_spec_l1Dec _, U_spec_l1Dec _, rfl, rfl, ih _ r h⟩
    · cases h) (noEnt_ok)) (mkCT_nil)
theorem lt_spec_l1Dec_30 (n : Nat) (v : Int × ByteArray) : (evalCT (CT_spec_l1Dec (F_spec_l1Dec n) n) (mkLT []) K_spec_l1Dec_L30 (S_spec_l1Dec_30 v) []).bind (ltail [0, 3] [(.ret, [2]), ((.exit 0), [0, 3])]) = (B_spec_l1Dec_30 n v).bind (lenc S_spec_l1Dec_30 D_spec_l1Dec_30) := by
  obtain ⟨w0, w1⟩ := v
  kernel_rfl
theorem le_spec_l1Dec_30 (n : Nat) (ih : ∀ (x0 : Int) r, F_spec_l1Dec n x0 = some r → runs KP lib n 29 (A_spec_l1Dec x0) (U_spec_l1Dec x0) = some (O_spec_l1Dec r)) : LEok (runs KP lib n) n (30, [0, 3], [(.ret, [2]), ((.exit 0), [0, 3])], K_spec_l1Dec_L30) (LE_spec_l1Dec_30 n) := fun st e s h =>
  lent_ok (ct_spec_l1Dec n ih) (noLoops rfl) (lt_spec_l1Dec_30 n) (fun r h => by cases h) (fun r y h => by cases h; rfl) (fun hs v h => by
    unfold VH_spec_l1Dec_30 at h
    split at h <;> cases h
    rfl) h
theorem lo_spec_l1Dec (n : Nat) (ih : ∀ (x0 : Int) r, F_spec_l1Dec n x0 = some r → runs KP lib n 29 (A_spec_l1Dec x0) (U_spec_l1Dec x0) = some (O_spec_l1Dec r)) : LTok (LT_spec_l1Dec (F_spec_l1Dec n) n) (runs KP lib n) n K_spec_l1Dec.body := mkLT_ok (by
  intro x hx
  have hx : x ∈ ([(30, [0, 3], [(.ret, [2]), ((.exit 0), [0, 3])], K_spec_l1Dec_L30)] : List (Nat × List Nat × List (Ex × List Nat) × KCode)) := hx
  simp only [List.mem_cons, List.not_mem_nil, or_false] at hx
  rcases hx with rfl
  · exact ⟨LE_spec_l1Dec_30 n, fun st => rfl, le_spec_l1Dec_30 n ih⟩)
theorem th_spec_l1Dec : ∀ (n : Nat) (x0 : Int) (r : ByteArray), F_spec_l1Dec n x0 = some r → runs KP lib n 29 (A_spec_l1Dec x0) (U_spec_l1Dec x0) = some (O_spec_l1Dec r)
  | 0, x0, r, h => by cases h
  | n + 1, x0, r, h => fun_step (kf := K_spec_l1Dec) rfl (ct_spec_l1Dec n (th_spec_l1Dec n)) (lo_spec_l1Dec n (th_spec_l1Dec n)) (ft_spec_l1Dec (F_spec_l1Dec n) n x0) h
def FH_spec_l1Dec (n : Nat) : Cont → Option (ByteArray)
  | ([[[.i x0]]], []) => F_spec_l1Dec n x0
  | _ => none
def E_spec_l1Dec (n : Nat) (d : List AV → List Go.Eng.Frame → Tr Res) : List AV → List Go.Eng.Frame → Tr Res := cent (A_spec_l1Dec (0)) (U_spec_l1Dec (0)) (FH_spec_l1Dec n) O_spec_l1Dec d
theorem eo_spec_l1Dec (n : Nat) {d : List AV → List Go.Eng.Frame → Tr Res} (hd : ∀ ar up r, (d ar up).run = some r → runs KP lib n 29 ar up = some r) : ∀ ar up r, (E_spec_l1Dec n d ar up).run = some r → runs KP lib n 29 ar up = some r :=
  cent_ok (fun hs r h => by
    unfold FH_spec_l1Dec at h
    split at h
    · exact ⟨A_spec_l1Dec _, U_spec_l1Dec _, rfl, rfl, th_spec_l1Dec n _ r h⟩
    · cases h) hd
/-! ### spec.PlaceText -/
def A_spec_PlaceText (x0 : Int) (x1 : Int) (x2 : Bool) (x3 : Bool) : List AV := [(.agg [(.p (.i .i64 x0)), (.p (.i .i64 x1)), (.p (.b x2)), (.p (.b x3))])]
def U_spec_PlaceText (x0 : Int) (x1 : Int) (x2 : Bool) (x3 : Bool) : List Go.Eng.Frame := []
def O_spec_PlaceText (r : ByteArray) : Res := ⟨(.c (.p (.s r))), [], []⟩
abbrev CT_spec_PlaceText (n : Nat) : CTab := mkCT [(28, E_spec_RefOk n (noEnt)), (17, E_spec_ColText n (noEnt)), (29, E_spec_l1Dec n (noEnt))]
abbrev LT_spec_PlaceText (n : Nat) : LTab := mkLT []
def T_spec_PlaceText (n : Nat) (x0 : Int) (x1 : Int) (x2 : Bool) (x3 : Bool) : Tr (ByteArray) := (.opt (F_spec_RefOk n x0 x1) fun r80 => (.ask ((!r80)) (.done (⟨#[]⟩ : ByteArray)) (.opt (F_spec_ColText n x0) fun r81 => (.ask (x2) (.ask (decide ((⟨#[36]⟩ : ByteArray).size + r81.size ≤ 9223372036854775807)) (.ask (x3) (.ask (decide (((⟨#[36]⟩ : ByteArray) ++ r81).size + (⟨#[36]⟩ : ByteArray).size ≤ 9223372036854775807)) (.opt (F_spec_l1Dec n x1) fun r87 => (.ask (decide ((((⟨#[36]⟩ : ByteArray) ++ r81) ++ (⟨#[36]⟩ : ByteArray)).size + r87.size ≤ 9223372036854775807)) (.done ((((⟨#[36]⟩ : ByteArray) ++ r81) ++ (⟨#[36]⟩ : ByteArray)) ++ r87)) .fail)) .fail) (.opt (F_spec_l1Dec n x1) fun r88 => (.ask (decide (((⟨#[36]⟩ : ByteArray) ++ r81).size + r88.size ≤ 9223372036854775807)) (.done (((⟨#[36]⟩ : ByteArray) ++ r81) ++ r88)) .fail))) .fail) (.ask (x3) (.ask (decide (r81.size + (⟨#[36]⟩ : ByteArray).size ≤ 9223372036854775807)) (.opt (F_spec_l1Dec n x1) fun r89 => (.ask (decide ((r81 ++ (⟨#[36]⟩ : ByteArray)).size + r89.size ≤ 9223372036854775807)) (.done ((r81 ++ (⟨#[36]⟩ : ByteArray)) ++ r89)) .fail)) .fail) (.opt (F_spec_l1Dec n x1) fun r90 => (.ask (decide (r81.size + r90.size ≤ 9223372036854775807)) (.done (r81 ++ r90)) .fail)))))))
def F_spec_PlaceText : Nat → Int → Int → Bool → Bool → Option (ByteArray)
  | 0, _, _, _, _ => none
  | n + 1, x0, x1, x2, x3 => (T_spec_PlaceText n x0 x1 x2 x3).run
theorem ft_spec_PlaceText (n : Nat) (x0 : Int) (x1 : Int) (x2 : Bool) (x3 : Bool) : funT (CT_spec_PlaceText n) (LT_spec_PlaceText n) K_spec_PlaceText (A_spec_PlaceText x0 x1 x2 x3) (U_spec_PlaceText x0 x1 x2 x3) = (T_spec_PlaceText n x0 x1 x2 x3).bind fun r => .done (O_spec_PlaceText r) := by kernel_rfl
theorem ct_spec_PlaceText (n : Nat) : CTok (CT_spec_PlaceText n) (runs KP lib n) := mkCT_cons (eo_spec_RefOk n (noEnt_ok)) (mkCT_cons (eo_spec_ColText n (noEnt_ok)) (mkCT_cons (eo_spec_l1Dec n (noEnt_ok)) (mkCT_nil)))
theorem th_spec_PlaceText : ∀ (n : Nat) (x0 : Int) (x1 : Int) (x2 : Bool) (x3 : Bool) (r : ByteArray), F_spec_PlaceText n x0 x1 x2 x3 = some r → runs KP lib n 7 (A_spec_PlaceText x0 x1 x2 x3) (U_spec_PlaceText x0 x1 x2 x3) = some (O_spec_PlaceText r)
  | 0, x0, x1, x2, x3, r, h => by cases h
  | n + 1, x0, x1, x2, x3, r, h => fun_step (kf := K_spec_PlaceText) rfl (ct_spec_PlaceText n) (noLoops rfl) (ft_spec_PlaceText n x0 x1 x2 x3) h
def FH_spec_PlaceText (n : Nat) : Cont → Option (ByteArray)
  | ([[[.i x0], [.i x1], [.b x2], [.b x3]]], []) => F_spec_PlaceText n x0 x1 x2 x3
  | _ => none
def E_spec_PlaceText (n : Nat) (d : List AV → List Go.Eng.Frame → Tr Res) : List AV → List Go.Eng.Frame → Tr Res := cent (A_spec_PlaceText (0) (0) (false) (false)) (U_spec_PlaceText (0) (0) (false) (false)) (FH_spec_PlaceText n) O_spec_PlaceText d
theorem eo_spec_PlaceText (n : Nat) {d : List AV → List Go.Eng.Frame → Tr Res} (hd : ∀ ar up r, (d ar up).run = some r → runs KP lib n 7 ar up = some r) : ∀ ar up r, (E_spec_PlaceText n d ar up).run = some r → runs KP lib n 7 ar up = some r :=
  cent_ok (fun hs r h => by
    unfold FH_spec_PlaceText at h
    split at h
    · exact ⟨A_spec_PlaceText _ _ _ _, U_spec_PlaceText _ _ _ _, rfl, rfl, th_spec_PlaceText n _ _ _ _ r h⟩
    · cases h) hd
/-! ### (*spec.l1Rd).bytes -/
def A_spec_l1Rd_bytes (x0 : Int) (x1 : List (List PV)) (x2 : Int) : List AV := [(.c (.ptr 0 0 0 0 0)), (.c (.p (.i .i64 x0)))]
def U_spec_l1Rd_bytes (x0 : Int) (x1 : List (List PV)) (x2 : Int) : List Go.Eng.Frame := [[(0, ⟨0, 2, 95, (.box [(.p (.ls x1)), (.p (.i .i64 x2))])⟩)]]
def O_spec_l1Rd_bytes (r : ByteArray × (List (List PV)) × Int) : Res := ⟨(.c (.p (.s r.1))), [[(0, ⟨0, 2, 95, (.box [(.p (.ls r.2.1)), (.p (.i .i64 r.2.2))])⟩)]], []⟩
abbrev CT_spec_l1Rd_bytes (n : Nat) : CTab := mkCT [(40, E_spec_l1Rd_below n (noEnt))]
def S_spec_l1Rd_bytes_29 (v : Nat × Int × (List (List PV)) × (List (List PV)) × Int) : St := ⟨[(0, (.c (.ptr 0 0 0 0 0))), (5, (.c (.own 1 448 0 v.1))), (6, (.c (.p (.i .i64 v.2.1))))], [(448, ⟨0, 1, 5, (.row v.2.2.1)⟩)], [[(0, ⟨0, 2, 95, (.box [(.p (.ls v.2.2.2.1)), (.p (.i .i64 v.2.2.2.2))])⟩)]]⟩
def B_spec_l1Rd_bytes_29 (n : Nat) (v : Nat × Int × (List (List PV)) × (List (List PV)) × Int) : Tr ((Nat × Int × (List (List PV)) × (List (List PV)) × Int) ⊕ ((Nat × (List (List PV)) × (List (List PV)) × Int))) := (.ask ((decide (v.2.1 > (0 : Int)))) (.opt (F_spec_l1Rd_below n (256 : Int) v.2.2.2.1 v.2.2.2.2) fun r99 => (.ask (decide (1 = ([[(.i .u8 (IntKind.u8.wrap r99.1))]] : List (List PV)).length)) (.ask (decide (v.1 = v.2.2.1.length ∧ 0 < 1 ∧ 0 < 1 ∧ (v.1 + ([[(.i .u8 (IntKind.u8.wrap r99.1))]] : List (List PV)).length) * 1 ≤ 140737488355328 ∧ ([[(.i .u8 (IntKind.u8.wrap r99.1))]] : List (List PV)).all (fun e => e.length == 1) = true)) (.done (.inl ((v.1 + 1), (IntKind.i64.wrap (v.2.1 - (1 : Int))), (v.2.2.1 ++ ([[(.i .u8 (IntKind.u8.wrap r99.1))]] : List (List PV))), r99.2.1, r99.2.2))) .fail) .fail)) (.done (.inr ((v.1, v.2.2.1, v.2.2.2.1, v.2.2.2.2)))))
def D_spec_l1Rd_bytes_29 : (Nat × (List (List PV)) × (List (List PV)) × Int) → Ex × St := fun r => ((.exit 0), ⟨[(5, (.c (.own 1 448 0 r.1)))], [(448, ⟨0, 1, 5, (.row r.2.1)⟩)], [[(0, ⟨0, 2, 95, (.box [(.p (.ls r.2.2.1)), (.p (.i .i64 r.2.2.2))])⟩)]]⟩)
def DT_spec_l1Rd_bytes_29 : (Nat × (List (List PV)) × (List (List PV)) × Int) → Tr (Ex × St) := fun r => .done ((.exit 0), ⟨[(5, (.c (.own 1 448 0 r.1)))], [(448, ⟨0, 1, 5, (.row r.2.1)⟩)], [[(0, ⟨0, 2, 95, (.box [(.p (.ls r.2.2.1)), (.p (.i .i64 r.2.2.2))])⟩)]]⟩)
def VH_spec_l1Rd_bytes_29 : Cont3 → Option (Nat × Int × (List (List PV)) × (List (List PV)) × Int)
  | ([[[]], [[.n w0]], [[.i w1]]], [[[.r w2]]], [[[[.r w3], [.i w4]]]]) => some (w0, w1, w2, w3, w4)
  | _ => none
abbrev LE_spec_l1Rd_bytes_29 (n : Nat) : St → Tr (Ex × St) := lent (S_spec_l1Rd_bytes_29 (0, 0, [], [], 0)) VH_spec_l1Rd_bytes_29 (B_spec_l1Rd_bytes_29 n) DT_spec_l1Rd_bytes_29 n
abbrev LT_spec_l1Rd_bytes (n : Nat) : LTab := mkLT [(29, LE_spec_l1Rd_bytes_29 n)]
def T_spec_l1Rd_bytes (n : Nat) (x0 : Int) (x1 : List (List PV)) (x2 : Int) : Tr (ByteArray × (List (List PV)) × Int) := (.opt (F_spec_l1Rd_below n (IntKind.i64.wrap (x0 + (1 : Int))) x1 x2) fun r98 => (.opt (loopF (B_spec_l1Rd_bytes_29 n) n ((0 : Nat), r98.1, ([] : List (List PV)), r98.2.1, r98.2.2)) fun r100 => (.ask (decide (r100.1 = r100.2.1.length)) (.opt (bytesOf r100.2.1) fun l101 => (.done ((⟨l101.toArray⟩ : ByteArray), r100.2.2.1, r100.2.2.2))) .fail)))
def F_spec_l1Rd_bytes : Nat → Int → List (List PV) → Int → Option (ByteArray × (List (List PV)) × Int)
  | 0, _, _, _ => none
  | n + 1, x0, x1, x2 => (T_spec_l1Rd_bytes n x0 x1 x2).run
theorem ft_spec_l1Rd_bytes (n : Nat) (x0 : Int) (x1 : List (List PV)) (x2 : Int) : funT (CT_spec_l1Rd_bytes n) (LT_spec_l1Rd_bytes n) K_spec_l1Rd_bytes (A_spec_l1Rd_bytes x0 x1 x2) (U_spec_l1Rd_bytes x0 x1 x2) = (T_spec_l1Rd_bytes n x0 x1 x2).bind fun r => .done (O_spec_l1Rd_bytes r) := by kernel_rfl
theorem ct_spec_l1Rd_bytes (n : Nat) : CTok (CT_spec_l1Rd_bytes n) (runs KP lib n) := mkCT_cons (eo_spec_l1Rd_below n (noEnt_ok)) (mkCT_nil)
theorem lt_spec_l1Rd_bytes_29 (n : Nat) (v : Nat × Int × (List (List PV)) × (List (List PV)) × Int) : (evalCT (CT_spec_l1Rd_bytes n) (mkLT []) K_spec_l1Rd_bytes_L29 (S_spec_l1Rd_bytes_29 v) []).bind (ltail [0, 5, 6] [(.ret, [4]), ((.exit 0), [5])]) = (B_spec_l1Rd_bytes_29 n v).bind (lenc S_spec_l1Rd_bytes_29 D_spec_l1Rd_bytes_29) := by
  obtain ⟨w0, w1, w2, w3, w4⟩ := v
  kernel_rfl
theorem le_spec_l1Rd_bytes_29 (n : Nat) : LEok (runs KP lib n) n (29, [0, 5, 6], [(.ret, [4]), ((.exit 0), [5])], K_spec_l1Rd_bytes_L29) (LE_spec_l1Rd_bytes_29 n) := fun st e s h =>
  lent_ok (ct_spec_l1Rd_bytes n) (noLoops rfl) (lt_spec_l1Rd_bytes_29 n) (fun r h => by cases h) (fun r y h => by cases h; rfl) (fun hs v h => by
    unfold VH_spec_l1Rd_bytes_29 at h
    split at h <;> cases h
    rfl) h
theorem lo_spec_l1Rd_bytes (n : Nat) : LTok (LT_spec_l1Rd_bytes n) (runs KP lib n) n K_spec_l1Rd_bytes.body := mkLT_ok (by
  intro x hx
  have hx : x ∈ ([(29, [0, 5, 6], [(.ret, [4]), ((.exit 0), [5])], K_spec_l1Rd_bytes_L29)] : List (Nat × List Nat × List (Ex × List Nat) × KCode)) := hx
  simp only [List.mem_cons, List.not_mem_nil, or_false] at hx
  rcases hx with rfl
  · exact ⟨LE_spec_l1Rd_bytes_29 n, fun st => rfl, le_spec_l1Rd_bytes_29 n⟩)
theorem th_spec_l1Rd_bytes : ∀ (n : Nat) (x0 : Int) (x1 : List (List PV)) (x2 : Int) (r : ByteArray × (List (List PV)) × Int), F_spec_l1Rd_bytes n x0 x1 x2 = some r → runs KP lib n 63 (A_spec_l1Rd_bytes x0 x1 x2) (U_spec_l1Rd_bytes x0 x1 x2) = some (O_spec_l1Rd_bytes r)
  | 0, x0, x1, x2, r, h => by cases h
  | n + 1, x0, x1, x2, r, h => fun_step (kf := K_spec_l1Rd_bytes) rfl (ct_spec_l1Rd_bytes n) (lo_spec_l1Rd_bytes n) (ft_spec_l1Rd_bytes n x0 x1 x2) h
def FH_spec_l1Rd_bytes (n : Nat) : Cont → Option (ByteArray × (List (List PV)) × Int)
  | ([[[]], [[.i x0]]], [[[[.r x1], [.i x2]]]]) => F_spec_l1Rd_bytes n x0 x1 x2
  | _ => none
def E_spec_l1Rd_bytes (n : Nat) (d : List AV → List Go.Eng.Frame → Tr Res) : List AV → List Go.Eng.Frame → Tr Res := cent (A_spec_l1Rd_bytes (0) ([]) (0)) (U_spec_l1Rd_bytes (0) ([]) (0)) (FH_spec_l1Rd_bytes n) O_spec_l1Rd_bytes d
theorem eo_spec_l1Rd_bytes (n : Nat) {d : List AV → List Go.Eng.Frame → Tr Res} (hd : ∀ ar up r, (d ar up).run = some r → runs KP lib n 63 ar up = some r) : ∀ ar up r, (E_spec_l1Rd_bytes n d ar up).run = some r → runs KP lib n 63 ar up = some r :=
  cent_ok (fun hs r h => by
    unfold FH_spec_l1Rd_bytes at h
    split at h
    · exact ⟨A_spec_l1Rd_bytes _ _ _, U_spec_l1Rd_bytes _ _ _, rfl, rfl, th_spec_l1Rd_bytes n _ _ _ r h⟩
    · cases h) hd
/-! ### (*spec.l1Rd).hurt -/
def A_spec_l1Rd_hurt (x0 : ByteArray) (x1 : List (List PV)) (x2 : Int) : List AV := [(.c (.ptr 0 0 0 0 0)), (.c (.p (.s x0)))]
def U_spec_l1Rd_hurt (x0 : ByteArray) (x1 : List (List PV)) (x2 : Int) : List Go.Eng.Frame := [[(0, ⟨0, 2, 95, (.box [(.p (.ls x1)), (.p (.i .i64 x2))])⟩)]]
def O_spec_l1Rd_hurt (r : ByteArray × (List (List PV)) × Int) : Res := ⟨(.c (.p (.s r.1))), [[(0, ⟨0, 2, 95, (.box [(.p (.ls r.2.1)), (.p (.i .i64 r.2.2))])⟩)]], []⟩
abbrev CT_spec_l1Rd_hurt (n : Nat) : CTab := mkCT [(40, E_spec_l1Rd_below n (noEnt)), (63, E_spec_l1Rd_bytes n (noEnt))]
abbrev LT_spec_l1Rd_hurt (n : Nat) : LTab := mkLT []
def T_spec_l1Rd_hurt (n : Nat) (x0 : ByteArray) (x1 : List (List PV)) (x2 : Int) : Tr (ByteArray × (List (List PV)) × Int) := (.opt (F_spec_l1Rd_below n (6 : Int) x1 x2) fun r97 => (.ask ((r97.1 == (0 : Int))) (.opt (F_spec_l1Rd_bytes n (2 : Int) r97.2.1 r97.2.2) fun r102 => (.ask (decide (x0.size + r102.1.size ≤ 9223372036854775807)) (.done ((x0 ++ r102.1), r102.2.1, r102.2.2)) .fail)) (.ask ((r97.1 == (1 : Int))) (.opt (F_spec_l1Rd_below n (IntKind.i64.wrap ((x0.size : Int) + (1 : Int))) r97.2.1 r97.2.2) fun r103 => (.ask (decide (0 ≤ (0 : Int) ∧ (0 : Int) ≤ r103.1 ∧ r103.1 ≤ x0.size)) (.done ((x0.extract ((0 : Int)).toNat (r103.1).toNat), r103.2.1, r103.2.2)) .fail)) (.ask ((r97.1 == (2 : Int))) (.ask ((decide ((x0.size : Int) > (0 : Int)))) (.opt (F_spec_l1Rd_below n (x0.size : Int) r97.2.1 r97.2.2) fun r104 => (.ask (decide (0 ≤ (0 : Int) ∧ (0 : Int) ≤ r104.1 ∧ r104.1 ≤ x0.size)) (.ask (decide (0 ≤ (IntKind.i64.wrap (r104.1 + (1 : Int))) ∧ (IntKind.i64.wrap (r104.1 + (1 : Int))) ≤ (x0.size : Int) ∧ (x0.size : Int) ≤ x0.size)) (.opt (F_spec_l1Rd_below n (6 : Int) r104.2.1 r104.2.2) fun r105 => (.ask (decide (6 = ([[(.s (⟨#[65]⟩ : ByteArray))], [(.s (⟨#[49]⟩ : ByteArray))], [(.s (⟨#[40]⟩ : ByteArray))], [(.s (⟨#[44]⟩ : ByteArray))], [(.s (⟨#[34]⟩ : ByteArray))], [(.s (⟨#[32]⟩ : ByteArray))]] : List (List PV)).length ∧ 0 ≤ r105.1 ∧ r105.1 < ((6 : Nat) : Int))) (.opt (([[(.s (⟨#[65]⟩ : ByteArray))], [(.s (⟨#[49]⟩ : ByteArray))], [(.s (⟨#[40]⟩ : ByteArray))], [(.s (⟨#[44]⟩ : ByteArray))], [(.s (⟨#[34]⟩ : ByteArray))], [(.s (⟨#[32]⟩ : ByteArray))]] : List (List PV))[(r105.1).toNat]?) fun e106 => (.opt (cellS e106 0) fun y107 => (.ask (decide ((x0.extract ((0 : Int)).toNat (r104.1).toNat).size + y107.size ≤ 9223372036854775807)) (.ask (decide (((x0.extract ((0 : Int)).toNat (r104.1).toNat) ++ y107).size + (x0.extract ((IntKind.i64.wrap (r104.1 + (1 : Int)))).toNat ((x0.size : Int)).toNat).size ≤ 9223372036854775807)) (.done ((((x0.extract ((0 : Int)).toNat (r104.1).toNat) ++ y107) ++ (x0.extract ((IntKind.i64.wrap (r104.1 + (1 : Int)))).toNat ((x0.size : Int)).toNat)), r105.2.1, r105.2.2)) .fail) .fail))) .fail)) .fail) .fail)) (.done (x0, r97.2.1, r97.2.2))) (.done (x0, r97.2.1, r97.2.2))))))
def F_spec_l1Rd_hurt : Nat → ByteArray → List (List PV) → Int → Option (ByteArray × (List (List PV)) × Int)
  | 0, _, _, _ => none
  | n + 1, x0, x1, x2 => (T_spec_l1Rd_hurt n x0 x1 x2).run
theorem ft_spec_l1Rd_hurt (n : Nat) (x0 : ByteArray) (x1 : List (List PV)) (x2 : Int) : funT (CT_spec_l1Rd_hurt n) (LT_spec_l1Rd_hurt n) K_spec_l1Rd_hurt (A_spec_l1Rd_hurt x0 x1 x2) (U_spec_l1Rd_hurt x0 x1 x2) = (T_spec_l1Rd_hurt n x0 x1 x2).bind fun r => .done (O_spec_l1Rd_hurt r) := by kernel_rfl
theorem ct_spec_l1Rd_hurt (n : Nat) : CTok (CT_spec_l1Rd_hurt n) (runs KP lib n) := mkCT_cons (eo_spec_l1Rd_below n (noEnt_ok)) (mkCT_cons (eo_spec_l1Rd_bytes n (noEnt_ok)) (mkCT_nil))
theorem th_spec_l1Rd_hurt : ∀ (n : Nat) (x0 : ByteArray) (x1 : List (List PV)) (x2 : Int) (r : ByteArray × (List (List PV)) × Int), F_spec_l1Rd_hurt n x0 x1 x2 = some r → runs KP lib n 44 (A_spec_l1Rd_hurt x0 x1 x2) (U_spec_l1Rd_hurt x0 x1 x2) = some (O_spec_l1Rd_hurt r)
  | 0, x0, x1, x2, r, h => by cases h
  | n + 1, x0, x1, x2, r, h => fun_step (kf := K_spec_l1Rd_hurt) rfl (ct_spec_l1Rd_hurt n) (noLoops rfl) (ft_spec_l1Rd_hurt n x0 x1 x2) h
def FH_spec_l1Rd_hurt (n : Nat) : Cont → Option (ByteArray × (List (List PV)) × Int)
  | ([[[]], [[.s x0]]], [[[[.r x1], [.i x2]]]]) => F_spec_l1Rd_hurt n x0 x1 x2
  | _ => none
def E_spec_l1Rd_hurt (n : Nat) (d : List AV → List Go.Eng.Frame → Tr Res) : List AV → List Go.Eng.Frame → Tr Res := cent (A_spec_l1Rd_hurt (⟨#[]⟩) ([]) (0)) (U_spec_l1Rd_hurt (⟨#[]⟩) ([]) (0)) (FH_spec_l1Rd_hurt n) O_spec_l1Rd_hurt d
theorem eo_spec_l1Rd_hurt (n : Nat) {d : List AV → List Go.Eng.Frame → Tr Res} (hd : ∀ ar up r, (d ar up).run = some r → runs KP lib n 44 ar up = some r) : ∀ ar up r, (E_spec_l1Rd_hurt n d ar up).run = some r → runs KP lib n 44 ar up = some r :=
  cent_ok (fun hs r h => by
    unfold FH_spec_l1Rd_hurt at h
    split at h
    · exact ⟨A_spec_l1Rd_hurt _ _ _, U_spec_l1Rd_hurt _ _ _, rfl, rfl, th_spec_l1Rd_hurt n _ _ _ r h⟩
    · cases h) hd
/-! ### spec.DrawReadPlace -/
def A_spec_DrawReadPlace (x0 : List (List PV)) : List AV := [(.c (.p (.ls x0)))]
def U_spec_DrawReadPlace (x0 : List (List PV)) : List Go.Eng.Frame := []
def O_spec_DrawReadPlace (r : ByteArray) : Res := ⟨(.c (.p (.s r))), [], []⟩
abbrev CT_spec_DrawReadPlace (n : Nat) : CTab := mkCT [(37, E_spec_l1Open n (noEnt)), (42, E_spec_l1Rd_place n (noEnt)), (7, E_spec_PlaceText n (noEnt)), (43, E_spec_l1Rd_once n (noEnt)), (44, E_spec_l1Rd_hurt n (noEnt)), (40, E_spec_l1Rd_below n (noEnt))]
abbrev LT_spec_DrawReadPlace (n : Nat) : LTab := mkLT []
def T_spec_DrawReadPlace (n : Nat) (x0 : List (List PV)) : Tr (ByteArray) := (.opt (F_spec_l1Open n x0) fun r93 => (.opt (F_spec_l1Rd_place n r93.1 r93.2) fun r94 => (.opt (F_spec_PlaceText n r94.1 r94.2.1 r94.2.2.1 r94.2.2.2.1) fun r95 => (.opt (F_spec_l1Rd_once n (4 : Int) r94.2.2.2.2.1 r94.2.2.2.2.2) fun r96 => (.ask (r96.1) (.opt (F_spec_l1Rd_hurt n r95 r96.2.1 r96.2.2) fun r108 => (.done r108.1)) (.opt (F_spec_l1Rd_once n (8 : Int) r96.2.1 r96.2.2) fun r109 => (.ask (r109.1) (.opt (F_spec_l1Rd_below n (9 : Int) r109.2.1 r109.2.2) fun r110 => (.ask (decide (9 = ([[(.s (⟨#[65, 48]⟩ : ByteArray))], [(.s (⟨#[65, 48, 49]⟩ : ByteArray))], [(.s (⟨#[65, 49, 48, 48]⟩ : ByteArray))], [(.s (⟨#[66, 65, 49]⟩ : ByteArray))], [(.s (⟨#[36, 65, 36]⟩ : ByteArray))], [(.s (⟨#[65, 36, 49]⟩ : ByteArray))], [(.s (⟨#[49, 65]⟩ : ByteArray))], [(.s (⟨#[65, 49, 36]⟩ : ByteArray))], [(.s (⟨#[36, 36, 65, 49]⟩ : ByteArray))]] : List (List PV)).length ∧ 0 ≤ r110.1 ∧ r110.1 < ((9 : Nat) : Int))) (.opt (([[(.s (⟨#[65, 48]⟩ : ByteArray))], [(.s (⟨#[65, 48, 49]⟩ : ByteArray))], [(.s (⟨#[65, 49, 48, 48]⟩ : ByteArray))], [(.s (⟨#[66, 65, 49]⟩ : ByteArray))], [(.s (⟨#[36, 65, 36]⟩ : ByteArray))], [(.s (⟨#[65, 36, 49]⟩ : ByteArray))], [(.s (⟨#[49, 65]⟩ : ByteArray))], [(.s (⟨#[65, 49, 36]⟩ : ByteArray))], [(.s (⟨#[36, 36, 65, 49]⟩ : ByteArray))]] : List (List PV))[(r110.1).toNat]?) fun e111 => (.opt (cellS e111 0) fun y112 => (.done y112))) .fail)) (.done r95))))))))
def F_spec_DrawReadPlace : Nat → List (List PV) → Option (ByteArray)
  | 0, _ => none
  | n + 1, x0 => (T_spec_DrawReadPlace n x0).run
theorem ft_spec_DrawReadPlace (n : Nat) (x0 : List (List PV)) : funT (CT_spec_DrawReadPlace n) (LT_spec_DrawReadPlace n) K_spec_DrawReadPlace (A_spec_DrawReadPlace x0) (U_spec_DrawReadPlace x0) = (T_spec_DrawReadPlace n x0).bind fun r => .done (O_spec_DrawReadPlace r) := by kernel_rfl
theorem ct_spec_DrawReadPlace (n : Nat) : CTok (CT_spec_DrawReadPlace n) (runs KP lib n) := mkCT_cons (eo_spec_l1Open n (noEnt_ok)) (mkCT_cons (eo_spec_l1Rd_place n (noEnt_ok)) (mkCT_cons (eo_spec_PlaceText n (noEnt_ok)) (mkCT_cons (eo_spec_l1Rd_once n (noEnt_ok)) (mkCT_cons (eo_spec_l1Rd_hurt n (noEnt_ok)) (mkCT_cons (eo_spec_l1Rd_below n (noEnt_ok)) (mkCT_nil))))))
theorem th_spec_DrawReadPlace : ∀ (n : Nat) (x0 : List (List PV)) (r : ByteArray), F_spec_DrawReadPlace n x0 = some r → runs KP lib n 22 (A_spec_DrawReadPlace x0) (U_spec_DrawReadPlace x0) = some (O_spec_DrawReadPlace r)
  | 0, x0, r, h => by cases h
  | n + 1, x0, r, h => fun_step (kf := K_spec_DrawReadPlace) rfl (ct_spec_DrawReadPlace n) (noLoops rfl) (ft_spec_DrawReadPlace n x0) h
def FH_spec_DrawReadPlace (n : Nat) : Cont → Option (ByteArray)
  | ([[[.r x0]]], []) => F_spec_DrawReadPlace n x0
  | _ => none
def E_spec_DrawReadPlace (n : Nat) (d : List AV → List Go.Eng.Frame → Tr Res) : List AV → List Go.Eng.Frame → Tr Res := cent (A_spec_DrawReadPlace ([])) (U_spec_DrawReadPlace ([])) (FH_spec_DrawReadPlace n) O_spec_DrawReadPlace d
theorem eo_spec_DrawReadPlace (n : Nat) {d : List AV → List Go.Eng.Frame → Tr Res} (hd : ∀ ar up r, (d ar up).run = some r → runs KP lib n 22 ar up = some r) : ∀ ar up r, (E_spec_DrawReadPlace n d ar up).run = some r → runs KP lib n 22 ar up = some r :=
  cent_ok (fun hs r h => by
    unfold FH_spec_DrawReadPlace at h
    split at h
    · exact ⟨A_spec_DrawReadPlace _, U_spec_DrawReadPlace _, rfl, rfl, th_spec_DrawReadPlace n _ r h⟩
    · cases h) hd
/-! ### spec.l1Int -/
def A_spec_l1Int (x0 : ByteArray) (x1 : Int) : List AV := [(.c (.p (.s x0))), (.c (.p (.i .i64 x1)))]
def U_spec_l1Int (x0 : ByteArray) (x1 : Int) : List Go.Eng.Frame := []
def O_spec_l1Int (r : Int × Bool) : Res := ⟨(.tup [(false, [(.p (.i .i64 r.1))]), (false, [(.p (.b r.2))])]), [], []⟩
abbrev CT_spec_l1Int (n : Nat) : CTab := mkCT []
def S_spec_l1Int_61 (v : ByteArray × Int × Int) : St := ⟨[(0, (.c (.p (.s v.1)))), (6, (.c (.p (.i .i64 v.2.1)))), (7, (.c (.p (.i .i64 v.2.2))))], [], []⟩
def B_spec_l1Int_61 (n : Nat) (v : ByteArray × Int × Int) : Tr ((ByteArray × Int × Int) ⊕ ((Int × Bool) ⊕ (Int))) := (.ask ((decide (v.2.2 < (v.1.size : Int)))) (.ask (decide (0 ≤ v.2.2)) (.opt (v.1.toList[(v.2.2).toNat]?) fun c122 => (.ask ((decide ((c122.toNat : Int) < (48 : Int)))) (.done (.inr (.inl (((0 : Int), false))))) (.ask (decide (0 ≤ v.2.2)) (.opt (v.1.toList[(v.2.2).toNat]?) fun c123 => (.ask ((decide ((c123.toNat : Int) > (57 : Int)))) (.done (.inr (.inl (((0 : Int), false))))) (.ask (decide (0 ≤ v.2.2)) (.opt (v.1.toList[(v.2.2).toNat]?) fun c124 => (.done (.inl (v.1, (IntKind.i64.wrap ((IntKind.i64.wrap (v.2.1 * (10 : Int))) + (IntKind.i64.wrap (IntKind.u8.wrap ((c124.toNat : Int) - (48 : Int)))))), (IntKind.i64.wrap (v.2.2 + (1 : Int))))))) .fail))) .fail))) .fail) (.done (.inr (.inr (v.2.1)))))
def D_spec_l1Int_61 : ((Int × Bool) ⊕ (Int)) → Ex × St := fun | .inl r => (.ret, ⟨[(4, (.c (.p (.i .i64 r.1)))), (5, (.c (.p (.b r.2))))], [], []⟩) | .inr r => (fun r => ((.exit 0), ⟨[(6, (.c (.p (.i .i64 r))))], [], []⟩)) r
def DT_spec_l1Int_61 : ((Int × Bool) ⊕ (Int)) → Tr (Ex × St) := fun r => .alt r (fun r => .done (.ret, ⟨[(4, (.c (.p (.i .i64 r.1)))), (5, (.c (.p (.b r.2))))], [], []⟩)) (fun r => .done ((.exit 0), ⟨[(6, (.c (.p (.i .i64 r))))], [], []⟩))
def VH_spec_l1Int_61 : Cont3 → Option (ByteArray × Int × Int)
  | ([[[.s w0]], [[.i w1]], [[.i w2]]], [], []) => some (w0, w1, w2)
  | _ => none
abbrev LE_spec_l1Int_61 (n : Nat) : St → Tr (Ex × St) := lent (S_spec_l1Int_61 (⟨#[]⟩, 0, 0)) VH_spec_l1Int_61 (B_spec_l1Int_61 n) DT_spec_l1Int_61 n
abbrev LT_spec_l1Int (n : Nat) : LTab := mkLT [(61, LE_spec_l1Int_61 n)]
def T_spec_l1Int (n : Nat) (x0 : ByteArray) (x1 : Int) : Tr (Int × Bool) := (.ask ((decide ((x0.size : Int) < (1 : Int)))) (.done ((0 : Int), false)) (.ask ((decide ((x0.size : Int) > x1))) (.done ((0 : Int), false)) (.ask (decide (0 ≤ (0 : Int))) (.opt (x0.toList[((0 : Int)).toNat]?) fun c121 => (.ask (((c121.toNat : Int) == (48 : Int))) (.ask ((decide ((x0.size : Int) > (1 : Int)))) (.done ((0 : Int), false)) (.opt (loopF (B_spec_l1Int_61 n) n (x0, (0 : Int), (0 : Int))) fun r125 => (.alt r125 (fun r126 => (.done (r126.1, r126.2))) (fun r127 => (.done (r127, true)))))) (.opt (loopF (B_spec_l1Int_61 n) n (x0, (0 : Int), (0 : Int))) fun r128 => (.alt r128 (fun r129 => (.done (r129.1, r129.2))) (fun r130 => (.done (r130, true))))))) .fail)))
def F_spec_l1Int : Nat → ByteArray → Int → Option (Int × Bool)
  | 0, _, _ => none
  | n + 1, x0, x1 => (T_spec_l1Int n x0 x1).run
theorem ft_spec_l1Int (n : Nat) (x0 : ByteArray) (x1 : Int) : funT (CT_spec_l1Int n) (LT_spec_l1Int n) K_spec_l1Int (A_spec_l1Int x0 x1) (U_spec_l1Int x0 x1) = (T_spec_l1Int n x0 x1).bind fun r => .done (O_spec_l1Int r) := by kernel_rfl
theorem ct_spec_l1Int (n : Nat) : CTok (CT_spec_l1Int n) (runs KP lib n) := mkCT_nil
theorem lt_spec_l1Int_61 (n : Nat) (v : ByteArray × Int × Int) : (evalCT (CT_spec_l1Int n) (mkLT []) K_spec_l1Int_L61 (S_spec_l1Int_61 v) []).bind (ltail [0, 6, 7] [(.ret, [4, 5]), ((.exit 0), [6])]) = (B_spec_l1Int_61 n v).bind (lenc S_spec_l1Int_61 D_spec_l1Int_61) := by
  obtain ⟨w0, w1, w2⟩ := v
  kernel_rfl
theorem le_spec_l1Int_61 (n : Nat) : LEok (runs KP lib n) n (61, [0, 6, 7], [(.ret, [4, 5]), ((.exit 0), [6])], K_spec_l1Int_L61) (LE_spec_l1Int_61 n) := fun st e s h =>
  lent_ok (ct_spec_l1Int n) (noLoops rfl) (lt_spec_l1Int_61 n) (fun r => by
    rcases r with r | r <;> (intro h; cases h)) (fun r y h => by
    rcases r with r | r <;> (cases h; rfl)) (fun hs v h => by
    unfold VH_spec_l1Int_61 at h
    split at h <;> cases h
    rfl) h
theorem lo_spec_l1Int (n : Nat) : LTok (LT_spec_l1Int n) (runs KP lib n) n K_spec_l1Int.body := mkLT_ok (by
  intro x hx
  have hx : x ∈ ([(61, [0, 6, 7], [(.ret, [4, 5]), ((.exit 0), [6])], K_spec_l1Int_L61)] : List (Nat × List Nat × List (Ex × List Nat) × KCode)) := hx
  simp only [List.mem_cons, List.not_mem_nil, or_false] at hx
  rcases hx with rfl
  · exact ⟨LE_spec_l1Int_61 n, fun st => rfl, le_spec_l1Int_61 n⟩)
theorem th_spec_l1Int : ∀ (n : Nat) (x0 : ByteArray) (x1 : Int) (r : Int × Bool), F_spec_l1Int n x0 x1 = some r → runs KP lib n 32 (A_spec_l1Int x0 x1) (U_spec_l1Int x0 x1) = some (O_spec_l1Int r)
  | 0, x0, x1, r, h => by cases h
  | n + 1, x0, x1, r, h => fun_step (kf := K_spec_l1Int) rfl (ct_spec_l1Int n) (lo_spec_l1Int n) (ft_spec_l1Int n x0 x1) h
def FH_spec_l1Int (n : Nat) : Cont → Option (Int × Bool)
  | ([[[.s x0]], [[.i x1]]], []) => F_spec_l1Int n x0 x1
  | _ => none
def E_spec_l1Int (n : Nat) (d : List AV → List Go.Eng.Frame → Tr Res) : List AV → List Go.Eng.Frame → Tr Res := cent (A_spec_l1Int (⟨#[]⟩) (0)) (U_spec_l1Int (⟨#[]⟩) (0)) (FH_spec_l1Int n) O_spec_l1Int d
theorem eo_spec_l1Int (n : Nat) {d : List AV → List Go.Eng.Frame → Tr Res} (hd : ∀ ar up r, (d ar up).run = some r → runs KP lib n 32 ar up = some r) : ∀ ar up r, (E_spec_l1Int n d ar up).run = some r → runs KP lib n 32 ar up = some r :=
  cent_ok (fun hs r h => by
    unfold FH_spec_l1Int at h
    split at h
    · exact ⟨A_spec_l1Int _ _, U_spec_l1Int _ _, rfl, rfl, th_spec_l1Int n _ _ r h⟩
    · cases h) hd
/-! ### spec.ReadPlace -/
def A_spec_ReadPlace (x0 : ByteArray) : List AV := [(.c (.p (.s x0)))]
def U_spec_ReadPlace (x0 : ByteArray) : List Go.Eng.Frame := []
def O_spec_ReadPlace (r : Int × Int × Bool × Bool × Bool) : Res := ⟨(.tup [(true, [(.p (.i .i64 r.1)), (.p (.i .i64 r.2.1)), (.p (.b r.2.2.1)), (.p (.b r.2.2.2.1))]), (false, [(.p (.b r.2.2.2.2))])]), [], []⟩
abbrev CT_spec_ReadPlace (n : Nat) : CTab := mkCT [(19, E_spec_ReadCol n (noEnt)), (32, E_spec_l1Int n (noEnt)), (28, E_spec_RefOk n (noEnt))]
def S_spec_ReadPlace_62 (v : ByteArray × Int × Int × Int × Bool × Bool × Int × Int × Bool × Bool) : St := ⟨[(0, (.c (.p (.s v.1)))), (2, (.c (.ptr 0 128 0 0 0))), (4, (.c (.ptr 0 256 0 0 0))), (5, (.c (.p (.i .i64 v.2.1))))], [(128, ⟨0, 4, 29, (.box [(.p (.i .i64 v.2.2.1)), (.p (.i .i64 v.2.2.2.1)), (.p (.b v.2.2.2.2.1)), (.p (.b v.2.2.2.2.2.1))])⟩), (256, ⟨0, 4, 29, (.box [(.p (.i .i64 v.2.2.2.2.2.2.1)), (.p (.i .i64 v.2.2.2.2.2.2.2.1)), (.p (.b v.2.2.2.2.2.2.2.2.1)), (.p (.b v.2.2.2.2.2.2.2.2.2))])⟩)], []⟩
def B_spec_ReadPlace_62 (n : Nat) (v : ByteArray × Int × Int × Int × Bool × Bool × Int × Int × Bool × Bool) : Tr ((ByteArray × Int × Int × Int × Bool × Bool × Int × Int × Bool × Bool) ⊕ ((ByteArray × Int × Int × Int × Bool × Bool × Int × Int × Bool × Bool))) := (.ask ((decide (v.2.1 < (v.1.size : Int)))) (.ask (decide (0 ≤ v.2.1)) (.opt (v.1.toList[(v.2.1).toNat]?) fun c116 => (.ask ((decide ((c116.toNat : Int) ≥ (65 : Int)))) (.ask (decide (0 ≤ v.2.1)) (.opt (v.1.toList[(v.2.1).toNat]?) fun c117 => (.ask ((decide ((c117.toNat : Int) ≤ (90 : Int)))) (.done (.inl (v.1, (IntKind.i64.wrap (v.2.1 + (1 : Int))), v.2.2.1, v.2.2.2.1, v.2.2.2.2.1, v.2.2.2.2.2.1, v.2.2.2.2.2.2.1, v.2.2.2.2.2.2.2.1, v.2.2.2.2.2.2.2.2.1, v.2.2.2.2.2.2.2.2.2))) (.done (.inr ((v.1, v.2.1, v.2.2.1, v.2.2.2.1, v.2.2.2.2.1, v.2.2.2.2.2.1, v.2.2.2.2.2.2.1, v.2.2.2.2.2.2.2.1, v.2.2.2.2.2.2.2.2.1, v.2.2.2.2.2.2.2.2.2)))))) .fail) (.done (.inr ((v.1, v.2.1, v.2.2.1, v.2.2.2.1, v.2.2.2.2.1, v.2.2.2.2.2.1, v.2.2.2.2.2.2.1, v.2.2.2.2.2.2.2.1, v.2.2.2.2.2.2.2.2.1, v.2.2.2.2.2.2.2.2.2)))))) .fail) (.done (.inr ((v.1, v.2.1, v.2.2.1, v.2.2.2.1, v.2.2.2.2.1, v.2.2.2.2.2.1, v.2.2.2.2.2.2.1, v.2.2.2.2.2.2.2.1, v.2.2.2.2.2.2.2.2.1, v.2.2.2.2.2.2.2.2.2)))))
def D_spec_ReadPlace_62 : (ByteArray × Int × Int × Int × Bool × Bool × Int × Int × Bool × Bool) → Ex × St := fun r => ((.exit 0), ⟨[(0, (.c (.p (.s r.1)))), (2, (.c (.ptr 0 128 0 0 0))), (4, (.c (.ptr 0 256 0 0 0))), (5, (.c (.p (.i .i64 r.2.1))))], [(128, ⟨0, 4, 29, (.box [(.p (.i .i64 r.2.2.1)), (.p (.i .i64 r.2.2.2.1)), (.p (.b r.2.2.2.2.1)), (.p (.b r.2.2.2.2.2.1))])⟩), (256, ⟨0, 4, 29, (.box [(.p (.i .i64 r.2.2.2.2.2.2.1)), (.p (.i .i64 r.2.2.2.2.2.2.2.1)), (.p (.b r.2.2.2.2.2.2.2.2.1)), (.p (.b r.2.2.2.2.2.2.2.2.2))])⟩)], []⟩)
def DT_spec_ReadPlace_62 : (ByteArray × Int × Int × Int × Bool × Bool × Int × Int × Bool × Bool) → Tr (Ex × St) := fun r => .done ((.exit 0), ⟨[(0, (.c (.p (.s r.1)))), (2, (.c (.ptr 0 128 0 0 0))), (4, (.c (.ptr 0 256 0 0 0))), (5, (.c (.p (.i .i64 r.2.1))))], [(128, ⟨0, 4, 29, (.box [(.p (.i .i64 r.2.2.1)), (.p (.i .i64 r.2.2.2.1)), (.p (.b r.2.2.2.2.1)), (.p (.b r.2.2.2.2.2.1))])⟩), (256, ⟨0, 4, 29, (.box [(.p (.i .i64 r.2.2.2.2.2.2.1)), (.p (.i .i64 r.2.2.2.2.2.2.2.1)), (.p (.b r.2.2.2.2.2.2.2.2.1)), (.p (.b r.2.2.2.2.2.2.2.2.2))])⟩)], []⟩)
def VH_spec_ReadPlace_62 : Cont3 → Option (ByteArray × Int × Int × Int × Bool × Bool × Int × Int × Bool × Bool)
  | ([[[.s w0]], [[]], [[]], [[.i w1]]], [[[.i w2], [.i w3], [.b w4], [.b w5]], [[.i w6], [.i w7], [.b w8], [.b w9]]], []) => some (w0, w1, w2, w3, w4, w5, w6, w7, w8, w9)
  | _ => none
abbrev LE_spec_ReadPlace_62 (n : Nat) : St → Tr (Ex × St) := lent (S_spec_ReadPlace_62 (⟨#[]⟩, 0, 0, 0, false, false, 0, 0, false, false)) VH_spec_ReadPlace_62 (B_spec_ReadPlace_62 n) DT_spec_ReadPlace_62 n
abbrev LT_spec_ReadPlace (n : Nat) : LTab := mkLT [(62, LE_spec_ReadPlace_62 n)]
def T_spec_ReadPlace (n : Nat) (x0 : ByteArray) : Tr (Int × Int × Bool × Bool × Bool) := (.ask ((decide ((x0.size : Int) > (0 : Int)))) (.ask (decide (0 ≤ (0 : Int))) (.opt (x0.toList[((0 : Int)).toNat]?) fun c115 => (.ask (((c115.toNat : Int) == (36 : Int))) (.ask (decide (0 ≤ (1 : Int) ∧ (1 : Int) ≤ (x0.size : Int) ∧ (x0.size : Int) ≤ x0.size)) (.opt (loopF (B_spec_ReadPlace_62 n) n ((x0.extract ((1 : Int)).toNat ((x0.size : Int)).toNat), (0 : Int), (0 : Int), (0 : Int), false, false, (0 : Int), (0 : Int), true, false)) fun r118 => (.ask (decide (0 ≤ (0 : Int) ∧ (0 : Int) ≤ r118.2.1 ∧ r118.2.1 ≤ r118.1.size)) (.opt (F_spec_ReadCol n (r118.1.extract ((0 : Int)).toNat (r118.2.1).toNat)) fun r119 => (.ask (decide (0 ≤ r118.2.1 ∧ r118.2.1 ≤ (r118.1.size : Int) ∧ (r118.1.size : Int) ≤ r118.1.size)) (.ask ((decide (((r118.1.extract (r118.2.1).toNat ((r118.1.size : Int)).toNat).size : Int) > (0 : Int)))) (.ask (decide (0 ≤ (0 : Int))) (.opt ((r118.1.extract (r118.2.1).toNat ((r118.1.size : Int)).toNat).toList[((0 : Int)).toNat]?) fun c120 => (.ask (((c120.toNat : Int) == (36 : Int))) (.ask (decide (0 ≤ (1 : Int) ∧ (1 : Int) ≤ ((r118.1.extract (r118.2.1).toNat ((r118.1.size : Int)).toNat).size : Int) ∧ ((r118.1.extract (r118.2.1).toNat ((r118.1.size : Int)).toNat).size : Int) ≤ (r118.1.extract (r118.2.1).toNat ((r118.1.size : Int)).toNat).size)) (.opt (F_spec_l1Int n ((r118.1.extract (r118.2.1).toNat ((r118.1.size : Int)).toNat).extract ((1 : Int)).toNat (((r118.1.extract (r118.2.1).toNat ((r118.1.size : Int)).toNat).size : Int)).toNat) (2 : Int)) fun r131 => (.ask ((!r131.2)) (.done ((0 : Int), (0 : Int), false, false, false)) (.opt (F_spec_RefOk n r119 r131.1) fun r132 => (.ask ((!r132)) (.done ((0 : Int), (0 : Int), false, false, false)) (.done (r119, r131.1, r118.2.2.2.2.2.2.2.2.1, true, true)))))) .fail) (.opt (F_spec_l1Int n (r118.1.extract (r118.2.1).toNat ((r118.1.size : Int)).toNat) (2 : Int)) fun r133 => (.ask ((!r133.2)) (.done ((0 : Int), (0 : Int), false, false, false)) (.opt (F_spec_RefOk n r119 r133.1) fun r134 => (.ask ((!r134)) (.done ((0 : Int), (0 : Int), false, false, false)) (.done (r119, r133.1, r118.2.2.2.2.2.2.2.2.1, r118.2.2.2.2.2.2.2.2.2, true)))))))) .fail) (.opt (F_spec_l1Int n (r118.1.extract (r118.2.1).toNat ((r118.1.size : Int)).toNat) (2 : Int)) fun r135 => (.ask ((!r135.2)) (.done ((0 : Int), (0 : Int), false, false, false)) (.opt (F_spec_RefOk n r119 r135.1) fun r136 => (.ask ((!r136)) (.done ((0 : Int), (0 : Int), false, false, false)) (.done (r119, r135.1, r118.2.2.2.2.2.2.2.2.1, r118.2.2.2.2.2.2.2.2.2, true))))))) .fail)) .fail)) .fail) (.opt (loopF (B_spec_ReadPlace_62 n) n (x0, (0 : Int), (0 : Int), (0 : Int), false, false, (0 : Int), (0 : Int), false, false)) fun r137 => (.ask (decide (0 ≤ (0 : Int) ∧ (0 : Int) ≤ r137.2.1 ∧ r137.2.1 ≤ r137.1.size)) (.opt (F_spec_ReadCol n (r137.1.extract ((0 : Int)).toNat (r137.2.1).toNat)) fun r138 => (.ask (decide (0 ≤ r137.2.1 ∧ r137.2.1 ≤ (r137.1.size : Int) ∧ (r137.1.size : Int) ≤ r137.1.size)) (.ask ((decide (((r137.1.extract (r137.2.1).toNat ((r137.1.size : Int)).toNat).size : Int) > (0 : Int)))) (.ask (decide (0 ≤ (0 : Int))) (.opt ((r137.1.extract (r137.2.1).toNat ((r137.1.size : Int)).toNat).toList[((0 : Int)).toNat]?) fun c139 => (.ask (((c139.toNat : Int) == (36 : Int))) (.ask (decide (0 ≤ (1 : Int) ∧ (1 : Int) ≤ ((r137.1.extract (r137.2.1).toNat ((r137.1.size : Int)).toNat).size : Int) ∧ ((r137.1.extract (r137.2.1).toNat ((r137.1.size : Int)).toNat).size : Int) ≤ (r137.1.extract (r137.2.1).toNat ((r137.1.size : Int)).toNat).size)) (.opt (F_spec_l1Int n ((r137.1.extract (r137.2.1).toNat ((r137.1.size : Int)).toNat).extract ((1 : Int)).toNat (((r137.1.extract (r137.2.1).toNat ((r137.1.size : Int)).toNat).size : Int)).toNat) (2 : Int)) fun r140 => (.ask ((!r140.2)) (.done ((0 : Int), (0 : Int), false, false, false)) (.opt (F_spec_RefOk n r138 r140.1) fun r141 => (.ask ((!r141)) (.done ((0 : Int), (0 : Int), false, false, false)) (.done (r138, r140.1, r137.2.2.2.2.2.2.2.2.1, true, true)))))) .fail) (.opt (F_spec_l1Int n (r137.1.extract (r137.2.1).toNat ((r137.1.size : Int)).toNat) (2 : Int)) fun r142 => (.ask ((!r142.2)) (.done ((0 : Int), (0 : Int), false, false, false)) (.opt (F_spec_RefOk n r138 r142.1) fun r143 => (.ask ((!r143)) (.done ((0 : Int), (0 : Int), false, false, false)) (.done (r138, r142.1, r137.2.2.2.2.2.2.2.2.1, r137.2.2.2.2.2.2.2.2.2, true)))))))) .fail) (.opt (F_spec_l1Int n (r137.1.extract (r137.2.1).toNat ((r137.1.size : Int)).toNat) (2 : Int)) fun r144 => (.ask ((!r144.2)) (.done ((0 : Int), (0 : Int), false, false, false)) (.opt (F_spec_RefOk n r138 r144.1) fun r145 => (.ask ((!r145)) (.done ((0 : Int), (0 : Int), false, false, false)) (.done (r138, r144.1, r137.2.2.2.2.2.2.2.2.1, r137.2.2.2.2.2.2.2.2.2, true))))))) .fail)) .fail)))) .fail) (.opt (loopF (B_spec_ReadPlace_62 n) n (x0, (0 : Int), (0 : Int), (0 : Int), false, false, (0 : Int), (0 : Int), false, false)) fun r146 => (.ask (decide (0 ≤ (0 : Int) ∧ (0 : Int) ≤ r146.2.1 ∧ r146.2.1 ≤ r146.1.size)) (.opt (F_spec_ReadCol n (r146.1.extract ((0 : Int)).toNat (r146.2.1).toNat)) fun r147 => (.ask (decide (0 ≤ r146.2.1 ∧ r146.2.1 ≤ (r146.1.size : Int) ∧ (r146.1.size : Int) ≤ r146.1.size)) (.ask ((decide (((r146.1.extract (r146.2.1).toNat ((r146.1.size : Int)).toNat).size : Int) > (0 : Int)))) (.ask (decide (0 ≤ (0 : Int))) (.opt ((r146.1.extract (r146.2.1).toNat ((r146.1.size : Int)).toNat).toList[((0 : Int)).toNat]?) fun c148 => (.ask (((c148.toNat : Int) == (36 : Int))) (.ask (decide (0 ≤ (1 : Int) ∧ (1 : Int) ≤ ((r146.1.extract (r146.2.1).toNat ((r146.1.size : Int)).toNat).size : Int) ∧ ((r146.1.extract (r146.2.1).toNat ((r146.1.size : Int)).toNat).size : Int) ≤ (r146.1.extract (r146.2.1).toNat ((r146.1.size : Int)).toNat).size)) (.opt (F_spec_l1Int n ((r146.1.extract (r146.2.1).toNat ((r146.1.size : Int)).toNat).extract ((1 : Int)).toNat (((r146.1.extract (r146.2.1).toNat ((r146.1.size : Int)).toNat).size : Int)).toNat) (2 : Int)) fun r149 => (.ask ((!r149.2)) (.done ((0 : Int), (0 : Int), false, false, false)) (.opt (F_spec_RefOk n r147 r149.1) fun r150 => (.ask ((!r150)) (.done ((0 : Int), (0 : Int), false, false, false)) (.done (r147, r149.1, r146.2.2.2.2.2.2.2.2.1, true, true)))))) .fail) (.opt (F_spec_l1Int n (r146.1.extract (r146.2.1).toNat ((r146.1.size : Int)).toNat) (2 : Int)) fun r151 => (.ask ((!r151.2)) (.done ((0 : Int), (0 : Int), false, false, false)) (.opt (F_spec_RefOk n r147 r151.1) fun r152 => (.ask ((!r152)) (.done ((0 : Int), (0 : Int), false, false, false)) (.done (r147, r151.1, r146.2.2.2.2.2.2.2.2.1, r146.2.2.2.2.2.2.2.2.2, true)))))))) .fail) (.opt (F_spec_l1Int n (r146.1.extract (r146.2.1).toNat ((r146.1.size : Int)).toNat) (2 : Int)) fun r153 => (.ask ((!r153.2)) (.done ((0 : Int), (0 : Int), false, false, false)) (.opt (F_spec_RefOk n r147 r153.1) fun r154 => (.ask ((!r154)) (.done ((0 : Int), (0 : Int), false, false, false)) (.done (r147, r153.1, r146.2.2.2.2.2.2.2.2.1, r146.2.2.2.2.2.2.2.2.2, true))))))) .fail)) .fail)))
def F_spec_ReadPlace : Nat → ByteArray → Option (Int × Int × Bool × Bool × Bool)
  | 0, _ => none
  | n + 1, x0 => (T_spec_ReadPlace n x0).run
theorem ft_spec_ReadPlace (n : Nat) (x0 : ByteArray) : funT (CT_spec_ReadPlace n) (LT_spec_ReadPlace n) K_spec_ReadPlace (A_spec_ReadPlace x0) (U_spec_ReadPlace x0) = (T_spec_ReadPlace n x0).bind fun r => .done (O_spec_ReadPlace r) := by kernel_rfl
theorem ct_spec_ReadPlace (n : Nat) : CTok (CT_spec_ReadPlace n) (runs KP lib n) := mkCT_cons (eo_spec_ReadCol n (noEnt_ok)) (mkCT_cons (eo_spec_l1Int n (noEnt_ok)) (mkCT_cons (eo_spec_RefOk n (noEnt_ok)) (mkCT_nil)))
theorem lt_spec_ReadPlace_62 (n : Nat) (v : ByteArray × Int × Int × Int × Bool × Bool × Int × Int × Bool × Bool) : (evalCT (CT_spec_ReadPlace n) (mkLT []) K_spec_ReadPlace_L62 (S_spec_ReadPlace_62 v) []).bind (ltail [0, 2, 4, 5] [(.ret, [2, 3]), ((.exit 0), [0, 2, 4, 5])]) = (B_spec_ReadPlace_62 n v).bind (lenc S_spec_ReadPlace_62 D_spec_ReadPlace_62) := by
  obtain ⟨w0, w1, w2, w3, w4, w5, w6, w7, w8, w9⟩ := v
  kernel_rfl
theorem le_spec_ReadPlace_62 (n : Nat) : LEok (runs KP lib n) n (62, [0, 2, 4, 5], [(.ret, [2, 3]), ((.exit 0), [0, 2, 4, 5])], K_spec_ReadPlace_L62) (LE_spec_ReadPlace_62 n) := fun st e s h =>
  lent_ok (ct_spec_ReadPlace n) (noLoops rfl) (lt_spec_ReadPlace_62 n) (fun r h => by cases h) (fun r y h => by cases h; rfl) (fun hs v h => by
    unfold VH_spec_ReadPlace_62 at h
    split at h <;> cases h
    rfl) h
theorem lo_spec_ReadPlace (n : Nat) : LTok (LT_spec_ReadPlace n) (runs KP lib n) n K_spec_ReadPlace.body := mkLT_ok (by
  intro x hx
  have hx : x ∈ ([(62, [0, 2, 4, 5], [(.ret, [2, 3]), ((.exit 0), [0, 2, 4, 5])], K_spec_ReadPlace_L62)] : List (Nat × List Nat × List (Ex × List Nat) × KCode)) := hx
  simp only [List.mem_cons, List.not_mem_nil, or_false] at hx
  rcases hx with rfl
  · exact ⟨LE_spec_ReadPlace_62 n, fun st => rfl, le_spec_ReadPlace_62 n⟩)
theorem th_spec_ReadPlace : ∀ (n : Nat) (x0 : ByteArray) (r : Int × Int × Bool × Bool × Bool), F_spec_ReadPlace n x0 = some r → runs KP lib n 10 (A_spec_ReadPlace x0) (U_spec_ReadPlace x0) = some (O_spec_ReadPlace r)
  | 0, x0, r, h => by cases h
  | n + 1, x0, r, h => fun_step (kf := K_spec_ReadPlace) rfl (ct_spec_ReadPlace n) (lo_spec_ReadPlace n) (ft_spec_ReadPlace n x0) h
def FH_spec_ReadPlace (n : Nat) : Cont → Option (Int × Int × Bool × Bool × Bool)
  | ([[[.s x0]]], []) => F_spec_ReadPlace n x0
  | _ => none
def E_spec_ReadPlace (n : Nat) (d : List AV → List Go.Eng.Frame → Tr Res) : List AV → List Go.Eng.Frame → Tr Res := cent (A_spec_ReadPlace (⟨#[]⟩)) (U_spec_ReadPlace (⟨#[]⟩)) (FH_spec_ReadPlace n) O_spec_ReadPlace d
theorem eo_spec_ReadPlace (n : Nat) {d : List AV → List Go.Eng.Frame → Tr Res} (hd : ∀ ar up r, (d ar up).run = some r → runs KP lib n 10 ar up = some r) : ∀ ar up r, (E_spec_ReadPlace n d ar up).run = some r → runs KP lib n 10 ar up = some r :=
  cent_ok (fun hs r h => by
    unfold FH_spec_ReadPlace at h
    split at h
    · exact ⟨A_spec_ReadPlace _, U_spec_ReadPlace _, rfl, rfl, th_spec_ReadPlace n _ r h⟩
    · cases h) hd
/-! ### laws.FnPlaces -/
def A_laws_FnPlaces (x0 : List (List PV)) : List AV := [(.c (.p (.ls x0)))]
def U_laws_FnPlaces (x0 : List (List PV)) : List Go.Eng.Frame := []
def O_laws_FnPlaces (r : Bool) : Res := ⟨(.c (.p (.b r))), [], []⟩
abbrev CT_laws_FnPlaces (n : Nat) : CTab := mkCT [(13, E_laws_big n (noEnt)), (14, E_spec_DrawColText n (noEnt)), (15, E_impl_ColText n (noEnt)), (16, E_spec_DrawReadCol n (noEnt)), (17, E_spec_ColText n (noEnt)), (18, E_impl_ReadCol n (noEnt)), (19, E_spec_ReadCol n (noEnt)), (20, E_spec_DrawPlaceText n (noEnt)), (9, E_impl_PlaceText n (noEnt)), (11, E_impl_ReadPlace n (noEnt)), (7, E_spec_PlaceText n (noEnt)), (21, E_impl_RefOk n (noEnt)), (22, E_spec_DrawReadPlace n (noEnt)), (10, E_spec_ReadPlace n (noEnt))]
abbrev LT_laws_FnPlaces (n : Nat) : LTab := mkLT []
def T_laws_FnPlaces (n : Nat) (x0 : List (List PV)) : Tr (Bool) := (.opt (F_laws_big n x0) fun r1 => (.ask (r1) (.done true) (.opt (F_spec_DrawColText n x0) fun r19 => (.opt (F_impl_ColText n r19) fun r23 => (.opt (F_spec_DrawReadCol n x0) fun r28 => (.opt (F_spec_ColText n r19) fun r32 => (.ask ((!(r23.toList == r32.toList))) (.done false) (.opt (F_impl_ReadCol n r28) fun r37 => (.opt (F_spec_ReadCol n r28) fun r42 => (.ask ((r37 != r42)) (.done false) (.ask ((!(r23.toList == (⟨#[]⟩ : ByteArray).toList))) (.opt (F_impl_ReadCol n r23) fun r43 => (.ask ((r43 != r19)) (.done false) (.opt (F_spec_DrawPlaceText n x0) fun r54 => (.opt (F_impl_PlaceText n r54.1 r54.2.1 r54.2.2.1 r54.2.2.2) fun r65 => (.opt (F_impl_ReadPlace n r65) fun r77 => (.opt (F_spec_PlaceText n r54.1 r54.2.1 r54.2.2.1 r54.2.2.2) fun r91 => (.ask ((!(r65.toList == r91.toList))) (.done false) (.opt (F_impl_RefOk n r54.1 r54.2.1) fun r92 => (.ask ((!(r77.2.2.2.2 == r92))) (.done false) (.ask (r77.2.2.2.2) (.ask ((!((r77.1 == r54.1) && ((r77.2.1 == r54.2.1) && ((r77.2.2.1 == r54.2.2.1) && ((r77.2.2.2.1 == r54.2.2.2) && true)))))) (.done false) (.opt (F_spec_DrawReadPlace n x0) fun r113 => (.opt (F_impl_ReadPlace n r113) fun r114 => (.opt (F_spec_ReadPlace n r113) fun r155 => (.ask ((r114.2.2.2.2 == r155.2.2.2.2)) (.ask ((!r114.2.2.2.2)) (.done true) (.opt (F_impl_PlaceText n r114.1 r114.2.1 r114.2.2.1 r114.2.2.2.1) fun r156 => (.done (r156.toList == r113.toList)))) (.done false)))))) (.opt (F_spec_DrawReadPlace n x0) fun r157 => (.opt (F_impl_ReadPlace n r157) fun r158 => (.opt (F_spec_ReadPlace n r157) fun r159 => (.ask ((r158.2.2.2.2 == r159.2.2.2.2)) (.ask ((!r158.2.2.2.2)) (.done true) (.opt (F_impl_PlaceText n r158.1 r158.2.1 r158.2.2.1 r158.2.2.2.1) fun r160 => (.done (r160.toList == r157.toList)))) (.done false))))))))))))))) (.opt (F_spec_DrawPlaceText n x0) fun r161 => (.opt (F_impl_PlaceText n r161.1 r161.2.1 r161.2.2.1 r161.2.2.2) fun r162 => (.opt (F_impl_ReadPlace n r162) fun r163 => (.opt (F_spec_PlaceText n r161.1 r161.2.1 r161.2.2.1 r161.2.2.2) fun r164 => (.ask ((!(r162.toList == r164.toList))) (.done false) (.opt (F_impl_RefOk n r161.1 r161.2.1) fun r165 => (.ask ((!(r163.2.2.2.2 == r165))) (.done false) (.ask (r163.2.2.2.2) (.ask ((!((r163.1 == r161.1) && ((r163.2.1 == r161.2.1) && ((r163.2.2.1 == r161.2.2.1) && ((r163.2.2.2.1 == r161.2.2.2) && true)))))) (.done false) (.opt (F_spec_DrawReadPlace n x0) fun r166 => (.opt (F_impl_ReadPlace n r166) fun r167 => (.opt (F_spec_ReadPlace n r166) fun r168 => (.ask ((r167.2.2.2.2 == r168.2.2.2.2)) (.ask ((!r167.2.2.2.2)) (.done true) (.opt (F_impl_PlaceText n r167.1 r167.2.1 r167.2.2.1 r167.2.2.2.1) fun r169 => (.done (r169.toList == r166.toList)))) (.done false)))))) (.opt (F_spec_DrawReadPlace n x0) fun r170 => (.opt (F_impl_ReadPlace n r170) fun r171 => (.opt (F_spec_ReadPlace n r170) fun r172 => (.ask ((r171.2.2.2.2 == r172.2.2.2.2)) (.ask ((!r171.2.2.2.2)) (.done true) (.opt (F_impl_PlaceText n r171.1 r171.2.1 r171.2.2.1 r171.2.2.2.1) fun r173 => (.done (r173.toList == r170.toList)))) (.done false))))))))))))))))))))))))
def F_laws_FnPlaces : Nat → List (List PV) → Option (Bool)
  | 0, _ => none
  | n + 1, x0 => (T_laws_FnPlaces n x0).run
theorem ft_laws_FnPlaces (n : Nat) (x0 : List (List PV)) : funT (CT_laws_FnPlaces n) (LT_laws_FnPlaces n) K_laws_FnPlaces (A_laws_FnPlaces x0) (U_laws_FnPlaces x0) = (T_laws_FnPlaces n x0).bind fun r => .done (O_laws_FnPlaces r) := by kernel_rfl
theorem ct_laws_FnPlaces (n : Nat) : CTok (CT_laws_FnPlaces n) (runs KP lib n) := mkCT_cons (eo_laws_big n (noEnt_ok)) (mkCT_cons (eo_spec_DrawColText n (noEnt_ok)) (mkCT_cons (eo_impl_ColText n (noEnt_ok)) (mkCT_cons (eo_spec_DrawReadCol n (noEnt_ok)) (mkCT_cons (eo_spec_ColText n (noEnt_ok)) (mkCT_cons (eo_impl_ReadCol n (noEnt_ok)) (mkCT_cons (eo_spec_ReadCol n (noEnt_ok)) (mkCT_cons (eo_spec_DrawPlaceText n (noEnt_ok)) (mkCT_cons (eo_impl_PlaceText n (noEnt_ok)) (mkCT_cons (eo_impl_ReadPlace n (noEnt_ok)) (mkCT_cons (eo_spec_PlaceText n (noEnt_ok)) (mkCT_cons (eo_impl_RefOk n (noEnt_ok)) (mkCT_cons (eo_spec_DrawReadPlace n (noEnt_ok)) (mkCT_cons (eo_spec_ReadPlace n (noEnt_ok)) (mkCT_nil))))))))))))))
theorem th_laws_FnPlaces : ∀ (n : Nat) (x0 : List (List PV)) (r : Bool), F_laws_FnPlaces n x0 = some r → runs KP lib n 5 (A_laws_FnPlaces x0) (U_laws_FnPlaces x0) = some (O_laws_FnPlaces r)
  | 0, x0, r, h => by cases h
  | n + 1, x0, r, h => fun_step (kf := K_laws_FnPlaces) rfl (ct_laws_FnPlaces n) (noLoops rfl) (ft_laws_FnPlaces n x0) h
def FH_laws_FnPlaces (n : Nat) : Cont → Option (Bool)
  | ([[[.r x0]]], []) => F_laws_FnPlaces n x0
  | _ => none
def E_laws_FnPlaces (n : Nat) (d : List AV → List Go.Eng.Frame → Tr Res) : List AV → List Go.Eng.Frame → Tr Res := cent (A_laws_FnPlaces ([])) (U_laws_FnPlaces ([])) (FH_laws_FnPlaces n) O_laws_FnPlaces d
theorem eo_laws_FnPlaces (n : Nat) {d : List AV → List Go.Eng.Frame → Tr Res} (hd : ∀ ar up r, (d ar up).run = some r → runs KP lib n 5 ar up = some r) : ∀ ar up r, (E_laws_FnPlaces n d ar up).run = some r → runs KP lib n 5 ar up = some r :=
  cent_ok (fun hs r h => by
    unfold FH_laws_FnPlaces at h
    split at h
    · exact ⟨A_laws_FnPlaces _, U_laws_FnPlaces _, rfl, rfl, th_laws_FnPlaces n _ r h⟩
    · cases h) hd
end Go.Proofs.YtaannlnlddbgdabDoor.KFnPlaces
