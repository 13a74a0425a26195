/-
  The trees of what FnValueTexts calls: plain functions, and that the engine reckons just these. No condition.
-/
import Derived.Test.YtaannlnlddbgdaaDoorKFnValueTexts
import Derived.Test.YtaannlnlddbgdaaDoorE33
import Derived.KernelRfl
namespace Go.Proofs.YtaannlnlddbgdaaDoor.KFnValueTexts
open Go.Eng
set_option linter.unusedVariables false
set_option maxRecDepth 100000
def lib : FuncId → List AV → Option AV := libCons 34 Q_strings_CutPrefix (libCons 38 Q_strconv_ParseInt (libCons 56 Q_strconv_FormatInt (libNil)))
/-! ### laws.big -/
def A_laws_big (x0 : List (List PV)) : List AV := [(.c (.p (.ls x0)))]
def U_laws_big (x0 : List (List PV)) : List Go.Eng.Frame := []
def O_laws_big (r : Bool) : Res := ⟨(.c (.p (.b r))), [], []⟩
abbrev CT_laws_big (n : Nat) : CTab := mkCT []
abbrev LT_laws_big (n : Nat) : LTab := mkLT []
def T_laws_big (n : Nat) (x0 : List (List PV)) : Tr (Bool) := (.done (decide ((x0.length : Int) > (1048576 : Int))))
def F_laws_big : Nat → List (List PV) → Option (Bool)
  | 0, _ => none
  | n + 1, x0 => (T_laws_big n x0).run
theorem ft_laws_big (n : Nat) (x0 : List (List PV)) : funT (CT_laws_big n) (LT_laws_big n) K_laws_big (A_laws_big x0) (U_laws_big x0) = (T_laws_big n x0).bind fun r => .done (O_laws_big r) := by kernel_rfl
theorem ct_laws_big (n : Nat) : CTok (CT_laws_big n) (runs KP lib n) := mkCT_nil
theorem th_laws_big : ∀ (n : Nat) (x0 : List (List PV)) (r : Bool), F_laws_big n x0 = some r → runs KP lib n 13 (A_laws_big x0) (U_laws_big x0) = some (O_laws_big r)
  | 0, x0, r, h => by cases h
  | n + 1, x0, r, h => fun_step (kf := K_laws_big) rfl (ct_laws_big n) (noLoops rfl) (ft_laws_big n x0) h
def FH_laws_big (n : Nat) : Cont → Option (Bool)
  | ([[[.r x0]]], []) => F_laws_big n x0
  | _ => none
def E_laws_big (n : Nat) (d : List AV → List Go.Eng.Frame → Tr Res) : List AV → List Go.Eng.Frame → Tr Res := cent (A_laws_big ([])) (U_laws_big ([])) (FH_laws_big n) O_laws_big d
theorem eo_laws_big (n : Nat) {d : List AV → List Go.Eng.Frame → Tr Res} (hd : ∀ ar up r, (d ar up).run = some r → runs KP lib n 13 ar up = some r) : ∀ ar up r, (E_laws_big n d ar up).run = some r → runs KP lib n 13 ar up = some r :=
  cent_ok (fun hs r h => by
    unfold FH_laws_big at h
    split at h
    · exact ⟨A_laws_big _, U_laws_big _, rfl, rfl, th_laws_big n _ r h⟩
    · cases h) hd
/-! ### spec.l1Open -/
def A_spec_l1Open (x0 : List (List PV)) : List AV := [(.c (.p (.ls x0)))]
def U_spec_l1Open (x0 : List (List PV)) : List Go.Eng.Frame := []
def O_spec_l1Open (r : (List (List PV)) × Int) : Res := ⟨(.c (.ptr 0 0 0 0 0)), [], [⟨0, 2, 68, (.box [(.p (.ls r.1)), (.p (.i .i64 r.2))])⟩]⟩
abbrev CT_spec_l1Open (n : Nat) : CTab := mkCT []
abbrev LT_spec_l1Open (n : Nat) : LTab := mkLT []
def T_spec_l1Open (n : Nat) (x0 : List (List PV)) : Tr ((List (List PV)) × Int) := (.done (x0, (0 : Int)))
def F_spec_l1Open : Nat → List (List PV) → Option ((List (List PV)) × Int)
  | 0, _ => none
  | n + 1, x0 => (T_spec_l1Open n x0).run
theorem ft_spec_l1Open (n : Nat) (x0 : List (List PV)) : funT (CT_spec_l1Open n) (LT_spec_l1Open n) K_spec_l1Open (A_spec_l1Open x0) (U_spec_l1Open x0) = (T_spec_l1Open n x0).bind fun r => .done (O_spec_l1Open r) := by kernel_rfl
theorem ct_spec_l1Open (n : Nat) : CTok (CT_spec_l1Open n) (runs KP lib n) := mkCT_nil
theorem th_spec_l1Open : ∀ (n : Nat) (x0 : List (List PV)) (r : (List (List PV)) × Int), F_spec_l1Open n x0 = some r → runs KP lib n 40 (A_spec_l1Open x0) (U_spec_l1Open x0) = some (O_spec_l1Open r)
  | 0, x0, r, h => by cases h
  | n + 1, x0, r, h => fun_step (kf := K_spec_l1Open) rfl (ct_spec_l1Open n) (noLoops rfl) (ft_spec_l1Open n x0) h
def FH_spec_l1Open (n : Nat) : Cont → Option ((List (List PV)) × Int)
  | ([[[.r x0]]], []) => F_spec_l1Open n x0
  | _ => none
def E_spec_l1Open (n : Nat) (d : List AV → List Go.Eng.Frame → Tr Res) : List AV → List Go.Eng.Frame → Tr Res := cent (A_spec_l1Open ([])) (U_spec_l1Open ([])) (FH_spec_l1Open n) O_spec_l1Open d
theorem eo_spec_l1Open (n : Nat) {d : List AV → List Go.Eng.Frame → Tr Res} (hd : ∀ ar up r, (d ar up).run = some r → runs KP lib n 40 ar up = some r) : ∀ ar up r, (E_spec_l1Open n d ar up).run = some r → runs KP lib n 40 ar up = some r :=
  cent_ok (fun hs r h => by
    unfold FH_spec_l1Open at h
    split at h
    · exact ⟨A_spec_l1Open _, U_spec_l1Open _, rfl, rfl, th_spec_l1Open n _ r h⟩
    · cases h) hd
/-! ### (*spec.l1Rd).next -/
def A_spec_l1Rd_next (x0 : List (List PV)) (x1 : Int) : List AV := [(.c (.ptr 0 0 0 0 0))]
def U_spec_l1Rd_next (x0 : List (List PV)) (x1 : Int) : List Go.Eng.Frame := [[(0, ⟨0, 2, 68, (.box [(.p (.ls x0)), (.p (.i .i64 x1))])⟩)]]
def O_spec_l1Rd_next (r : Int × (List (List PV)) × Int) : Res := ⟨(.c (.p (.i .i64 r.1))), [[(0, ⟨0, 2, 68, (.box [(.p (.ls r.2.1)), (.p (.i .i64 r.2.2))])⟩)]], []⟩
abbrev CT_spec_l1Rd_next (n : Nat) : CTab := mkCT []
abbrev LT_spec_l1Rd_next (n : Nat) : LTab := mkLT []
def T_spec_l1Rd_next (n : Nat) (x0 : List (List PV)) (x1 : Int) : Tr (Int × (List (List PV)) × Int) := (.ask ((decide (x1 ≥ (x0.length : Int)))) (.done ((0 : Int), x0, x1)) (.ask (decide (0 ≤ (IntKind.i64.wrap ((IntKind.i64.wrap (x1 + (1 : Int))) - (1 : Int))) ∧ (IntKind.i64.wrap ((IntKind.i64.wrap (x1 + (1 : Int))) - (1 : Int))) < x0.length)) (.opt (x0[((IntKind.i64.wrap ((IntKind.i64.wrap (x1 + (1 : Int))) - (1 : Int)))).toNat]?) fun e3 => (.ask (decide (e3.length = 1)) (.opt (cellI .u8 e3 0) fun y4 => (.done ((IntKind.i64.wrap y4), x0, (IntKind.i64.wrap (x1 + (1 : Int)))))) .fail)) .fail))
def F_spec_l1Rd_next : Nat → List (List PV) → Int → Option (Int × (List (List PV)) × Int)
  | 0, _, _ => none
  | n + 1, x0, x1 => (T_spec_l1Rd_next n x0 x1).run
theorem ft_spec_l1Rd_next (n : Nat) (x0 : List (List PV)) (x1 : Int) : funT (CT_spec_l1Rd_next n) (LT_spec_l1Rd_next n) K_spec_l1Rd_next (A_spec_l1Rd_next x0 x1) (U_spec_l1Rd_next x0 x1) = (T_spec_l1Rd_next n x0 x1).bind fun r => .done (O_spec_l1Rd_next r) := by kernel_rfl
theorem ct_spec_l1Rd_next (n : Nat) : CTok (CT_spec_l1Rd_next n) (runs KP lib n) := mkCT_nil
theorem th_spec_l1Rd_next : ∀ (n : Nat) (x0 : List (List PV)) (x1 : Int) (r : Int × (List (List PV)) × Int), F_spec_l1Rd_next n x0 x1 = some r → runs KP lib n 55 (A_spec_l1Rd_next x0 x1) (U_spec_l1Rd_next x0 x1) = some (O_spec_l1Rd_next r)
  | 0, x0, x1, r, h => by cases h
  | n + 1, x0, x1, r, h => fun_step (kf := K_spec_l1Rd_next) rfl (ct_spec_l1Rd_next n) (noLoops rfl) (ft_spec_l1Rd_next n x0 x1) h
def FH_spec_l1Rd_next (n : Nat) : Cont → Option (Int × (List (List PV)) × Int)
  | ([[[]]], [[[[.r x0], [.i x1]]]]) => F_spec_l1Rd_next n x0 x1
  | _ => none
def E_spec_l1Rd_next (n : Nat) (d : List AV → List Go.Eng.Frame → Tr Res) : List AV → List Go.Eng.Frame → Tr Res := cent (A_spec_l1Rd_next ([]) (0)) (U_spec_l1Rd_next ([]) (0)) (FH_spec_l1Rd_next n) O_spec_l1Rd_next d
theorem eo_spec_l1Rd_next (n : Nat) {d : List AV → List Go.Eng.Frame → Tr Res} (hd : ∀ ar up r, (d ar up).run = some r → runs KP lib n 55 ar up = some r) : ∀ ar up r, (E_spec_l1Rd_next n d ar up).run = some r → runs KP lib n 55 ar up = some r :=
  cent_ok (fun hs r h => by
    unfold FH_spec_l1Rd_next at h
    split at h
    · exact ⟨A_spec_l1Rd_next _ _, U_spec_l1Rd_next _ _, rfl, rfl, th_spec_l1Rd_next n _ _ r h⟩
    · cases h) hd
/-! ### (*spec.l1Rd).below -/
def A_spec_l1Rd_below (x0 : Int) (x1 : List (List PV)) (x2 : Int) : List AV := [(.c (.ptr 0 0 0 0 0)), (.c (.p (.i .i64 x0)))]
def U_spec_l1Rd_below (x0 : Int) (x1 : List (List PV)) (x2 : Int) : List Go.Eng.Frame := [[(0, ⟨0, 2, 68, (.box [(.p (.ls x1)), (.p (.i .i64 x2))])⟩)]]
def O_spec_l1Rd_below (r : Int × (List (List PV)) × Int) : Res := ⟨(.c (.p (.i .i64 r.1))), [[(0, ⟨0, 2, 68, (.box [(.p (.ls r.2.1)), (.p (.i .i64 r.2.2))])⟩)]], []⟩
abbrev CT_spec_l1Rd_below (n : Nat) : CTab := mkCT [(55, E_spec_l1Rd_next n (noEnt))]
abbrev LT_spec_l1Rd_below (n : Nat) : LTab := mkLT []
def T_spec_l1Rd_below (n : Nat) (x0 : Int) (x1 : List (List PV)) (x2 : Int) : Tr (Int × (List (List PV)) × Int) := (.ask ((decide (x0 ≤ (1 : Int)))) (.done ((0 : Int), x1, x2)) (.ask ((decide (x0 ≤ (256 : Int)))) (.opt (F_spec_l1Rd_next n x1 x2) fun r5 => (.ask (decide (x0 = 0)) .fail (.done ((Int.tmod r5.1 x0), r5.2.1, r5.2.2)))) (.opt (F_spec_l1Rd_next n x1 x2) fun r6 => (.opt (F_spec_l1Rd_next n r6.2.1 r6.2.2) fun r7 => (.ask (decide (x0 = 0)) .fail (.done ((Int.tmod (IntKind.i64.wrap ((IntKind.i64.wrap (r6.1 * (256 : Int))) + r7.1)) x0), r7.2.1, r7.2.2)))))))
def F_spec_l1Rd_below : Nat → Int → List (List PV) → Int → Option (Int × (List (List PV)) × Int)
  | 0, _, _, _ => none
  | n + 1, x0, x1, x2 => (T_spec_l1Rd_below n x0 x1 x2).run
theorem ft_spec_l1Rd_below (n : Nat) (x0 : Int) (x1 : List (List PV)) (x2 : Int) : funT (CT_spec_l1Rd_below n) (LT_spec_l1Rd_below n) K_spec_l1Rd_below (A_spec_l1Rd_below x0 x1 x2) (U_spec_l1Rd_below x0 x1 x2) = (T_spec_l1Rd_below n x0 x1 x2).bind fun r => .done (O_spec_l1Rd_below r) := by kernel_rfl
theorem ct_spec_l1Rd_below (n : Nat) : CTok (CT_spec_l1Rd_below n) (runs KP lib n) := mkCT_cons (eo_spec_l1Rd_next n (noEnt_ok)) (mkCT_nil)
theorem th_spec_l1Rd_below : ∀ (n : Nat) (x0 : Int) (x1 : List (List PV)) (x2 : Int) (r : Int × (List (List PV)) × Int), F_spec_l1Rd_below n x0 x1 x2 = some r → runs KP lib n 47 (A_spec_l1Rd_below x0 x1 x2) (U_spec_l1Rd_below x0 x1 x2) = some (O_spec_l1Rd_below r)
  | 0, x0, x1, x2, r, h => by cases h
  | n + 1, x0, x1, x2, r, h => fun_step (kf := K_spec_l1Rd_below) rfl (ct_spec_l1Rd_below n) (noLoops rfl) (ft_spec_l1Rd_below n x0 x1 x2) h
def FH_spec_l1Rd_below (n : Nat) : Cont → Option (Int × (List (List PV)) × Int)
  | ([[[]], [[.i x0]]], [[[[.r x1], [.i x2]]]]) => F_spec_l1Rd_below n x0 x1 x2
  | _ => none
def E_spec_l1Rd_below (n : Nat) (d : List AV → List Go.Eng.Frame → Tr Res) : List AV → List Go.Eng.Frame → Tr Res := cent (A_spec_l1Rd_below (0) ([]) (0)) (U_spec_l1Rd_below (0) ([]) (0)) (FH_spec_l1Rd_below n) O_spec_l1Rd_below d
theorem eo_spec_l1Rd_below (n : Nat) {d : List AV → List Go.Eng.Frame → Tr Res} (hd : ∀ ar up r, (d ar up).run = some r → runs KP lib n 47 ar up = some r) : ∀ ar up r, (E_spec_l1Rd_below n d ar up).run = some r → runs KP lib n 47 ar up = some r :=
  cent_ok (fun hs r h => by
    unfold FH_spec_l1Rd_below at h
    split at h
    · exact ⟨A_spec_l1Rd_below _ _ _, U_spec_l1Rd_below _ _ _, rfl, rfl, th_spec_l1Rd_below n _ _ _ r h⟩
    · cases h) hd
/-! ### (*spec.l1Rd).once -/
def A_spec_l1Rd_once (x0 : Int) (x1 : List (List PV)) (x2 : Int) : List AV := [(.c (.ptr 0 0 0 0 0)), (.c (.p (.i .i64 x0)))]
def U_spec_l1Rd_once (x0 : Int) (x1 : List (List PV)) (x2 : Int) : List Go.Eng.Frame := [[(0, ⟨0, 2, 68, (.box [(.p (.ls x1)), (.p (.i .i64 x2))])⟩)]]
def O_spec_l1Rd_once (r : Bool × (List (List PV)) × Int) : Res := ⟨(.c (.p (.b r.1))), [[(0, ⟨0, 2, 68, (.box [(.p (.ls r.2.1)), (.p (.i .i64 r.2.2))])⟩)]], []⟩
abbrev CT_spec_l1Rd_once (n : Nat) : CTab := mkCT [(47, E_spec_l1Rd_below n (noEnt))]
abbrev LT_spec_l1Rd_once (n : Nat) : LTab := mkLT []
def T_spec_l1Rd_once (n : Nat) (x0 : Int) (x1 : List (List PV)) (x2 : Int) : Tr (Bool × (List (List PV)) × Int) := (.opt (F_spec_l1Rd_below n x0 x1 x2) fun r9 => (.done ((r9.1 == (IntKind.i64.wrap (x0 - (1 : Int)))), r9.2.1, r9.2.2)))
def F_spec_l1Rd_once : Nat → Int → List (List PV) → Int → Option (Bool × (List (List PV)) × Int)
  | 0, _, _, _ => none
  | n + 1, x0, x1, x2 => (T_spec_l1Rd_once n x0 x1 x2).run
theorem ft_spec_l1Rd_once (n : Nat) (x0 : Int) (x1 : List (List PV)) (x2 : Int) : funT (CT_spec_l1Rd_once n) (LT_spec_l1Rd_once n) K_spec_l1Rd_once (A_spec_l1Rd_once x0 x1 x2) (U_spec_l1Rd_once x0 x1 x2) = (T_spec_l1Rd_once n x0 x1 x2).bind fun r => .done (O_spec_l1Rd_once r) := by kernel_rfl
theorem ct_spec_l1Rd_once (n : Nat) : CTok (CT_spec_l1Rd_once n) (runs KP lib n) := mkCT_cons (eo_spec_l1Rd_below n (noEnt_ok)) (mkCT_nil)
theorem th_spec_l1Rd_once : ∀ (n : Nat) (x0 : Int) (x1 : List (List PV)) (x2 : Int) (r : Bool × (List (List PV)) × Int), F_spec_l1Rd_once n x0 x1 x2 = some r → runs KP lib n 46 (A_spec_l1Rd_once x0 x1 x2) (U_spec_l1Rd_once x0 x1 x2) = some (O_spec_l1Rd_once r)
  | 0, x0, x1, x2, r, h => by cases h
  | n + 1, x0, x1, x2, r, h => fun_step (kf := K_spec_l1Rd_once) rfl (ct_spec_l1Rd_once n) (noLoops rfl) (ft_spec_l1Rd_once n x0 x1 x2) h
def FH_spec_l1Rd_once (n : Nat) : Cont → Option (Bool × (List (List PV)) × Int)
  | ([[[]], [[.i x0]]], [[[[.r x1], [.i x2]]]]) => F_spec_l1Rd_once n x0 x1 x2
  | _ => none
def E_spec_l1Rd_once (n : Nat) (d : List AV → List Go.Eng.Frame → Tr Res) : List AV → List Go.Eng.Frame → Tr Res := cent (A_spec_l1Rd_once (0) ([]) (0)) (U_spec_l1Rd_once (0) ([]) (0)) (FH_spec_l1Rd_once n) O_spec_l1Rd_once d
theorem eo_spec_l1Rd_once (n : Nat) {d : List AV → List Go.Eng.Frame → Tr Res} (hd : ∀ ar up r, (d ar up).run = some r → runs KP lib n 46 ar up = some r) : ∀ ar up r, (E_spec_l1Rd_once n d ar up).run = some r → runs KP lib n 46 ar up = some r :=
  cent_ok (fun hs r h => by
    unfold FH_spec_l1Rd_once at h
    split at h
    · exact ⟨A_spec_l1Rd_once _ _ _, U_spec_l1Rd_once _ _ _, rfl, rfl, th_spec_l1Rd_once n _ _ _ r h⟩
    · cases h) hd
/-! ### (*spec.l1Rd).num -/
def A_spec_l1Rd_num (x0 : List (List PV)) (x1 : Int) : List AV := [(.c (.ptr 0 0 0 0 0))]
def U_spec_l1Rd_num (x0 : List (List PV)) (x1 : Int) : List Go.Eng.Frame := [[(0, ⟨0, 2, 68, (.box [(.p (.ls x0)), (.p (.i .i64 x1))])⟩)]]
def O_spec_l1Rd_num (r : Int × (List (List PV)) × Int) : Res := ⟨(.c (.p (.i .i64 r.1))), [[(0, ⟨0, 2, 68, (.box [(.p (.ls r.2.1)), (.p (.i .i64 r.2.2))])⟩)]], []⟩
abbrev CT_spec_l1Rd_num (n : Nat) : CTab := mkCT [(46, E_spec_l1Rd_once n (noEnt)), (47, E_spec_l1Rd_below n (noEnt))]
abbrev LT_spec_l1Rd_num (n : Nat) : LTab := mkLT []
def T_spec_l1Rd_num (n : Nat) (x0 : List (List PV)) (x1 : Int) : Tr (Int × (List (List PV)) × Int) := (.opt (F_spec_l1Rd_once n (5 : Int) x0 x1) fun r10 => (.ask (r10.1) (.opt (F_spec_l1Rd_below n (5 : Int) r10.2.1 r10.2.2) fun r11 => (.ask (decide (5 = ([[(.i .i64 (1000000000000000 : Int))], [(.i .i64 (-1000000000000000 : Int))], [(.i .i64 (999999999999999 : Int))], [(.i .i64 (31622776 : Int))], [(.i .i64 (-31622777 : Int))]] : List (List PV)).length ∧ 0 ≤ r11.1 ∧ r11.1 < ((5 : Nat) : Int))) (.opt (([[(.i .i64 (1000000000000000 : Int))], [(.i .i64 (-1000000000000000 : Int))], [(.i .i64 (999999999999999 : Int))], [(.i .i64 (31622776 : Int))], [(.i .i64 (-31622777 : Int))]] : List (List PV))[(r11.1).toNat]?) fun e12 => (.opt (cellI .i64 e12 0) fun y13 => (.done (y13, r11.2.1, r11.2.2)))) .fail)) (.opt (F_spec_l1Rd_below n (40 : Int) r10.2.1 r10.2.2) fun r14 => (.done ((IntKind.i64.wrap (r14.1 - (20 : Int))), r14.2.1, r14.2.2)))))
def F_spec_l1Rd_num : Nat → List (List PV) → Int → Option (Int × (List (List PV)) × Int)
  | 0, _, _ => none
  | n + 1, x0, x1 => (T_spec_l1Rd_num n x0 x1).run
theorem ft_spec_l1Rd_num (n : Nat) (x0 : List (List PV)) (x1 : Int) : funT (CT_spec_l1Rd_num n) (LT_spec_l1Rd_num n) K_spec_l1Rd_num (A_spec_l1Rd_num x0 x1) (U_spec_l1Rd_num x0 x1) = (T_spec_l1Rd_num n x0 x1).bind fun r => .done (O_spec_l1Rd_num r) := by kernel_rfl
theorem ct_spec_l1Rd_num (n : Nat) : CTok (CT_spec_l1Rd_num n) (runs KP lib n) := mkCT_cons (eo_spec_l1Rd_once n (noEnt_ok)) (mkCT_cons (eo_spec_l1Rd_below n (noEnt_ok)) (mkCT_nil))
theorem th_spec_l1Rd_num : ∀ (n : Nat) (x0 : List (List PV)) (x1 : Int) (r : Int × (List (List PV)) × Int), F_spec_l1Rd_num n x0 x1 = some r → runs KP lib n 53 (A_spec_l1Rd_num x0 x1) (U_spec_l1Rd_num x0 x1) = some (O_spec_l1Rd_num r)
  | 0, x0, x1, r, h => by cases h
  | n + 1, x0, x1, r, h => fun_step (kf := K_spec_l1Rd_num) rfl (ct_spec_l1Rd_num n) (noLoops rfl) (ft_spec_l1Rd_num n x0 x1) h
def FH_spec_l1Rd_num (n : Nat) : Cont → Option (Int × (List (List PV)) × Int)
  | ([[[]]], [[[[.r x0], [.i x1]]]]) => F_spec_l1Rd_num n x0 x1
  | _ => none
def E_spec_l1Rd_num (n : Nat) (d : List AV → List Go.Eng.Frame → Tr Res) : List AV → List Go.Eng.Frame → Tr Res := cent (A_spec_l1Rd_num ([]) (0)) (U_spec_l1Rd_num ([]) (0)) (FH_spec_l1Rd_num n) O_spec_l1Rd_num d
theorem eo_spec_l1Rd_num (n : Nat) {d : List AV → List Go.Eng.Frame → Tr Res} (hd : ∀ ar up r, (d ar up).run = some r → runs KP lib n 53 ar up = some r) : ∀ ar up r, (E_spec_l1Rd_num n d ar up).run = some r → runs KP lib n 53 ar up = some r :=
  cent_ok (fun hs r h => by
    unfold FH_spec_l1Rd_num at h
    split at h
    · exact ⟨A_spec_l1Rd_num _ _, U_spec_l1Rd_num _ _, rfl, rfl, th_spec_l1Rd_num n _ _ r h⟩
    · cases h) hd
/-! ### (*spec.l1Rd).word -/
def A_spec_l1Rd_word (x0 : List (List PV)) (x1 : Int) : List AV := [(.c (.ptr 0 0 0 0 0))]
def U_spec_l1Rd_word (x0 : List (List PV)) (x1 : Int) : List Go.Eng.Frame := [[(0, ⟨0, 2, 68, (.box [(.p (.ls x0)), (.p (.i .i64 x1))])⟩)]]
def O_spec_l1Rd_word (r : Int × (List (List PV)) × Int) : Res := ⟨(.c (.p (.i .u64 r.1))), [[(0, ⟨0, 2, 68, (.box [(.p (.ls r.2.1)), (.p (.i .i64 r.2.2))])⟩)]], []⟩
abbrev CT_spec_l1Rd_word (n : Nat) : CTab := mkCT [(55, E_spec_l1Rd_next n (noEnt))]
def S_spec_l1Rd_word_29 (v : Int × Int × (List (List PV)) × Int) : St := ⟨[(0, (.c (.ptr 0 0 0 0 0))), (3, (.c (.p (.i .u64 v.1)))), (4, (.c (.p (.i .i64 v.2.1))))], [], [[(0, ⟨0, 2, 68, (.box [(.p (.ls v.2.2.1)), (.p (.i .i64 v.2.2.2))])⟩)]]⟩
def B_spec_l1Rd_word_29 (n : Nat) (v : Int × Int × (List (List PV)) × Int) : Tr ((Int × Int × (List (List PV)) × Int) ⊕ ((Int × (List (List PV)) × Int))) := (.ask ((decide (v.2.1 < (8 : Int)))) (.opt (F_spec_l1Rd_next n v.2.2.1 v.2.2.2) fun r29 => (.done (.inl ((IntKind.u64.wrap ((BitVec.ofInt IntKind.u64.bits (IntKind.u64.wrap (v.1 * (2 : Int) ^ (8 : Nat))) ||| BitVec.ofInt IntKind.u64.bits (IntKind.u64.wrap r29.1)).toNat : Int)), (IntKind.i64.wrap (v.2.1 + (1 : Int))), r29.2.1, r29.2.2)))) (.done (.inr ((v.1, v.2.2.1, v.2.2.2)))))
def D_spec_l1Rd_word_29 : (Int × (List (List PV)) × Int) → Ex × St := fun r => ((.exit 0), ⟨[(3, (.c (.p (.i .u64 r.1))))], [], [[(0, ⟨0, 2, 68, (.box [(.p (.ls r.2.1)), (.p (.i .i64 r.2.2))])⟩)]]⟩)
def DT_spec_l1Rd_word_29 : (Int × (List (List PV)) × Int) → Tr (Ex × St) := fun r => .done ((.exit 0), ⟨[(3, (.c (.p (.i .u64 r.1))))], [], [[(0, ⟨0, 2, 68, (.box [(.p (.ls r.2.1)), (.p (.i .i64 r.2.2))])⟩)]]⟩)
def VH_spec_l1Rd_word_29 : Cont3 → Option (Int × Int × (List (List PV)) × Int)
  | ([[[]], [[.i w0]], [[.i w1]]], [], [[[[.r w2], [.i w3]]]]) => some (w0, w1, w2, w3)
  | _ => none
abbrev LE_spec_l1Rd_word_29 (n : Nat) : St → Tr (Ex × St) := lent (S_spec_l1Rd_word_29 (0, 0, [], 0)) VH_spec_l1Rd_word_29 (B_spec_l1Rd_word_29 n) DT_spec_l1Rd_word_29 n
abbrev LT_spec_l1Rd_word (n : Nat) : LTab := mkLT [(29, LE_spec_l1Rd_word_29 n)]
def T_spec_l1Rd_word (n : Nat) (x0 : List (List PV)) (x1 : Int) : Tr (Int × (List (List PV)) × Int) := (.opt (loopF (B_spec_l1Rd_word_29 n) n ((0 : Int), (0 : Int), x0, x1)) fun r30 => (.done (r30.1, r30.2.1, r30.2.2)))
def F_spec_l1Rd_word : Nat → List (List PV) → Int → Option (Int × (List (List PV)) × Int)
  | 0, _, _ => none
  | n + 1, x0, x1 => (T_spec_l1Rd_word n x0 x1).run
theorem ft_spec_l1Rd_word (n : Nat) (x0 : List (List PV)) (x1 : Int) : funT (CT_spec_l1Rd_word n) (LT_spec_l1Rd_word n) K_spec_l1Rd_word (A_spec_l1Rd_word x0 x1) (U_spec_l1Rd_word x0 x1) = (T_spec_l1Rd_word n x0 x1).bind fun r => .done (O_spec_l1Rd_word r) := by kernel_rfl
theorem ct_spec_l1Rd_word (n : Nat) : CTok (CT_spec_l1Rd_word n) (runs KP lib n) := mkCT_cons (eo_spec_l1Rd_next n (noEnt_ok)) (mkCT_nil)
theorem lt_spec_l1Rd_word_29 (n : Nat) (v : Int × Int × (List (List PV)) × Int) : (evalCT (CT_spec_l1Rd_word n) (mkLT []) K_spec_l1Rd_word_L29 (S_spec_l1Rd_word_29 v) []).bind (ltail [0, 3, 4] [(.ret, [2]), ((.exit 0), [3])]) = (B_spec_l1Rd_word_29 n v).bind (lenc S_spec_l1Rd_word_29 D_spec_l1Rd_word_29) := by
  obtain ⟨w0, w1, w2, w3⟩ := v
  kernel_rfl
theorem le_spec_l1Rd_word_29 (n : Nat) : LEok (runs KP lib n) n (29, [0, 3, 4], [(.ret, [2]), ((.exit 0), [3])], K_spec_l1Rd_word_L29) (LE_spec_l1Rd_word_29 n) := fun st e s h =>
  lent_ok (ct_spec_l1Rd_word n) (noLoops rfl) (lt_spec_l1Rd_word_29 n) (fun r h => by cases h) (fun r y h => by cases h; rfl) (fun hs v h => by
    unfold VH_spec_l1Rd_word_29 at h
    split at h <;> cases h
    rfl) h
theorem lo_spec_l1Rd_word (n : Nat) : LTok (LT_spec_l1Rd_word n) (runs KP lib n) n K_spec_l1Rd_word.body := mkLT_ok (by
  intro x hx
  have hx : x ∈ ([(29, [0, 3, 4], [(.ret, [2]), ((.exit 0), [3])], K_spec_l1Rd_word_L29)] : List (Nat × List Nat × List (Ex × List Nat) × KCode)) := hx
  simp only [List.mem_cons, List.not_mem_nil, or_false] at hx
  rcases hx with rfl
  · exact ⟨LE_spec_l1Rd_word_29 n, fun st => rfl, le_spec_l1Rd_word_29 n⟩)
theorem th_spec_l1Rd_word : ∀ (n : Nat) (x0 : List (List PV)) (x1 : Int) (r : Int × (List (List PV)) × Int), F_spec_l1Rd_word n x0 x1 = some r → runs KP lib n 69 (A_spec_l1Rd_word x0 x1) (U_spec_l1Rd_word x0 x1) = some (O_spec_l1Rd_word r)
  | 0, x0, x1, r, h => by cases h
  | n + 1, x0, x1, r, h => fun_step (kf := K_spec_l1Rd_word) rfl (ct_spec_l1Rd_word n) (lo_spec_l1Rd_word n) (ft_spec_l1Rd_word n x0 x1) h
def FH_spec_l1Rd_word (n : Nat) : Cont → Option (Int × (List (List PV)) × Int)
  | ([[[]]], [[[[.r x0], [.i x1]]]]) => F_spec_l1Rd_word n x0 x1
  | _ => none
def E_spec_l1Rd_word (n : Nat) (d : List AV → List Go.Eng.Frame → Tr Res) : List AV → List Go.Eng.Frame → Tr Res := cent (A_spec_l1Rd_word ([]) (0)) (U_spec_l1Rd_word ([]) (0)) (FH_spec_l1Rd_word n) O_spec_l1Rd_word d
theorem eo_spec_l1Rd_word (n : Nat) {d : List AV → List Go.Eng.Frame → Tr Res} (hd : ∀ ar up r, (d ar up).run = some r → runs KP lib n 69 ar up = some r) : ∀ ar up r, (E_spec_l1Rd_word n d ar up).run = some r → runs KP lib n 69 ar up = some r :=
  cent_ok (fun hs r h => by
    unfold FH_spec_l1Rd_word at h
    split at h
    · exact ⟨A_spec_l1Rd_word _ _, U_spec_l1Rd_word _ _, rfl, rfl, th_spec_l1Rd_word n _ _ r h⟩
    · cases h) hd
/-! ### (*spec.l1Rd).near -/
def A_spec_l1Rd_near (x0 : Int) (x1 : Int) (x2 : List (List PV)) (x3 : Int) : List AV := [(.c (.ptr 0 0 0 0 0)), (.c (.p (.i .i64 x0))), (.c (.p (.i .i64 x1)))]
def U_spec_l1Rd_near (x0 : Int) (x1 : Int) (x2 : List (List PV)) (x3 : Int) : List Go.Eng.Frame := [[(0, ⟨0, 2, 68, (.box [(.p (.ls x2)), (.p (.i .i64 x3))])⟩)]]
def O_spec_l1Rd_near (r : Int × (List (List PV)) × Int) : Res := ⟨(.c (.p (.i .i64 r.1))), [[(0, ⟨0, 2, 68, (.box [(.p (.ls r.2.1)), (.p (.i .i64 r.2.2))])⟩)]], []⟩
abbrev CT_spec_l1Rd_near (n : Nat) : CTab := mkCT [(47, E_spec_l1Rd_below n (noEnt)), (69, E_spec_l1Rd_word n (noEnt))]
abbrev LT_spec_l1Rd_near (n : Nat) : LTab := mkLT []
def T_spec_l1Rd_near (n : Nat) (x0 : Int) (x1 : Int) (x2 : List (List PV)) (x3 : Int) : Tr (Int × (List (List PV)) × Int) := (.opt (F_spec_l1Rd_below n (8 : Int) x2 x3) fun r28 => (.ask ((r28.1 == (0 : Int))) (.done (x0, r28.2.1, r28.2.2)) (.ask ((r28.1 == (1 : Int))) (.done (x1, r28.2.1, r28.2.2)) (.ask ((decide (x1 < x0))) (.done (x0, r28.2.1, r28.2.2)) (.opt (F_spec_l1Rd_word n r28.2.1 r28.2.2) fun r31 => (.ask (decide ((IntKind.u64.wrap (IntKind.i64.wrap ((IntKind.i64.wrap (x1 - x0)) + (1 : Int)))) = 0)) .fail (.done ((IntKind.i64.wrap (x0 + (IntKind.i64.wrap (Int.tmod (Int.fdiv r31.1 ((2 : Int) ^ (1 : Nat))) (IntKind.u64.wrap (IntKind.i64.wrap ((IntKind.i64.wrap (x1 - x0)) + (1 : Int)))))))), r31.2.1, r31.2.2))))))))
def F_spec_l1Rd_near : Nat → Int → Int → List (List PV) → Int → Option (Int × (List (List PV)) × Int)
  | 0, _, _, _, _ => none
  | n + 1, x0, x1, x2, x3 => (T_spec_l1Rd_near n x0 x1 x2 x3).run
theorem ft_spec_l1Rd_near (n : Nat) (x0 : Int) (x1 : Int) (x2 : List (List PV)) (x3 : Int) : funT (CT_spec_l1Rd_near n) (LT_spec_l1Rd_near n) K_spec_l1Rd_near (A_spec_l1Rd_near x0 x1 x2 x3) (U_spec_l1Rd_near x0 x1 x2 x3) = (T_spec_l1Rd_near n x0 x1 x2 x3).bind fun r => .done (O_spec_l1Rd_near r) := by kernel_rfl
theorem ct_spec_l1Rd_near (n : Nat) : CTok (CT_spec_l1Rd_near n) (runs KP lib n) := mkCT_cons (eo_spec_l1Rd_below n (noEnt_ok)) (mkCT_cons (eo_spec_l1Rd_word n (noEnt_ok)) (mkCT_nil))
theorem th_spec_l1Rd_near : ∀ (n : Nat) (x0 : Int) (x1 : Int) (x2 : List (List PV)) (x3 : Int) (r : Int × (List (List PV)) × Int), F_spec_l1Rd_near n x0 x1 x2 x3 = some r → runs KP lib n 62 (A_spec_l1Rd_near x0 x1 x2 x3) (U_spec_l1Rd_near x0 x1 x2 x3) = some (O_spec_l1Rd_near r)
  | 0, x0, x1, x2, x3, r, h => by cases h
  | n + 1, x0, x1, x2, x3, r, h => fun_step (kf := K_spec_l1Rd_near) rfl (ct_spec_l1Rd_near n) (noLoops rfl) (ft_spec_l1Rd_near n x0 x1 x2 x3) h
def FH_spec_l1Rd_near (n : Nat) : Cont → Option (Int × (List (List PV)) × Int)
  | ([[[]], [[.i x0]], [[.i x1]]], [[[[.r x2], [.i x3]]]]) => F_spec_l1Rd_near n x0 x1 x2 x3
  | _ => none
def E_spec_l1Rd_near (n : Nat) (d : List AV → List Go.Eng.Frame → Tr Res) : List AV → List Go.Eng.Frame → Tr Res := cent (A_spec_l1Rd_near (0) (0) ([]) (0)) (U_spec_l1Rd_near (0) (0) ([]) (0)) (FH_spec_l1Rd_near n) O_spec_l1Rd_near d
theorem eo_spec_l1Rd_near (n : Nat) {d : List AV → List Go.Eng.Frame → Tr Res} (hd : ∀ ar up r, (d ar up).run = some r → runs KP lib n 62 ar up = some r) : ∀ ar up r, (E_spec_l1Rd_near n d ar up).run = some r → runs KP lib n 62 ar up = some r :=
  cent_ok (fun hs r h => by
    unfold FH_spec_l1Rd_near at h
    split at h
    · exact ⟨A_spec_l1Rd_near _ _ _ _, U_spec_l1Rd_near _ _ _ _, rfl, rfl, th_spec_l1Rd_near n _ _ _ _ r h⟩
    · cases h) hd
/-! ### (*spec.l1Rd).off -/
def A_spec_l1Rd_off (x0 : Int) (x1 : Int) (x2 : List (List PV)) (x3 : Int) : List AV := [(.c (.ptr 0 0 0 0 0)), (.c (.p (.i .i64 x0))), (.c (.p (.i .i64 x1)))]
def U_spec_l1Rd_off (x0 : Int) (x1 : Int) (x2 : List (List PV)) (x3 : Int) : List Go.Eng.Frame := [[(0, ⟨0, 2, 68, (.box [(.p (.ls x2)), (.p (.i .i64 x3))])⟩)]]
def O_spec_l1Rd_off (r : Int × (List (List PV)) × Int) : Res := ⟨(.c (.p (.i .i64 r.1))), [[(0, ⟨0, 2, 68, (.box [(.p (.ls r.2.1)), (.p (.i .i64 r.2.2))])⟩)]], []⟩
abbrev CT_spec_l1Rd_off (n : Nat) : CTab := mkCT [(46, E_spec_l1Rd_once n (noEnt)), (47, E_spec_l1Rd_below n (noEnt)), (62, E_spec_l1Rd_near n (noEnt))]
abbrev LT_spec_l1Rd_off (n : Nat) : LTab := mkLT []
def T_spec_l1Rd_off (n : Nat) (x0 : Int) (x1 : Int) (x2 : List (List PV)) (x3 : Int) : Tr (Int × (List (List PV)) × Int) := (.opt (F_spec_l1Rd_once n (24 : Int) x2 x3) fun r24 => (.ask (r24.1) (.opt (F_spec_l1Rd_below n (4 : Int) r24.2.1 r24.2.2) fun r25 => (.ask (decide (4 = ([[(.i .i64 (IntKind.i64.wrap (x0 - (1 : Int))))], [(.i .i64 (IntKind.i64.wrap (x1 + (1 : Int))))], [(.i .i64 (-9223372036854775808 : Int))], [(.i .i64 (9223372036854775807 : Int))]] : List (List PV)).length ∧ 0 ≤ r25.1 ∧ r25.1 < ((4 : Nat) : Int))) (.opt (([[(.i .i64 (IntKind.i64.wrap (x0 - (1 : Int))))], [(.i .i64 (IntKind.i64.wrap (x1 + (1 : Int))))], [(.i .i64 (-9223372036854775808 : Int))], [(.i .i64 (9223372036854775807 : Int))]] : List (List PV))[(r25.1).toNat]?) fun e26 => (.opt (cellI .i64 e26 0) fun y27 => (.done (y27, r25.2.1, r25.2.2)))) .fail)) (.opt (F_spec_l1Rd_near n x0 x1 r24.2.1 r24.2.2) fun r32 => (.done (r32.1, r32.2.1, r32.2.2)))))
def F_spec_l1Rd_off : Nat → Int → Int → List (List PV) → Int → Option (Int × (List (List PV)) × Int)
  | 0, _, _, _, _ => none
  | n + 1, x0, x1, x2, x3 => (T_spec_l1Rd_off n x0 x1 x2 x3).run
theorem ft_spec_l1Rd_off (n : Nat) (x0 : Int) (x1 : Int) (x2 : List (List PV)) (x3 : Int) : funT (CT_spec_l1Rd_off n) (LT_spec_l1Rd_off n) K_spec_l1Rd_off (A_spec_l1Rd_off x0 x1 x2 x3) (U_spec_l1Rd_off x0 x1 x2 x3) = (T_spec_l1Rd_off n x0 x1 x2 x3).bind fun r => .done (O_spec_l1Rd_off r) := by kernel_rfl
theorem ct_spec_l1Rd_off (n : Nat) : CTok (CT_spec_l1Rd_off n) (runs KP lib n) := mkCT_cons (eo_spec_l1Rd_once n (noEnt_ok)) (mkCT_cons (eo_spec_l1Rd_below n (noEnt_ok)) (mkCT_cons (eo_spec_l1Rd_near n (noEnt_ok)) (mkCT_nil)))
theorem th_spec_l1Rd_off : ∀ (n : Nat) (x0 : Int) (x1 : Int) (x2 : List (List PV)) (x3 : Int) (r : Int × (List (List PV)) × Int), F_spec_l1Rd_off n x0 x1 x2 x3 = some r → runs KP lib n 54 (A_spec_l1Rd_off x0 x1 x2 x3) (U_spec_l1Rd_off x0 x1 x2 x3) = some (O_spec_l1Rd_off r)
  | 0, x0, x1, x2, x3, r, h => by cases h
  | n + 1, x0, x1, x2, x3, r, h => fun_step (kf := K_spec_l1Rd_off) rfl (ct_spec_l1Rd_off n) (noLoops rfl) (ft_spec_l1Rd_off n x0 x1 x2 x3) h
def FH_spec_l1Rd_off (n : Nat) : Cont → Option (Int × (List (List PV)) × Int)
  | ([[[]], [[.i x0]], [[.i x1]]], [[[[.r x2], [.i x3]]]]) => F_spec_l1Rd_off n x0 x1 x2 x3
  | _ => none
def E_spec_l1Rd_off (n : Nat) (d : List AV → List Go.Eng.Frame → Tr Res) : List AV → List Go.Eng.Frame → Tr Res := cent (A_spec_l1Rd_off (0) (0) ([]) (0)) (U_spec_l1Rd_off (0) (0) ([]) (0)) (FH_spec_l1Rd_off n) O_spec_l1Rd_off d
theorem eo_spec_l1Rd_off (n : Nat) {d : List AV → List Go.Eng.Frame → Tr Res} (hd : ∀ ar up r, (d ar up).run = some r → runs KP lib n 54 ar up = some r) : ∀ ar up r, (E_spec_l1Rd_off n d ar up).run = some r → runs KP lib n 54 ar up = some r :=
  cent_ok (fun hs r h => by
    unfold FH_spec_l1Rd_off at h
    split at h
    · exact ⟨A_spec_l1Rd_off _ _ _ _, U_spec_l1Rd_off _ _ _ _, rfl, rfl, th_spec_l1Rd_off n _ _ _ _ r h⟩
    · cases h) hd
/-! ### (*spec.l1Rd).value -/
def A_spec_l1Rd_value (x0 : List (List PV)) (x1 : Int) : List AV := [(.c (.ptr 0 0 0 0 0))]
def U_spec_l1Rd_value (x0 : List (List PV)) (x1 : Int) : List Go.Eng.Frame := [[(0, ⟨0, 2, 68, (.box [(.p (.ls x0)), (.p (.i .i64 x1))])⟩)]]
def O_spec_l1Rd_value (r : Int × Int × ByteArray × (List (List PV)) × Int) : Res := ⟨(.agg [(.p (.i .i64 r.1)), (.p (.i .i64 r.2.1)), (.p (.s r.2.2.1))]), [[(0, ⟨0, 2, 68, (.box [(.p (.ls r.2.2.2.1)), (.p (.i .i64 r.2.2.2.2))])⟩)]], []⟩
abbrev CT_spec_l1Rd_value (n : Nat) : CTab := mkCT [(47, E_spec_l1Rd_below n (noEnt)), (53, E_spec_l1Rd_num n (noEnt)), (46, E_spec_l1Rd_once n (noEnt)), (54, E_spec_l1Rd_off n (noEnt))]
abbrev LT_spec_l1Rd_value (n : Nat) : LTab := mkLT []
def T_spec_l1Rd_value (n : Nat) (x0 : List (List PV)) (x1 : Int) : Tr (Int × Int × ByteArray × (List (List PV)) × Int) := (.opt (F_spec_l1Rd_below n (8 : Int) x0 x1) fun r8 => (.ask ((r8.1 == (0 : Int))) (.done ((0 : Int), (0 : Int), (⟨#[]⟩ : ByteArray), r8.2.1, r8.2.2)) (.ask ((r8.1 == (1 : Int))) (.opt (F_spec_l1Rd_num n r8.2.1 r8.2.2) fun r15 => (.done ((1 : Int), r15.1, (⟨#[]⟩ : ByteArray), r15.2.1, r15.2.2))) (.ask ((r8.1 == (2 : Int))) (.opt (F_spec_l1Rd_num n r8.2.1 r8.2.2) fun r16 => (.done ((1 : Int), r16.1, (⟨#[]⟩ : ByteArray), r16.2.1, r16.2.2))) (.ask ((r8.1 == (3 : Int))) (.opt (F_spec_l1Rd_num n r8.2.1 r8.2.2) fun r17 => (.done ((1 : Int), r17.1, (⟨#[]⟩ : ByteArray), r17.2.1, r17.2.2))) (.ask ((r8.1 == (4 : Int))) (.opt (F_spec_l1Rd_below n (6 : Int) r8.2.1 r8.2.2) fun r18 => (.ask (decide (6 = ([[(.s (⟨#[]⟩ : ByteArray))], [(.s (⟨#[97]⟩ : ByteArray))], [(.s (⟨#[97, 98]⟩ : ByteArray))], [(.s (⟨#[49]⟩ : ByteArray))], [(.s (⟨#[39]⟩ : ByteArray))], [(.s (⟨#[34, 113, 34]⟩ : ByteArray))]] : List (List PV)).length ∧ 0 ≤ r18.1 ∧ r18.1 < ((6 : Nat) : Int))) (.opt (([[(.s (⟨#[]⟩ : ByteArray))], [(.s (⟨#[97]⟩ : ByteArray))], [(.s (⟨#[97, 98]⟩ : ByteArray))], [(.s (⟨#[49]⟩ : ByteArray))], [(.s (⟨#[39]⟩ : ByteArray))], [(.s (⟨#[34, 113, 34]⟩ : ByteArray))]] : List (List PV))[(r18.1).toNat]?) fun e19 => (.opt (cellS e19 0) fun y20 => (.done ((2 : Int), (0 : Int), y20, r18.2.1, r18.2.2)))) .fail)) (.ask ((r8.1 == (5 : Int))) (.opt (F_spec_l1Rd_below n (2 : Int) r8.2.1 r8.2.2) fun r21 => (.done ((3 : Int), r21.1, (⟨#[]⟩ : ByteArray), r21.2.1, r21.2.2))) (.ask ((r8.1 == (6 : Int))) (.opt (F_spec_l1Rd_below n (5 : Int) r8.2.1 r8.2.2) fun r22 => (.done ((4 : Int), (IntKind.i64.wrap ((1 : Int) + r22.1)), (⟨#[]⟩ : ByteArray), r22.2.1, r22.2.2))) (.opt (F_spec_l1Rd_once n (4 : Int) r8.2.1 r8.2.2) fun r23 => (.ask (r23.1) (.opt (F_spec_l1Rd_off n (0 : Int) (4 : Int) r23.2.1 r23.2.2) fun r33 => (.opt (F_spec_l1Rd_off n (0 : Int) (5 : Int) r33.2.1 r33.2.2) fun r34 => (.done (r33.1, r34.1, (⟨#[]⟩ : ByteArray), r34.2.1, r34.2.2)))) (.opt (F_spec_l1Rd_below n (5 : Int) r23.2.1 r23.2.2) fun r35 => (.done ((1 : Int), r35.1, (⟨#[]⟩ : ByteArray), r35.2.1, r35.2.2)))))))))))))
def F_spec_l1Rd_value : Nat → List (List PV) → Int → Option (Int × Int × ByteArray × (List (List PV)) × Int)
  | 0, _, _ => none
  | n + 1, x0, x1 => (T_spec_l1Rd_value n x0 x1).run
theorem ft_spec_l1Rd_value (n : Nat) (x0 : List (List PV)) (x1 : Int) : funT (CT_spec_l1Rd_value n) (LT_spec_l1Rd_value n) K_spec_l1Rd_value (A_spec_l1Rd_value x0 x1) (U_spec_l1Rd_value x0 x1) = (T_spec_l1Rd_value n x0 x1).bind fun r => .done (O_spec_l1Rd_value r) := by kernel_rfl
theorem ct_spec_l1Rd_value (n : Nat) : CTok (CT_spec_l1Rd_value n) (runs KP lib n) := mkCT_cons (eo_spec_l1Rd_below n (noEnt_ok)) (mkCT_cons (eo_spec_l1Rd_num n (noEnt_ok)) (mkCT_cons (eo_spec_l1Rd_once n (noEnt_ok)) (mkCT_cons (eo_spec_l1Rd_off n (noEnt_ok)) (mkCT_nil))))
theorem th_spec_l1Rd_value : ∀ (n : Nat) (x0 : List (List PV)) (x1 : Int) (r : Int × Int × ByteArray × (List (List PV)) × Int), F_spec_l1Rd_value n x0 x1 = some r → runs KP lib n 41 (A_spec_l1Rd_value x0 x1) (U_spec_l1Rd_value x0 x1) = some (O_spec_l1Rd_value r)
  | 0, x0, x1, r, h => by cases h
  | n + 1, x0, x1, r, h => fun_step (kf := K_spec_l1Rd_value) rfl (ct_spec_l1Rd_value n) (noLoops rfl) (ft_spec_l1Rd_value n x0 x1) h
def FH_spec_l1Rd_value (n : Nat) : Cont → Option (Int × Int × ByteArray × (List (List PV)) × Int)
  | ([[[]]], [[[[.r x0], [.i x1]]]]) => F_spec_l1Rd_value n x0 x1
  | _ => none
def E_spec_l1Rd_value (n : Nat) (d : List AV → List Go.Eng.Frame → Tr Res) : List AV → List Go.Eng.Frame → Tr Res := cent (A_spec_l1Rd_value ([]) (0)) (U_spec_l1Rd_value ([]) (0)) (FH_spec_l1Rd_value n) O_spec_l1Rd_value d
theorem eo_spec_l1Rd_value (n : Nat) {d : List AV → List Go.Eng.Frame → Tr Res} (hd : ∀ ar up r, (d ar up).run = some r → runs KP lib n 41 ar up = some r) : ∀ ar up r, (E_spec_l1Rd_value n d ar up).run = some r → runs KP lib n 41 ar up = some r :=
  cent_ok (fun hs r h => by
    unfold FH_spec_l1Rd_value at h
    split at h
    · exact ⟨A_spec_l1Rd_value _ _, U_spec_l1Rd_value _ _, rfl, rfl, th_spec_l1Rd_value n _ _ r h⟩
    · cases h) hd
/-! ### spec.DrawValueText -/
def A_spec_DrawValueText (x0 : List (List PV)) : List AV := [(.c (.p (.ls x0)))]
def U_spec_DrawValueText (x0 : List (List PV)) : List Go.Eng.Frame := []
def O_spec_DrawValueText (r : Int × Int × ByteArray) : Res := ⟨(.agg [(.p (.i .i64 r.1)), (.p (.i .i64 r.2.1)), (.p (.s r.2.2))]), [], []⟩
abbrev CT_spec_DrawValueText (n : Nat) : CTab := mkCT [(40, E_spec_l1Open n (noEnt)), (41, E_spec_l1Rd_value n (noEnt))]
abbrev LT_spec_DrawValueText (n : Nat) : LTab := mkLT []
def T_spec_DrawValueText (n : Nat) (x0 : List (List PV)) : Tr (Int × Int × ByteArray) := (.opt (F_spec_l1Open n x0) fun r2 => (.opt (F_spec_l1Rd_value n r2.1 r2.2) fun r36 => (.done (r36.1, r36.2.1, r36.2.2.1))))
def F_spec_DrawValueText : Nat → List (List PV) → Option (Int × Int × ByteArray)
  | 0, _ => none
  | n + 1, x0 => (T_spec_DrawValueText n x0).run
theorem ft_spec_DrawValueText (n : Nat) (x0 : List (List PV)) : funT (CT_spec_DrawValueText n) (LT_spec_DrawValueText n) K_spec_DrawValueText (A_spec_DrawValueText x0) (U_spec_DrawValueText x0) = (T_spec_DrawValueText n x0).bind fun r => .done (O_spec_DrawValueText r) := by kernel_rfl
theorem ct_spec_DrawValueText (n : Nat) : CTok (CT_spec_DrawValueText n) (runs KP lib n) := mkCT_cons (eo_spec_l1Open n (noEnt_ok)) (mkCT_cons (eo_spec_l1Rd_value n (noEnt_ok)) (mkCT_nil))
theorem th_spec_DrawValueText : ∀ (n : Nat) (x0 : List (List PV)) (r : Int × Int × ByteArray), F_spec_DrawValueText n x0 = some r → runs KP lib n 19 (A_spec_DrawValueText x0) (U_spec_DrawValueText x0) = some (O_spec_DrawValueText r)
  | 0, x0, r, h => by cases h
  | n + 1, x0, r, h => fun_step (kf := K_spec_DrawValueText) rfl (ct_spec_DrawValueText n) (noLoops rfl) (ft_spec_DrawValueText n x0) h
def FH_spec_DrawValueText (n : Nat) : Cont → Option (Int × Int × ByteArray)
  | ([[[.r x0]]], []) => F_spec_DrawValueText n x0
  | _ => none
def E_spec_DrawValueText (n : Nat) (d : List AV → List Go.Eng.Frame → Tr Res) : List AV → List Go.Eng.Frame → Tr Res := cent (A_spec_DrawValueText ([])) (U_spec_DrawValueText ([])) (FH_spec_DrawValueText n) O_spec_DrawValueText d
theorem eo_spec_DrawValueText (n : Nat) {d : List AV → List Go.Eng.Frame → Tr Res} (hd : ∀ ar up r, (d ar up).run = some r → runs KP lib n 19 ar up = some r) : ∀ ar up r, (E_spec_DrawValueText n d ar up).run = some r → runs KP lib n 19 ar up = some r :=
  cent_ok (fun hs r h => by
    unfold FH_spec_DrawValueText at h
    split at h
    · exact ⟨A_spec_DrawValueText _, U_spec_DrawValueText _, rfl, rfl, th_spec_DrawValueText n _ r h⟩
    · cases h) hd
/-! ### impl.isText -/
def A_impl_isText (x0 : ByteArray) (x1 : Int) : List AV := [(.c (.p (.s x0))), (.c (.p (.i .i64 x1)))]
def U_impl_isText (x0 : ByteArray) (x1 : Int) : List Go.Eng.Frame := []
def O_impl_isText (r : Bool) : Res := ⟨(.c (.p (.b r))), [], []⟩
abbrev CT_impl_isText (n : Nat) : CTab := mkCT []
def S_impl_isText_13 (v : ByteArray × Int × Int × Int) : St := ⟨[(0, (.c (.p (.s v.1)))), (1, (.c (.p (.i .i64 v.2.1)))), (7, (.c (.p (.i .i64 v.2.2.1)))), (8, (.c (.p (.i .i64 v.2.2.2))))], [], []⟩
def B_impl_isText_13 (n : Nat) (v : ByteArray × Int × Int × Int) : Tr ((ByteArray × Int × Int × Int) ⊕ ((Bool) ⊕ (ByteArray × Int))) := (.ask ((decide (v.2.2.2 < v.2.2.1))) (.ask (decide (0 ≤ v.2.2.2)) (.opt (v.1.toList[(v.2.2.2).toNat]?) fun c38 => (.ask ((decide ((c38.toNat : Int) < (32 : Int)))) (.done (.inr (.inl (false)))) (.ask (decide (0 ≤ v.2.2.2)) (.opt (v.1.toList[(v.2.2.2).toNat]?) fun c39 => (.ask ((decide ((c39.toNat : Int) > (126 : Int)))) (.done (.inr (.inl (false)))) (.done (.inl (v.1, v.2.1, v.2.2.1, (IntKind.i64.wrap (v.2.2.2 + (1 : Int)))))))) .fail))) .fail) (.done (.inr (.inr ((v.1, v.2.1))))))
def D_impl_isText_13 : ((Bool) ⊕ (ByteArray × Int)) → Ex × St := fun | .inl r => (.ret, ⟨[(4, (.c (.p (.b r))))], [], []⟩) | .inr r => (fun r => ((.exit 0), ⟨[(0, (.c (.p (.s r.1)))), (1, (.c (.p (.i .i64 r.2))))], [], []⟩)) r
def DT_impl_isText_13 : ((Bool) ⊕ (ByteArray × Int)) → Tr (Ex × St) := fun r => .alt r (fun r => .done (.ret, ⟨[(4, (.c (.p (.b r))))], [], []⟩)) (fun r => .done ((.exit 0), ⟨[(0, (.c (.p (.s r.1)))), (1, (.c (.p (.i .i64 r.2))))], [], []⟩))
def VH_impl_isText_13 : Cont3 → Option (ByteArray × Int × Int × Int)
  | ([[[.s w0]], [[.i w1]], [[.i w2]], [[.i w3]]], [], []) => some (w0, w1, w2, w3)
  | _ => none
abbrev LE_impl_isText_13 (n : Nat) : St → Tr (Ex × St) := lent (S_impl_isText_13 (⟨#[]⟩, 0, 0, 0)) VH_impl_isText_13 (B_impl_isText_13 n) DT_impl_isText_13 n
abbrev LT_impl_isText (n : Nat) : LTab := mkLT [(13, LE_impl_isText_13 n)]
def T_impl_isText (n : Nat) (x0 : ByteArray) (x1 : Int) : Tr (Bool) := (.opt (loopF (B_impl_isText_13 n) n (x0, x1, (x0.size : Int), (0 : Int))) fun r40 => (.alt r40 (fun r41 => (.done r41)) (fun r42 => (.done (decide ((r42.1.size : Int) ≤ r42.2))))))
def F_impl_isText : Nat → ByteArray → Int → Option (Bool)
  | 0, _, _ => none
  | n + 1, x0, x1 => (T_impl_isText n x0 x1).run
theorem ft_impl_isText (n : Nat) (x0 : ByteArray) (x1 : Int) : funT (CT_impl_isText n) (LT_impl_isText n) K_impl_isText (A_impl_isText x0 x1) (U_impl_isText x0 x1) = (T_impl_isText n x0 x1).bind fun r => .done (O_impl_isText r) := by kernel_rfl
theorem ct_impl_isText (n : Nat) : CTok (CT_impl_isText n) (runs KP lib n) := mkCT_nil
theorem lt_impl_isText_13 (n : Nat) (v : ByteArray × Int × Int × Int) : (evalCT (CT_impl_isText n) (mkLT []) K_impl_isText_L13 (S_impl_isText_13 v) []).bind (ltail [0, 1, 7, 8] [(.ret, [4]), ((.exit 0), [0, 1])]) = (B_impl_isText_13 n v).bind (lenc S_impl_isText_13 D_impl_isText_13) := by
  obtain ⟨w0, w1, w2, w3⟩ := v
  kernel_rfl
theorem le_impl_isText_13 (n : Nat) : LEok (runs KP lib n) n (13, [0, 1, 7, 8], [(.ret, [4]), ((.exit 0), [0, 1])], K_impl_isText_L13) (LE_impl_isText_13 n) := fun st e s h =>
  lent_ok (ct_impl_isText n) (noLoops rfl) (lt_impl_isText_13 n) (fun r => by
    rcases r with r | r <;> (intro h; cases h)) (fun r y h => by
    rcases r with r | r <;> (cases h; rfl)) (fun hs v h => by
    unfold VH_impl_isText_13 at h
    split at h <;> cases h
    rfl) h
theorem lo_impl_isText (n : Nat) : LTok (LT_impl_isText n) (runs KP lib n) n K_impl_isText.body := mkLT_ok (by
  intro x hx
  have hx : x ∈ ([(13, [0, 1, 7, 8], [(.ret, [4]), ((.exit 0), [0, 1])], K_impl_isText_L13)] : List (Nat × List Nat × List (Ex × List Nat) × KCode)) := hx
  simp only [List.mem_cons, List.not_mem_nil, or_false] at hx
  rcases hx with rfl
  · exact ⟨LE_impl_isText_13 n, fun st => rfl, le_impl_isText_13 n⟩)
theorem th_impl_isText : ∀ (n : Nat) (x0 : ByteArray) (x1 : Int) (r : Bool), F_impl_isText n x0 x1 = some r → runs KP lib n 42 (A_impl_isText x0 x1) (U_impl_isText x0 x1) = some (O_impl_isText r)
  | 0, x0, x1, r, h => by cases h
  | n + 1, x0, x1, r, h => fun_step (kf := K_impl_isText) rfl (ct_impl_isText n) (lo_impl_isText n) (ft_impl_isText n x0 x1) h
def FH_impl_isText (n : Nat) : Cont → Option (Bool)
  | ([[[.s x0]], [[.i x1]]], []) => F_impl_isText n x0 x1
  | _ => none
def E_impl_isText (n : Nat) (d : List AV → List Go.Eng.Frame → Tr Res) : List AV → List Go.Eng.Frame → Tr Res := cent (A_impl_isText (⟨#[]⟩) (0)) (U_impl_isText (⟨#[]⟩) (0)) (FH_impl_isText n) O_impl_isText d
theorem eo_impl_isText (n : Nat) {d : List AV → List Go.Eng.Frame → Tr Res} (hd : ∀ ar up r, (d ar up).run = some r → runs KP lib n 42 ar up = some r) : ∀ ar up r, (E_impl_isText n d ar up).run = some r → runs KP lib n 42 ar up = some r :=
  cent_ok (fun hs r h => by
    unfold FH_impl_isText at h
    split at h
    · exact ⟨A_impl_isText _ _, U_impl_isText _ _, rfl, rfl, th_impl_isText n _ _ r h⟩
    · cases h) hd
/-! ### impl.within -/
def A_impl_within (x0 : Int) (x1 : Int) (x2 : Int) : List AV := [(.c (.p (.i .i64 x0))), (.c (.p (.i .i64 x1))), (.c (.p (.i .i64 x2)))]
def U_impl_within (x0 : Int) (x1 : Int) (x2 : Int) : List Go.Eng.Frame := []
def O_impl_within (r : Bool) : Res := ⟨(.c (.p (.b r))), [], []⟩
abbrev CT_impl_within (n : Nat) : CTab := mkCT []
abbrev LT_impl_within (n : Nat) : LTab := mkLT []
def T_impl_within (n : Nat) (x0 : Int) (x1 : Int) (x2 : Int) : Tr (Bool) := (.ask ((decide (x0 ≥ x1))) (.done (decide (x0 ≤ x2))) (.done false))
def F_impl_within : Nat → Int → Int → Int → Option (Bool)
  | 0, _, _, _ => none
  | n + 1, x0, x1, x2 => (T_impl_within n x0 x1 x2).run
theorem ft_impl_within (n : Nat) (x0 : Int) (x1 : Int) (x2 : Int) : funT (CT_impl_within n) (LT_impl_within n) K_impl_within (A_impl_within x0 x1 x2) (U_impl_within x0 x1 x2) = (T_impl_within n x0 x1 x2).bind fun r => .done (O_impl_within r) := by kernel_rfl
theorem ct_impl_within (n : Nat) : CTok (CT_impl_within n) (runs KP lib n) := mkCT_nil
theorem th_impl_within : ∀ (n : Nat) (x0 : Int) (x1 : Int) (x2 : Int) (r : Bool), F_impl_within n x0 x1 x2 = some r → runs KP lib n 43 (A_impl_within x0 x1 x2) (U_impl_within x0 x1 x2) = some (O_impl_within r)
  | 0, x0, x1, x2, r, h => by cases h
  | n + 1, x0, x1, x2, r, h => fun_step (kf := K_impl_within) rfl (ct_impl_within n) (noLoops rfl) (ft_impl_within n x0 x1 x2) h
def FH_impl_within (n : Nat) : Cont → Option (Bool)
  | ([[[.i x0]], [[.i x1]], [[.i x2]]], []) => F_impl_within n x0 x1 x2
  | _ => none
def E_impl_within (n : Nat) (d : List AV → List Go.Eng.Frame → Tr Res) : List AV → List Go.Eng.Frame → Tr Res := cent (A_impl_within (0) (0) (0)) (U_impl_within (0) (0) (0)) (FH_impl_within n) O_impl_within d
theorem eo_impl_within (n : Nat) {d : List AV → List Go.Eng.Frame → Tr Res} (hd : ∀ ar up r, (d ar up).run = some r → runs KP lib n 43 ar up = some r) : ∀ ar up r, (E_impl_within n d ar up).run = some r → runs KP lib n 43 ar up = some r :=
  cent_ok (fun hs r h => by
    unfold FH_impl_within at h
    split at h
    · exact ⟨A_impl_within _ _ _, U_impl_within _ _ _, rfl, rfl, th_impl_within n _ _ _ r h⟩
    · cases h) hd
/-! ### impl.ValueOk -/
def A_impl_ValueOk (x0 : Int) (x1 : Int) (x2 : ByteArray) : List AV := [(.agg [(.p (.i .i64 x0)), (.p (.i .i64 x1)), (.p (.s x2))])]
def U_impl_ValueOk (x0 : Int) (x1 : Int) (x2 : ByteArray) : List Go.Eng.Frame := []
def O_impl_ValueOk (r : Bool) : Res := ⟨(.c (.p (.b r))), [], []⟩
abbrev CT_impl_ValueOk (n : Nat) : CTab := mkCT [(42, E_impl_isText n (noEnt)), (43, E_impl_within n (noEnt))]
abbrev LT_impl_ValueOk (n : Nat) : LTab := mkLT []
def T_impl_ValueOk (n : Nat) (x0 : Int) (x1 : Int) (x2 : ByteArray) : Tr (Bool) := (.ask ((x0 == (2 : Int))) (.ask ((x1 == (0 : Int))) (.opt (F_impl_isText n x2 (200 : Int)) fun r43 => (.done r43)) (.done false)) (.ask ((!(x2.toList == (⟨#[]⟩ : ByteArray).toList))) (.done false) (.ask ((x0 == (0 : Int))) (.done (x1 == (0 : Int))) (.ask ((x0 == (1 : Int))) (.opt (F_impl_within n x1 (-1000000000000000 : Int) (1000000000000000 : Int)) fun r44 => (.done r44)) (.ask ((x0 == (3 : Int))) (.opt (F_impl_within n x1 (0 : Int) (1 : Int)) fun r45 => (.done r45)) (.ask ((x0 == (4 : Int))) (.opt (F_impl_within n x1 (1 : Int) (5 : Int)) fun r46 => (.done r46)) (.done false)))))))
def F_impl_ValueOk : Nat → Int → Int → ByteArray → Option (Bool)
  | 0, _, _, _ => none
  | n + 1, x0, x1, x2 => (T_impl_ValueOk n x0 x1 x2).run
theorem ft_impl_ValueOk (n : Nat) (x0 : Int) (x1 : Int) (x2 : ByteArray) : funT (CT_impl_ValueOk n) (LT_impl_ValueOk n) K_impl_ValueOk (A_impl_ValueOk x0 x1 x2) (U_impl_ValueOk x0 x1 x2) = (T_impl_ValueOk n x0 x1 x2).bind fun r => .done (O_impl_ValueOk r) := by kernel_rfl
theorem ct_impl_ValueOk (n : Nat) : CTok (CT_impl_ValueOk n) (runs KP lib n) := mkCT_cons (eo_impl_isText n (noEnt_ok)) (mkCT_cons (eo_impl_within n (noEnt_ok)) (mkCT_nil))
theorem th_impl_ValueOk : ∀ (n : Nat) (x0 : Int) (x1 : Int) (x2 : ByteArray) (r : Bool), F_impl_ValueOk n x0 x1 x2 = some r → runs KP lib n 20 (A_impl_ValueOk x0 x1 x2) (U_impl_ValueOk x0 x1 x2) = some (O_impl_ValueOk r)
  | 0, x0, x1, x2, r, h => by cases h
  | n + 1, x0, x1, x2, r, h => fun_step (kf := K_impl_ValueOk) rfl (ct_impl_ValueOk n) (noLoops rfl) (ft_impl_ValueOk n x0 x1 x2) h
def FH_impl_ValueOk (n : Nat) : Cont → Option (Bool)
  | ([[[.i x0], [.i x1], [.s x2]]], []) => F_impl_ValueOk n x0 x1 x2
  | _ => none
def E_impl_ValueOk (n : Nat) (d : List AV → List Go.Eng.Frame → Tr Res) : List AV → List Go.Eng.Frame → Tr Res := cent (A_impl_ValueOk (0) (0) (⟨#[]⟩)) (U_impl_ValueOk (0) (0) (⟨#[]⟩)) (FH_impl_ValueOk n) O_impl_ValueOk d
theorem eo_impl_ValueOk (n : Nat) {d : List AV → List Go.Eng.Frame → Tr Res} (hd : ∀ ar up r, (d ar up).run = some r → runs KP lib n 20 ar up = some r) : ∀ ar up r, (E_impl_ValueOk n d ar up).run = some r → runs KP lib n 20 ar up = some r :=
  cent_ok (fun hs r h => by
    unfold FH_impl_ValueOk at h
    split at h
    · exact ⟨A_impl_ValueOk _ _ _, U_impl_ValueOk _ _ _, rfl, rfl, th_impl_ValueOk n _ _ _ r h⟩
    · cases h) hd
/-! ### strconv.FormatInt -/
def A_strconv_FormatInt (x0 : Int) (x1 : Int) : List AV := [(.c (.p (.i .i64 x0))), (.c (.p (.i .i64 x1)))]
def U_strconv_FormatInt (x0 : Int) (x1 : Int) : List Go.Eng.Frame := []
def O_strconv_FormatInt (r : (ByteArray)) : Res := ⟨(.c (.p (.s r))), [], []⟩
def F_strconv_FormatInt : Nat → Int → Int → Option ((ByteArray))
  | 0, _, _ => none
  | n + 1, x0, x1 => L_strconv_FormatInt x0 x1
theorem th_strconv_FormatInt : ∀ (n : Nat) (x0 : Int) (x1 : Int) (r : (ByteArray)), F_strconv_FormatInt n x0 x1 = some r → runs KP lib n 56 (A_strconv_FormatInt x0 x1) (U_strconv_FormatInt x0 x1) = some (O_strconv_FormatInt r)
  | 0, x0, x1, r, h => by cases h
  | n + 1, x0, x1, r, h => by
    have h : L_strconv_FormatInt x0 x1 = some r := h
    exact lib_step rfl (congrArg (Option.map fun r : (ByteArray) => ((.c (.p (.s r))) : AV)) h)
def FH_strconv_FormatInt (n : Nat) : Cont → Option ((ByteArray))
  | ([[[.i x0]], [[.i x1]]], []) => F_strconv_FormatInt n x0 x1
  | _ => none
def E_strconv_FormatInt (n : Nat) (d : List AV → List Go.Eng.Frame → Tr Res) : List AV → List Go.Eng.Frame → Tr Res := cent (A_strconv_FormatInt (0) (0)) (U_strconv_FormatInt (0) (0)) (FH_strconv_FormatInt n) O_strconv_FormatInt d
theorem eo_strconv_FormatInt (n : Nat) {d : List AV → List Go.Eng.Frame → Tr Res} (hd : ∀ ar up r, (d ar up).run = some r → runs KP lib n 56 ar up = some r) : ∀ ar up r, (E_strconv_FormatInt n d ar up).run = some r → runs KP lib n 56 ar up = some r :=
  cent_ok (fun hs r h => by
    unfold FH_strconv_FormatInt at h
    split at h
    · exact ⟨A_strconv_FormatInt _ _, U_strconv_FormatInt _ _, rfl, rfl, th_strconv_FormatInt n _ _ r h⟩
    · cases h) hd
/-! ### impl.decimal -/
def A_impl_decimal (x0 : Int) : List AV := [(.c (.p (.i .i64 x0)))]
def U_impl_decimal (x0 : Int) : List Go.Eng.Frame := []
def O_impl_decimal (r : ByteArray) : Res := ⟨(.c (.p (.s r))), [], []⟩
abbrev CT_impl_decimal (n : Nat) : CTab := mkCT [(56, E_strconv_FormatInt n (noEnt))]
abbrev LT_impl_decimal (n : Nat) : LTab := mkLT []
def T_impl_decimal (n : Nat) (x0 : Int) : Tr (ByteArray) := (.opt (F_strconv_FormatInt n x0 (10 : Int)) fun r48 => (.done r48))
def F_impl_decimal : Nat → Int → Option (ByteArray)
  | 0, _ => none
  | n + 1, x0 => (T_impl_decimal n x0).run
theorem ft_impl_decimal (n : Nat) (x0 : Int) : funT (CT_impl_decimal n) (LT_impl_decimal n) K_impl_decimal (A_impl_decimal x0) (U_impl_decimal x0) = (T_impl_decimal n x0).bind fun r => .done (O_impl_decimal r) := by kernel_rfl
theorem ct_impl_decimal (n : Nat) : CTok (CT_impl_decimal n) (runs KP lib n) := mkCT_cons (eo_strconv_FormatInt n (noEnt_ok)) (mkCT_nil)
theorem th_impl_decimal : ∀ (n : Nat) (x0 : Int) (r : ByteArray), F_impl_decimal n x0 = some r → runs KP lib n 48 (A_impl_decimal x0) (U_impl_decimal x0) = some (O_impl_decimal r)
  | 0, x0, r, h => by cases h
  | n + 1, x0, r, h => fun_step (kf := K_impl_decimal) rfl (ct_impl_decimal n) (noLoops rfl) (ft_impl_decimal n x0) h
def FH_impl_decimal (n : Nat) : Cont → Option (ByteArray)
  | ([[[.i x0]]], []) => F_impl_decimal n x0
  | _ => none
def E_impl_decimal (n : Nat) (d : List AV → List Go.Eng.Frame → Tr Res) : List AV → List Go.Eng.Frame → Tr Res := cent (A_impl_decimal (0)) (U_impl_decimal (0)) (FH_impl_decimal n) O_impl_decimal d
theorem eo_impl_decimal (n : Nat) {d : List AV → List Go.Eng.Frame → Tr Res} (hd : ∀ ar up r, (d ar up).run = some r → runs KP lib n 48 ar up = some r) : ∀ ar up r, (E_impl_decimal n d ar up).run = some r → runs KP lib n 48 ar up = some r :=
  cent_ok (fun hs r h => by
    unfold FH_impl_decimal at h
    split at h
    · exact ⟨A_impl_decimal _, U_impl_decimal _, rfl, rfl, th_impl_decimal n _ r h⟩
    · cases h) hd
/-! ### impl.errorText -/
def A_impl_errorText (x0 : Int) : List AV := [(.c (.p (.i .i64 x0)))]
def U_impl_errorText (x0 : Int) : List Go.Eng.Frame := []
def O_impl_errorText (r : ByteArray) : Res := ⟨(.c (.p (.s r))), [], []⟩
abbrev CT_impl_errorText (n : Nat) : CTab := mkCT []
abbrev LT_impl_errorText (n : Nat) : LTab := mkLT []
def T_impl_errorText (n : Nat) (x0 : Int) : Tr (ByteArray) := (.ask (decide (6 = ([[(.s (⟨#[]⟩ : ByteArray))], [(.s (⟨#[35, 68, 73, 86, 33]⟩ : ByteArray))], [(.s (⟨#[35, 84, 89, 80, 69, 33]⟩ : ByteArray))], [(.s (⟨#[35, 82, 69, 70, 33]⟩ : ByteArray))], [(.s (⟨#[35, 79, 86, 69, 82, 33]⟩ : ByteArray))], [(.s (⟨#[35, 67, 89, 67, 76, 69, 33]⟩ : ByteArray))]] : List (List PV)).length ∧ 0 ≤ x0 ∧ x0 < ((6 : Nat) : Int))) (.opt (([[(.s (⟨#[]⟩ : ByteArray))], [(.s (⟨#[35, 68, 73, 86, 33]⟩ : ByteArray))], [(.s (⟨#[35, 84, 89, 80, 69, 33]⟩ : ByteArray))], [(.s (⟨#[35, 82, 69, 70, 33]⟩ : ByteArray))], [(.s (⟨#[35, 79, 86, 69, 82, 33]⟩ : ByteArray))], [(.s (⟨#[35, 67, 89, 67, 76, 69, 33]⟩ : ByteArray))]] : List (List PV))[(x0).toNat]?) fun e52 => (.opt (cellS e52 0) fun y53 => (.done y53))) .fail)
def F_impl_errorText : Nat → Int → Option (ByteArray)
  | 0, _ => none
  | n + 1, x0 => (T_impl_errorText n x0).run
theorem ft_impl_errorText (n : Nat) (x0 : Int) : funT (CT_impl_errorText n) (LT_impl_errorText n) K_impl_errorText (A_impl_errorText x0) (U_impl_errorText x0) = (T_impl_errorText n x0).bind fun r => .done (O_impl_errorText r) := by kernel_rfl
theorem ct_impl_errorText (n : Nat) : CTok (CT_impl_errorText n) (runs KP lib n) := mkCT_nil
theorem th_impl_errorText : ∀ (n : Nat) (x0 : Int) (r : ByteArray), F_impl_errorText n x0 = some r → runs KP lib n 37 (A_impl_errorText x0) (U_impl_errorText x0) = some (O_impl_errorText r)
  | 0, x0, r, h => by cases h
  | n + 1, x0, r, h => fun_step (kf := K_impl_errorText) rfl (ct_impl_errorText n) (noLoops rfl) (ft_impl_errorText n x0) h
def FH_impl_errorText (n : Nat) : Cont → Option (ByteArray)
  | ([[[.i x0]]], []) => F_impl_errorText n x0
  | _ => none
def E_impl_errorText (n : Nat) (d : List AV → List Go.Eng.Frame → Tr Res) : List AV → List Go.Eng.Frame → Tr Res := cent (A_impl_errorText (0)) (U_impl_errorText (0)) (FH_impl_errorText n) O_impl_errorText d
theorem eo_impl_errorText (n : Nat) {d : List AV → List Go.Eng.Frame → Tr Res} (hd : ∀ ar up r, (d ar up).run = some r → runs KP lib n 37 ar up = some r) : ∀ ar up r, (E_impl_errorText n d ar up).run = some r → runs KP lib n 37 ar up = some r :=
  cent_ok (fun hs r h => by
    unfold FH_impl_errorText at h
    split at h
    · exact ⟨A_impl_errorText _, U_impl_errorText _, rfl, rfl, th_impl_errorText n _ r h⟩
    · cases h) hd
/-! ### impl.valueText -/
def A_impl_valueText (x0 : Int) (x1 : Int) (x2 : ByteArray) : List AV := [(.agg [(.p (.i .i64 x0)), (.p (.i .i64 x1)), (.p (.s x2))])]
def U_impl_valueText (x0 : Int) (x1 : Int) (x2 : ByteArray) : List Go.Eng.Frame := []
def O_impl_valueText (r : ByteArray) : Res := ⟨(.c (.p (.s r))), [], []⟩
abbrev CT_impl_valueText (n : Nat) : CTab := mkCT [(48, E_impl_decimal n (noEnt)), (37, E_impl_errorText n (noEnt))]
abbrev LT_impl_valueText (n : Nat) : LTab := mkLT []
def T_impl_valueText (n : Nat) (x0 : Int) (x1 : Int) (x2 : ByteArray) : Tr (ByteArray) := (.ask ((x0 == (1 : Int))) (.opt (F_impl_decimal n x1) fun r49 => (.done r49)) (.ask ((x0 == (2 : Int))) (.ask (decide ((⟨#[39]⟩ : ByteArray).size + x2.size ≤ 9223372036854775807)) (.done ((⟨#[39]⟩ : ByteArray) ++ x2)) .fail) (.ask ((x0 == (3 : Int))) (.ask (decide (2 = ([[(.s (⟨#[70, 65, 76, 83, 69]⟩ : ByteArray))], [(.s (⟨#[84, 82, 85, 69]⟩ : ByteArray))]] : List (List PV)).length ∧ 0 ≤ x1 ∧ x1 < ((2 : Nat) : Int))) (.opt (([[(.s (⟨#[70, 65, 76, 83, 69]⟩ : ByteArray))], [(.s (⟨#[84, 82, 85, 69]⟩ : ByteArray))]] : List (List PV))[(x1).toNat]?) fun e50 => (.opt (cellS e50 0) fun y51 => (.done y51))) .fail) (.ask ((x0 == (4 : Int))) (.opt (F_impl_errorText n x1) fun r54 => (.done r54)) (.done (⟨#[]⟩ : ByteArray))))))
def F_impl_valueText : Nat → Int → Int → ByteArray → Option (ByteArray)
  | 0, _, _, _ => none
  | n + 1, x0, x1, x2 => (T_impl_valueText n x0 x1 x2).run
theorem ft_impl_valueText (n : Nat) (x0 : Int) (x1 : Int) (x2 : ByteArray) : funT (CT_impl_valueText n) (LT_impl_valueText n) K_impl_valueText (A_impl_valueText x0 x1 x2) (U_impl_valueText x0 x1 x2) = (T_impl_valueText n x0 x1 x2).bind fun r => .done (O_impl_valueText r) := by kernel_rfl
theorem ct_impl_valueText (n : Nat) : CTok (CT_impl_valueText n) (runs KP lib n) := mkCT_cons (eo_impl_decimal n (noEnt_ok)) (mkCT_cons (eo_impl_errorText n (noEnt_ok)) (mkCT_nil))
theorem th_impl_valueText : ∀ (n : Nat) (x0 : Int) (x1 : Int) (x2 : ByteArray) (r : ByteArray), F_impl_valueText n x0 x1 x2 = some r → runs KP lib n 32 (A_impl_valueText x0 x1 x2) (U_impl_valueText x0 x1 x2) = some (O_impl_valueText r)
  | 0, x0, x1, x2, r, h => by cases h
  | n + 1, x0, x1, x2, r, h => fun_step (kf := K_impl_valueText) rfl (ct_impl_valueText n) (noLoops rfl) (ft_impl_valueText n x0 x1 x2) h
def FH_impl_valueText (n : Nat) : Cont → Option (ByteArray)
  | ([[[.i x0], [.i x1], [.s x2]]], []) => F_impl_valueText n x0 x1 x2
  | _ => none
def E_impl_valueText (n : Nat) (d : List AV → List Go.Eng.Frame → Tr Res) : List AV → List Go.Eng.Frame → Tr Res := cent (A_impl_valueText (0) (0) (⟨#[]⟩)) (U_impl_valueText (0) (0) (⟨#[]⟩)) (FH_impl_valueText n) O_impl_valueText d
theorem eo_impl_valueText (n : Nat) {d : List AV → List Go.Eng.Frame → Tr Res} (hd : ∀ ar up r, (d ar up).run = some r → runs KP lib n 32 ar up = some r) : ∀ ar up r, (E_impl_valueText n d ar up).run = some r → runs KP lib n 32 ar up = some r :=
  cent_ok (fun hs r h => by
    unfold FH_impl_valueText at h
    split at h
    · exact ⟨A_impl_valueText _ _ _, U_impl_valueText _ _ _, rfl, rfl, th_impl_valueText n _ _ _ r h⟩
    · cases h) hd
/-! ### impl.ValueText -/
def A_impl_ValueText (x0 : Int) (x1 : Int) (x2 : ByteArray) : List AV := [(.agg [(.p (.i .i64 x0)), (.p (.i .i64 x1)), (.p (.s x2))])]
def U_impl_ValueText (x0 : Int) (x1 : Int) (x2 : ByteArray) : List Go.Eng.Frame := []
def O_impl_ValueText (r : ByteArray) : Res := ⟨(.c (.p (.s r))), [], []⟩
abbrev CT_impl_ValueText (n : Nat) : CTab := mkCT [(20, E_impl_ValueOk n (noEnt)), (32, E_impl_valueText n (noEnt))]
abbrev LT_impl_ValueText (n : Nat) : LTab := mkLT []
def T_impl_ValueText (n : Nat) (x0 : Int) (x1 : Int) (x2 : ByteArray) : Tr (ByteArray) := (.opt (F_impl_ValueOk n x0 x1 x2) fun r47 => (.ask ((!r47)) (.done (⟨#[]⟩ : ByteArray)) (.opt (F_impl_valueText n x0 x1 x2) fun r55 => (.done r55))))
def F_impl_ValueText : Nat → Int → Int → ByteArray → Option (ByteArray)
  | 0, _, _, _ => none
  | n + 1, x0, x1, x2 => (T_impl_ValueText n x0 x1 x2).run
theorem ft_impl_ValueText (n : Nat) (x0 : Int) (x1 : Int) (x2 : ByteArray) : funT (CT_impl_ValueText n) (LT_impl_ValueText n) K_impl_ValueText (A_impl_ValueText x0 x1 x2) (U_impl_ValueText x0 x1 x2) = (T_impl_ValueText n x0 x1 x2).bind fun r => .done (O_impl_ValueText r) := by kernel_rfl
theorem ct_impl_ValueText (n : Nat) : CTok (CT_impl_ValueText n) (runs KP lib n) := mkCT_cons (eo_impl_ValueOk n (noEnt_ok)) (mkCT_cons (eo_impl_valueText n (noEnt_ok)) (mkCT_nil))
theorem th_impl_ValueText : ∀ (n : Nat) (x0 : Int) (x1 : Int) (x2 : ByteArray) (r : ByteArray), F_impl_ValueText n x0 x1 x2 = some r → runs KP lib n 16 (A_impl_ValueText x0 x1 x2) (U_impl_ValueText x0 x1 x2) = some (O_impl_ValueText r)
  | 0, x0, x1, x2, r, h => by cases h
  | n + 1, x0, x1, x2, r, h => fun_step (kf := K_impl_ValueText) rfl (ct_impl_ValueText n) (noLoops rfl) (ft_impl_ValueText n x0 x1 x2) h
def FH_impl_ValueText (n : Nat) : Cont → Option (ByteArray)
  | ([[[.i x0], [.i x1], [.s x2]]], []) => F_impl_ValueText n x0 x1 x2
  | _ => none
def E_impl_ValueText (n : Nat) (d : List AV → List Go.Eng.Frame → Tr Res) : List AV → List Go.Eng.Frame → Tr Res := cent (A_impl_ValueText (0) (0) (⟨#[]⟩)) (U_impl_ValueText (0) (0) (⟨#[]⟩)) (FH_impl_ValueText n) O_impl_ValueText d
theorem eo_impl_ValueText (n : Nat) {d : List AV → List Go.Eng.Frame → Tr Res} (hd : ∀ ar up r, (d ar up).run = some r → runs KP lib n 16 ar up = some r) : ∀ ar up r, (E_impl_ValueText n d ar up).run = some r → runs KP lib n 16 ar up = some r :=
  cent_ok (fun hs r h => by
    unfold FH_impl_ValueText at h
    split at h
    · exact ⟨A_impl_ValueText _ _ _, U_impl_ValueText _ _ _, rfl, rfl, th_impl_ValueText n _ _ _ r h⟩
    · cases h) hd
/-! ### strings.CutPrefix -/
def A_strings_CutPrefix (x0 : ByteArray) (x1 : ByteArray) : List AV := [(.c (.p (.s x0))), (.c (.p (.s x1)))]
def U_strings_CutPrefix (x0 : ByteArray) (x1 : ByteArray) : List Go.Eng.Frame := []
def O_strings_CutPrefix (r : (ByteArray × Bool)) : Res := ⟨(.tup [(false, [(.p (.s r.1))]), (false, [(.p (.b r.2))])]), [], []⟩
def F_strings_CutPrefix : Nat → ByteArray → ByteArray → Option ((ByteArray × Bool))
  | 0, _, _ => none
  | n + 1, x0, x1 => L_strings_CutPrefix x0 x1
theorem th_strings_CutPrefix : ∀ (n : Nat) (x0 : ByteArray) (x1 : ByteArray) (r : (ByteArray × Bool)), F_strings_CutPrefix n x0 x1 = some r → runs KP lib n 34 (A_strings_CutPrefix x0 x1) (U_strings_CutPrefix x0 x1) = some (O_strings_CutPrefix r)
  | 0, x0, x1, r, h => by cases h
  | n + 1, x0, x1, r, h => by
    have h : L_strings_CutPrefix x0 x1 = some r := h
    exact lib_step rfl (congrArg (Option.map fun r : (ByteArray × Bool) => ((.tup [(false, [(.p (.s r.1))]), (false, [(.p (.b r.2))])]) : AV)) h)
def FH_strings_CutPrefix (n : Nat) : Cont → Option ((ByteArray × Bool))
  | ([[[.s x0]], [[.s x1]]], []) => F_strings_CutPrefix n x0 x1
  | _ => none
def E_strings_CutPrefix (n : Nat) (d : List AV → List Go.Eng.Frame → Tr Res) : List AV → List Go.Eng.Frame → Tr Res := cent (A_strings_CutPrefix (⟨#[]⟩) (⟨#[]⟩)) (U_strings_CutPrefix (⟨#[]⟩) (⟨#[]⟩)) (FH_strings_CutPrefix n) O_strings_CutPrefix d
theorem eo_strings_CutPrefix (n : Nat) {d : List AV → List Go.Eng.Frame → Tr Res} (hd : ∀ ar up r, (d ar up).run = some r → runs KP lib n 34 ar up = some r) : ∀ ar up r, (E_strings_CutPrefix n d ar up).run = some r → runs KP lib n 34 ar up = some r :=
  cent_ok (fun hs r h => by
    unfold FH_strings_CutPrefix at h
    split at h
    · exact ⟨A_strings_CutPrefix _ _, U_strings_CutPrefix _ _, rfl, rfl, th_strings_CutPrefix n _ _ r h⟩
    · cases h) hd
/-! ### impl.truth -/
def A_impl_truth (x0 : Bool) : List AV := [(.c (.p (.b x0)))]
def U_impl_truth (x0 : Bool) : List Go.Eng.Frame := []
def O_impl_truth (r : Int × Int × ByteArray) : Res := ⟨(.agg [(.p (.i .i64 r.1)), (.p (.i .i64 r.2.1)), (.p (.s r.2.2))]), [], []⟩
abbrev CT_impl_truth (n : Nat) : CTab := mkCT []
abbrev LT_impl_truth (n : Nat) : LTab := mkLT []
def T_impl_truth (n : Nat) (x0 : Bool) : Tr (Int × Int × ByteArray) := (.ask (x0) (.done ((3 : Int), (1 : Int), (⟨#[]⟩ : ByteArray))) (.done ((3 : Int), (0 : Int), (⟨#[]⟩ : ByteArray))))
def F_impl_truth : Nat → Bool → Option (Int × Int × ByteArray)
  | 0, _ => none
  | n + 1, x0 => (T_impl_truth n x0).run
theorem ft_impl_truth (n : Nat) (x0 : Bool) : funT (CT_impl_truth n) (LT_impl_truth n) K_impl_truth (A_impl_truth x0) (U_impl_truth x0) = (T_impl_truth n x0).bind fun r => .done (O_impl_truth r) := by kernel_rfl
theorem ct_impl_truth (n : Nat) : CTok (CT_impl_truth n) (runs KP lib n) := mkCT_nil
theorem th_impl_truth : ∀ (n : Nat) (x0 : Bool) (r : Int × Int × ByteArray), F_impl_truth n x0 = some r → runs KP lib n 35 (A_impl_truth x0) (U_impl_truth x0) = some (O_impl_truth r)
  | 0, x0, r, h => by cases h
  | n + 1, x0, r, h => fun_step (kf := K_impl_truth) rfl (ct_impl_truth n) (noLoops rfl) (ft_impl_truth n x0) h
def FH_impl_truth (n : Nat) : Cont → Option (Int × Int × ByteArray)
  | ([[[.b x0]]], []) => F_impl_truth n x0
  | _ => none
def E_impl_truth (n : Nat) (d : List AV → List Go.Eng.Frame → Tr Res) : List AV → List Go.Eng.Frame → Tr Res := cent (A_impl_truth (false)) (U_impl_truth (false)) (FH_impl_truth n) O_impl_truth d
theorem eo_impl_truth (n : Nat) {d : List AV → List Go.Eng.Frame → Tr Res} (hd : ∀ ar up r, (d ar up).run = some r → runs KP lib n 35 ar up = some r) : ∀ ar up r, (E_impl_truth n d ar up).run = some r → runs KP lib n 35 ar up = some r :=
  cent_ok (fun hs r h => by
    unfold FH_impl_truth at h
    split at h
    · exact ⟨A_impl_truth _, U_impl_truth _, rfl, rfl, th_impl_truth n _ r h⟩
    · cases h) hd
/-! ### internal/stringslite.HasPrefix -/
def A_internal_stringslite_HasPrefix (x0 : ByteArray) (x1 : ByteArray) : List AV := [(.c (.p (.s x0))), (.c (.p (.s x1)))]
def U_internal_stringslite_HasPrefix (x0 : ByteArray) (x1 : ByteArray) : List Go.Eng.Frame := []
def O_internal_stringslite_HasPrefix (r : Bool) : Res := ⟨(.c (.p (.b r))), [], []⟩
abbrev CT_internal_stringslite_HasPrefix (n : Nat) : CTab := mkCT []
abbrev LT_internal_stringslite_HasPrefix (n : Nat) : LTab := mkLT []
def T_internal_stringslite_HasPrefix (n : Nat) (x0 : ByteArray) (x1 : ByteArray) : Tr (Bool) := (.ask ((decide ((x0.size : Int) ≥ (x1.size : Int)))) (.ask (decide (0 ≤ (0 : Int) ∧ (0 : Int) ≤ (x1.size : Int) ∧ (x1.size : Int) ≤ x0.size)) (.done ((x0.extract ((0 : Int)).toNat ((x1.size : Int)).toNat).toList == x1.toList)) .fail) (.done false))
def F_internal_stringslite_HasPrefix : Nat → ByteArray → ByteArray → Option (Bool)
  | 0, _, _ => none
  | n + 1, x0, x1 => (T_internal_stringslite_HasPrefix n x0 x1).run
theorem ft_internal_stringslite_HasPrefix (n : Nat) (x0 : ByteArray) (x1 : ByteArray) : funT (CT_internal_stringslite_HasPrefix n) (LT_internal_stringslite_HasPrefix n) K_internal_stringslite_HasPrefix (A_internal_stringslite_HasPrefix x0 x1) (U_internal_stringslite_HasPrefix x0 x1) = (T_internal_stringslite_HasPrefix n x0 x1).bind fun r => .done (O_internal_stringslite_HasPrefix r) := by kernel_rfl
theorem ct_internal_stringslite_HasPrefix (n : Nat) : CTok (CT_internal_stringslite_HasPrefix n) (runs KP lib n) := mkCT_nil
theorem th_internal_stringslite_HasPrefix : ∀ (n : Nat) (x0 : ByteArray) (x1 : ByteArray) (r : Bool), F_internal_stringslite_HasPrefix n x0 x1 = some r → runs KP lib n 50 (A_internal_stringslite_HasPrefix x0 x1) (U_internal_stringslite_HasPrefix x0 x1) = some (O_internal_stringslite_HasPrefix r)
  | 0, x0, x1, r, h => by cases h
  | n + 1, x0, x1, r, h => fun_step (kf := K_internal_stringslite_HasPrefix) rfl (ct_internal_stringslite_HasPrefix n) (noLoops rfl) (ft_internal_stringslite_HasPrefix n x0 x1) h
def FH_internal_stringslite_HasPrefix (n : Nat) : Cont → Option (Bool)
  | ([[[.s x0]], [[.s x1]]], []) => F_internal_stringslite_HasPrefix n x0 x1
  | _ => none
def E_internal_stringslite_HasPrefix (n : Nat) (d : List AV → List Go.Eng.Frame → Tr Res) : List AV → List Go.Eng.Frame → Tr Res := cent (A_internal_stringslite_HasPrefix (⟨#[]⟩) (⟨#[]⟩)) (U_internal_stringslite_HasPrefix (⟨#[]⟩) (⟨#[]⟩)) (FH_internal_stringslite_HasPrefix n) O_internal_stringslite_HasPrefix d
theorem eo_internal_stringslite_HasPrefix (n : Nat) {d : List AV → List Go.Eng.Frame → Tr Res} (hd : ∀ ar up r, (d ar up).run = some r → runs KP lib n 50 ar up = some r) : ∀ ar up r, (E_internal_stringslite_HasPrefix n d ar up).run = some r → runs KP lib n 50 ar up = some r :=
  cent_ok (fun hs r h => by
    unfold FH_internal_stringslite_HasPrefix at h
    split at h
    · exact ⟨A_internal_stringslite_HasPrefix _ _, U_internal_stringslite_HasPrefix _ _, rfl, rfl, th_internal_stringslite_HasPrefix n _ _ r h⟩
    · cases h) hd
/-! ### strings.HasPrefix -/
def A_strings_HasPrefix (x0 : ByteArray) (x1 : ByteArray) : List AV := [(.c (.p (.s x0))), (.c (.p (.s x1)))]
def U_strings_HasPrefix (x0 : ByteArray) (x1 : ByteArray) : List Go.Eng.Frame := []
def O_strings_HasPrefix (r : Bool) : Res := ⟨(.c (.p (.b r))), [], []⟩
abbrev CT_strings_HasPrefix (n : Nat) : CTab := mkCT [(50, E_internal_stringslite_HasPrefix n (noEnt))]
abbrev LT_strings_HasPrefix (n : Nat) : LTab := mkLT []
def T_strings_HasPrefix (n : Nat) (x0 : ByteArray) (x1 : ByteArray) : Tr (Bool) := (.opt (F_internal_stringslite_HasPrefix n x0 x1) fun r66 => (.done r66))
def F_strings_HasPrefix : Nat → ByteArray → ByteArray → Option (Bool)
  | 0, _, _ => none
  | n + 1, x0, x1 => (T_strings_HasPrefix n x0 x1).run
theorem ft_strings_HasPrefix (n : Nat) (x0 : ByteArray) (x1 : ByteArray) : funT (CT_strings_HasPrefix n) (LT_strings_HasPrefix n) K_strings_HasPrefix (A_strings_HasPrefix x0 x1) (U_strings_HasPrefix x0 x1) = (T_strings_HasPrefix n x0 x1).bind fun r => .done (O_strings_HasPrefix r) := by kernel_rfl
theorem ct_strings_HasPrefix (n : Nat) : CTok (CT_strings_HasPrefix n) (runs KP lib n) := mkCT_cons (eo_internal_stringslite_HasPrefix n (noEnt_ok)) (mkCT_nil)
theorem th_strings_HasPrefix : ∀ (n : Nat) (x0 : ByteArray) (x1 : ByteArray) (r : Bool), F_strings_HasPrefix n x0 x1 = some r → runs KP lib n 36 (A_strings_HasPrefix x0 x1) (U_strings_HasPrefix x0 x1) = some (O_strings_HasPrefix r)
  | 0, x0, x1, r, h => by cases h
  | n + 1, x0, x1, r, h => fun_step (kf := K_strings_HasPrefix) rfl (ct_strings_HasPrefix n) (noLoops rfl) (ft_strings_HasPrefix n x0 x1) h
def FH_strings_HasPrefix (n : Nat) : Cont → Option (Bool)
  | ([[[.s x0]], [[.s x1]]], []) => F_strings_HasPrefix n x0 x1
  | _ => none
def E_strings_HasPrefix (n : Nat) (d : List AV → List Go.Eng.Frame → Tr Res) : List AV → List Go.Eng.Frame → Tr Res := cent (A_strings_HasPrefix (⟨#[]⟩) (⟨#[]⟩)) (U_strings_HasPrefix (⟨#[]⟩) (⟨#[]⟩)) (FH_strings_HasPrefix n) O_strings_HasPrefix d
theorem eo_strings_HasPrefix (n : Nat) {d : List AV → List Go.Eng.Frame → Tr Res} (hd : ∀ ar up r, (d ar up).run = some r → runs KP lib n 36 ar up = some r) : ∀ ar up r, (E_strings_HasPrefix n d ar up).run = some r → runs KP lib n 36 ar up = some r :=
  cent_ok (fun hs r h => by
    unfold FH_strings_HasPrefix at h
    split at h
    · exact ⟨A_strings_HasPrefix _ _, U_strings_HasPrefix _ _, rfl, rfl, th_strings_HasPrefix n _ _ r h⟩
    · cases h) hd
/-! ### impl.fault -/
def A_impl_fault (x0 : Int) : List AV := [(.c (.p (.i .i64 x0)))]
def U_impl_fault (x0 : Int) : List Go.Eng.Frame := []
def O_impl_fault (r : Int × Int × ByteArray) : Res := ⟨(.agg [(.p (.i .i64 r.1)), (.p (.i .i64 r.2.1)), (.p (.s r.2.2))]), [], []⟩
abbrev CT_impl_fault (n : Nat) : CTab := mkCT []
abbrev LT_impl_fault (n : Nat) : LTab := mkLT []
def T_impl_fault (n : Nat) (x0 : Int) : Tr (Int × Int × ByteArray) := (.done ((4 : Int), x0, (⟨#[]⟩ : ByteArray)))
def F_impl_fault : Nat → Int → Option (Int × Int × ByteArray)
  | 0, _ => none
  | n + 1, x0 => (T_impl_fault n x0).run
theorem ft_impl_fault (n : Nat) (x0 : Int) : funT (CT_impl_fault n) (LT_impl_fault n) K_impl_fault (A_impl_fault x0) (U_impl_fault x0) = (T_impl_fault n x0).bind fun r => .done (O_impl_fault r) := by kernel_rfl
theorem ct_impl_fault (n : Nat) : CTok (CT_impl_fault n) (runs KP lib n) := mkCT_nil
theorem th_impl_fault : ∀ (n : Nat) (x0 : Int) (r : Int × Int × ByteArray), F_impl_fault n x0 = some r → runs KP lib n 27 (A_impl_fault x0) (U_impl_fault x0) = some (O_impl_fault r)
  | 0, x0, r, h => by cases h
  | n + 1, x0, r, h => fun_step (kf := K_impl_fault) rfl (ct_impl_fault n) (noLoops rfl) (ft_impl_fault n x0) h
def FH_impl_fault (n : Nat) : Cont → Option (Int × Int × ByteArray)
  | ([[[.i x0]]], []) => F_impl_fault n x0
  | _ => none
def E_impl_fault (n : Nat) (d : List AV → List Go.Eng.Frame → Tr Res) : List AV → List Go.Eng.Frame → Tr Res := cent (A_impl_fault (0)) (U_impl_fault (0)) (FH_impl_fault n) O_impl_fault d
theorem eo_impl_fault (n : Nat) {d : List AV → List Go.Eng.Frame → Tr Res} (hd : ∀ ar up r, (d ar up).run = some r → runs KP lib n 27 ar up = some r) : ∀ ar up r, (E_impl_fault n d ar up).run = some r → runs KP lib n 27 ar up = some r :=
  cent_ok (fun hs r h => by
    unfold FH_impl_fault at h
    split at h
    · exact ⟨A_impl_fault _, U_impl_fault _, rfl, rfl, th_impl_fault n _ r h⟩
    · cases h) hd
/-! ### strconv.ParseInt -/
def A_strconv_ParseInt (x0 : ByteArray) (x1 : Int) (x2 : Int) : List AV := [(.c (.p (.s x0))), (.c (.p (.i .i64 x1))), (.c (.p (.i .i64 x2)))]
def U_strconv_ParseInt (x0 : ByteArray) (x1 : Int) (x2 : Int) : List Go.Eng.Frame := []
def O_strconv_ParseInt : (Int) ⊕ (Int) → Res := fun | .inl r => ⟨(.tup [(false, [(.p (.i .i64 r))]), (false, [(.p .nif)])]), [], []⟩ | .inr r => ⟨(.tup [(false, [(.p (.i .i64 r))]), (false, [(.p .ifc)])]), [], []⟩
def F_strconv_ParseInt : Nat → ByteArray → Int → Int → Option ((Int) ⊕ (Int))
  | 0, _, _, _ => none
  | n + 1, x0, x1, x2 => L_strconv_ParseInt x0 x1 x2
theorem th_strconv_ParseInt : ∀ (n : Nat) (x0 : ByteArray) (x1 : Int) (x2 : Int) (r : (Int) ⊕ (Int)), F_strconv_ParseInt n x0 x1 x2 = some r → runs KP lib n 38 (A_strconv_ParseInt x0 x1 x2) (U_strconv_ParseInt x0 x1 x2) = some (O_strconv_ParseInt r)
  | 0, x0, x1, x2, r, h => by cases h
  | n + 1, x0, x1, x2, r, h => by
    have h : L_strconv_ParseInt x0 x1 x2 = some r := h
    rcases r with r | r
    · exact lib_step rfl (congrArg (Option.map Q_strconv_ParseInt_av) h)
    · exact lib_step rfl (congrArg (Option.map Q_strconv_ParseInt_av) h)
def FH_strconv_ParseInt (n : Nat) : Cont → Option ((Int) ⊕ (Int))
  | ([[[.s x0]], [[.i x1]], [[.i x2]]], []) => F_strconv_ParseInt n x0 x1 x2
  | _ => none
def E_strconv_ParseInt (n : Nat) (d : List AV → List Go.Eng.Frame → Tr Res) : List AV → List Go.Eng.Frame → Tr Res := cent2 (A_strconv_ParseInt (⟨#[]⟩) (0) (0)) (U_strconv_ParseInt (⟨#[]⟩) (0) (0)) (FH_strconv_ParseInt n) O_strconv_ParseInt d
theorem eo_strconv_ParseInt (n : Nat) {d : List AV → List Go.Eng.Frame → Tr Res} (hd : ∀ ar up r, (d ar up).run = some r → runs KP lib n 38 ar up = some r) : ∀ ar up r, (E_strconv_ParseInt n d ar up).run = some r → runs KP lib n 38 ar up = some r :=
  cent2_ok (fun hs r h => by
    unfold FH_strconv_ParseInt at h
    split at h
    · exact ⟨A_strconv_ParseInt _ _ _, U_strconv_ParseInt _ _ _, rfl, rfl, th_strconv_ParseInt n _ _ _ r h⟩
    · cases h) hd
/-! ### impl.number -/
def A_impl_number (x0 : Int) : List AV := [(.c (.p (.i .i64 x0)))]
def U_impl_number (x0 : Int) : List Go.Eng.Frame := []
def O_impl_number (r : Int × Int × ByteArray) : Res := ⟨(.agg [(.p (.i .i64 r.1)), (.p (.i .i64 r.2.1)), (.p (.s r.2.2))]), [], []⟩
abbrev CT_impl_number (n : Nat) : CTab := mkCT []
abbrev LT_impl_number (n : Nat) : LTab := mkLT []
def T_impl_number (n : Nat) (x0 : Int) : Tr (Int × Int × ByteArray) := (.done ((1 : Int), x0, (⟨#[]⟩ : ByteArray)))
def F_impl_number : Nat → Int → Option (Int × Int × ByteArray)
  | 0, _ => none
  | n + 1, x0 => (T_impl_number n x0).run
theorem ft_impl_number (n : Nat) (x0 : Int) : funT (CT_impl_number n) (LT_impl_number n) K_impl_number (A_impl_number x0) (U_impl_number x0) = (T_impl_number n x0).bind fun r => .done (O_impl_number r) := by kernel_rfl
theorem ct_impl_number (n : Nat) : CTok (CT_impl_number n) (runs KP lib n) := mkCT_nil
theorem th_impl_number : ∀ (n : Nat) (x0 : Int) (r : Int × Int × ByteArray), F_impl_number n x0 = some r → runs KP lib n 39 (A_impl_number x0) (U_impl_number x0) = some (O_impl_number r)
  | 0, x0, r, h => by cases h
  | n + 1, x0, r, h => fun_step (kf := K_impl_number) rfl (ct_impl_number n) (noLoops rfl) (ft_impl_number n x0) h
def FH_impl_number (n : Nat) : Cont → Option (Int × Int × ByteArray)
  | ([[[.i x0]]], []) => F_impl_number n x0
  | _ => none
def E_impl_number (n : Nat) (d : List AV → List Go.Eng.Frame → Tr Res) : List AV → List Go.Eng.Frame → Tr Res := cent (A_impl_number (0)) (U_impl_number (0)) (FH_impl_number n) O_impl_number d
theorem eo_impl_number (n : Nat) {d : List AV → List Go.Eng.Frame → Tr Res} (hd : ∀ ar up r, (d ar up).run = some r → runs KP lib n 39 ar up = some r) : ∀ ar up r, (E_impl_number n d ar up).run = some r → runs KP lib n 39 ar up = some r :=
  cent_ok (fun hs r h => by
    unfold FH_impl_number at h
    split at h
    · exact ⟨A_impl_number _, U_impl_number _, rfl, rfl, th_impl_number n _ r h⟩
    · cases h) hd
/-! ### impl.ReadValue -/
def A_impl_ReadValue (x0 : ByteArray) : List AV := [(.c (.p (.s x0)))]
def U_impl_ReadValue (x0 : ByteArray) : List Go.Eng.Frame := []
def O_impl_ReadValue (r : Int × Int × ByteArray × Bool) : Res := ⟨(.tup [(true, [(.p (.i .i64 r.1)), (.p (.i .i64 r.2.1)), (.p (.s r.2.2.1))]), (false, [(.p (.b r.2.2.2))])]), [], []⟩
abbrev CT_impl_ReadValue (n : Nat) : CTab := mkCT [(34, E_strings_CutPrefix n (noEnt)), (20, E_impl_ValueOk n (noEnt)), (32, E_impl_valueText n (noEnt)), (35, E_impl_truth n (noEnt)), (36, E_strings_HasPrefix n (noEnt)), (37, E_impl_errorText n (noEnt)), (27, E_impl_fault n (noEnt)), (38, E_strconv_ParseInt n (noEnt)), (39, E_impl_number n (noEnt))]
def S_impl_ReadValue_3837 (v : ByteArray × Int × Int × Int × ByteArray × Int × Int × ByteArray) : St := ⟨[(0, (.c (.p (.s v.1)))), (2, (.c (.ptr 0 128 0 0 0))), (4, (.c (.ptr 0 256 0 0 0))), (7, (.c (.p (.i .i64 v.2.1))))], [(128, ⟨0, 3, 25, (.box [(.p (.i .i64 v.2.2.1)), (.p (.i .i64 v.2.2.2.1)), (.p (.s v.2.2.2.2.1))])⟩), (256, ⟨0, 3, 25, (.box [(.p (.i .i64 v.2.2.2.2.2.1)), (.p (.i .i64 v.2.2.2.2.2.2.1)), (.p (.s v.2.2.2.2.2.2.2))])⟩)], []⟩
def B_impl_ReadValue_3837 (n : Nat) (v : ByteArray × Int × Int × Int × ByteArray × Int × Int × ByteArray) : Tr ((ByteArray × Int × Int × Int × ByteArray × Int × Int × ByteArray) ⊕ ((ByteArray × Int × Int × ByteArray × Int × Int × ByteArray))) := (.ask ((decide (v.2.1 ≤ (5 : Int)))) (.opt (F_impl_errorText n v.2.1) fun r68 => (.ask ((r68.toList == v.1.toList)) (.opt (F_impl_fault n v.2.1) fun r69 => (.done (.inl (v.1, (IntKind.i64.wrap (v.2.1 + (1 : Int))), v.2.2.1, v.2.2.2.1, v.2.2.2.2.1, r69.1, r69.2.1, r69.2.2)))) (.done (.inl (v.1, (IntKind.i64.wrap (v.2.1 + (1 : Int))), v.2.2.1, v.2.2.2.1, v.2.2.2.2.1, v.2.2.2.2.2.1, v.2.2.2.2.2.2.1, v.2.2.2.2.2.2.2))))) (.done (.inr ((v.1, v.2.2.1, v.2.2.2.1, v.2.2.2.2.1, v.2.2.2.2.2.1, v.2.2.2.2.2.2.1, v.2.2.2.2.2.2.2)))))
def D_impl_ReadValue_3837 : (ByteArray × Int × Int × ByteArray × Int × Int × ByteArray) → Ex × St := fun r => ((.exit 1), ⟨[(0, (.c (.p (.s r.1)))), (2, (.c (.ptr 0 128 0 0 0))), (4, (.c (.ptr 0 256 0 0 0)))], [(128, ⟨0, 3, 25, (.box [(.p (.i .i64 r.2.1)), (.p (.i .i64 r.2.2.1)), (.p (.s r.2.2.2.1))])⟩), (256, ⟨0, 3, 25, (.box [(.p (.i .i64 r.2.2.2.2.1)), (.p (.i .i64 r.2.2.2.2.2.1)), (.p (.s r.2.2.2.2.2.2))])⟩)], []⟩)
def DT_impl_ReadValue_3837 : (ByteArray × Int × Int × ByteArray × Int × Int × ByteArray) → Tr (Ex × St) := fun r => .done ((.exit 1), ⟨[(0, (.c (.p (.s r.1)))), (2, (.c (.ptr 0 128 0 0 0))), (4, (.c (.ptr 0 256 0 0 0)))], [(128, ⟨0, 3, 25, (.box [(.p (.i .i64 r.2.1)), (.p (.i .i64 r.2.2.1)), (.p (.s r.2.2.2.1))])⟩), (256, ⟨0, 3, 25, (.box [(.p (.i .i64 r.2.2.2.2.1)), (.p (.i .i64 r.2.2.2.2.2.1)), (.p (.s r.2.2.2.2.2.2))])⟩)], []⟩)
def VH_impl_ReadValue_3837 : Cont3 → Option (ByteArray × Int × Int × Int × ByteArray × Int × Int × ByteArray)
  | ([[[.s w0]], [[]], [[]], [[.i w1]]], [[[.i w2], [.i w3], [.s w4]], [[.i w5], [.i w6], [.s w7]]], []) => some (w0, w1, w2, w3, w4, w5, w6, w7)
  | _ => none
abbrev LE_impl_ReadValue_3837 (n : Nat) : St → Tr (Ex × St) := lent (S_impl_ReadValue_3837 (⟨#[]⟩, 0, 0, 0, ⟨#[]⟩, 0, 0, ⟨#[]⟩)) VH_impl_ReadValue_3837 (B_impl_ReadValue_3837 n) DT_impl_ReadValue_3837 n
abbrev LT_impl_ReadValue (n : Nat) : LTab := mkLT [(3837, LE_impl_ReadValue_3837 n)]
def T_impl_ReadValue (n : Nat) (x0 : ByteArray) : Tr (Int × Int × ByteArray × Bool) := (.opt (F_strings_CutPrefix n x0 (⟨#[39]⟩ : ByteArray)) fun r57 => (.ask (r57.2) (.opt (F_impl_ValueOk n (2 : Int) (0 : Int) r57.1) fun r58 => (.ask ((!r58)) (.done ((0 : Int), (0 : Int), (⟨#[]⟩ : ByteArray), false)) (.opt (F_impl_valueText n (2 : Int) (0 : Int) r57.1) fun r59 => (.ask ((!(r59.toList == x0.toList))) (.done ((0 : Int), (0 : Int), (⟨#[]⟩ : ByteArray), false)) (.done ((2 : Int), (0 : Int), r57.1, true)))))) (.ask ((x0.toList == (⟨#[70, 65, 76, 83, 69]⟩ : ByteArray).toList)) (.opt (F_impl_truth n (x0.toList == (⟨#[84, 82, 85, 69]⟩ : ByteArray).toList)) fun r60 => (.opt (F_impl_ValueOk n r60.1 r60.2.1 r60.2.2) fun r61 => (.ask ((!r61)) (.done ((0 : Int), (0 : Int), (⟨#[]⟩ : ByteArray), false)) (.opt (F_impl_valueText n r60.1 r60.2.1 r60.2.2) fun r62 => (.ask ((!(r62.toList == x0.toList))) (.done ((0 : Int), (0 : Int), (⟨#[]⟩ : ByteArray), false)) (.done (r60.1, r60.2.1, r60.2.2, true))))))) (.ask ((x0.toList == (⟨#[84, 82, 85, 69]⟩ : ByteArray).toList)) (.opt (F_impl_truth n (x0.toList == (⟨#[84, 82, 85, 69]⟩ : ByteArray).toList)) fun r63 => (.opt (F_impl_ValueOk n r63.1 r63.2.1 r63.2.2) fun r64 => (.ask ((!r64)) (.done ((0 : Int), (0 : Int), (⟨#[]⟩ : ByteArray), false)) (.opt (F_impl_valueText n r63.1 r63.2.1 r63.2.2) fun r65 => (.ask ((!(r65.toList == x0.toList))) (.done ((0 : Int), (0 : Int), (⟨#[]⟩ : ByteArray), false)) (.done (r63.1, r63.2.1, r63.2.2, true))))))) (.opt (F_strings_HasPrefix n x0 (⟨#[35]⟩ : ByteArray)) fun r67 => (.ask (r67) (.opt (loopF (B_impl_ReadValue_3837 n) n (x0, (1 : Int), (0 : Int), (0 : Int), (⟨#[]⟩ : ByteArray), (0 : Int), (0 : Int), (⟨#[]⟩ : ByteArray))) fun r70 => (.opt (F_impl_ValueOk n r70.2.2.2.2.1 r70.2.2.2.2.2.1 r70.2.2.2.2.2.2) fun r71 => (.ask ((!r71)) (.done ((0 : Int), (0 : Int), (⟨#[]⟩ : ByteArray), false)) (.opt (F_impl_valueText n r70.2.2.2.2.1 r70.2.2.2.2.2.1 r70.2.2.2.2.2.2) fun r72 => (.ask ((!(r72.toList == r70.1.toList))) (.done ((0 : Int), (0 : Int), (⟨#[]⟩ : ByteArray), false)) (.done (r70.2.2.2.2.1, r70.2.2.2.2.2.1, r70.2.2.2.2.2.2, true))))))) (.ask ((!(x0.toList == (⟨#[]⟩ : ByteArray).toList))) (.opt (F_strconv_ParseInt n x0 (10 : Int) (64 : Int)) fun r73 => (.alt r73 (fun r74 => (.opt (F_impl_number n r74) fun r76 => (.opt (F_impl_ValueOk n r76.1 r76.2.1 r76.2.2) fun r77 => (.ask ((!r77)) (.done ((0 : Int), (0 : Int), (⟨#[]⟩ : ByteArray), false)) (.opt (F_impl_valueText n r76.1 r76.2.1 r76.2.2) fun r78 => (.ask ((!(r78.toList == x0.toList))) (.done ((0 : Int), (0 : Int), (⟨#[]⟩ : ByteArray), false)) (.done (r76.1, r76.2.1, r76.2.2, true)))))))) (fun r75 => (.opt (F_impl_number n r75) fun r79 => (.opt (F_impl_ValueOk n r79.1 r79.2.1 r79.2.2) fun r80 => (.ask ((!r80)) (.done ((0 : Int), (0 : Int), (⟨#[]⟩ : ByteArray), false)) (.opt (F_impl_valueText n r79.1 r79.2.1 r79.2.2) fun r81 => (.ask ((!(r81.toList == x0.toList))) (.done ((0 : Int), (0 : Int), (⟨#[]⟩ : ByteArray), false)) (.done (r79.1, r79.2.1, r79.2.2, true)))))))))) (.opt (F_impl_ValueOk n (0 : Int) (0 : Int) (⟨#[]⟩ : ByteArray)) fun r82 => (.ask ((!r82)) (.done ((0 : Int), (0 : Int), (⟨#[]⟩ : ByteArray), false)) (.opt (F_impl_valueText n (0 : Int) (0 : Int) (⟨#[]⟩ : ByteArray)) fun r83 => (.ask ((!(r83.toList == x0.toList))) (.done ((0 : Int), (0 : Int), (⟨#[]⟩ : ByteArray), false)) (.done ((0 : Int), (0 : Int), (⟨#[]⟩ : ByteArray), true)))))))))))))
def F_impl_ReadValue : Nat → ByteArray → Option (Int × Int × ByteArray × Bool)
  | 0, _ => none
  | n + 1, x0 => (T_impl_ReadValue n x0).run
theorem ft_impl_ReadValue (n : Nat) (x0 : ByteArray) : funT (CT_impl_ReadValue n) (LT_impl_ReadValue n) K_impl_ReadValue (A_impl_ReadValue x0) (U_impl_ReadValue x0) = (T_impl_ReadValue n x0).bind fun r => .done (O_impl_ReadValue r) := by kernel_rfl
theorem ct_impl_ReadValue (n : Nat) : CTok (CT_impl_ReadValue n) (runs KP lib n) := mkCT_cons (eo_strings_CutPrefix n (noEnt_ok)) (mkCT_cons (eo_impl_ValueOk n (noEnt_ok)) (mkCT_cons (eo_impl_valueText n (noEnt_ok)) (mkCT_cons (eo_impl_truth n (noEnt_ok)) (mkCT_cons (eo_strings_HasPrefix n (noEnt_ok)) (mkCT_cons (eo_impl_errorText n (noEnt_ok)) (mkCT_cons (eo_impl_fault n (noEnt_ok)) (mkCT_cons (eo_strconv_ParseInt n (noEnt_ok)) (mkCT_cons (eo_impl_number n (noEnt_ok)) (mkCT_nil)))))))))
theorem lt_impl_ReadValue_3837 (n : Nat) (v : ByteArray × Int × Int × Int × ByteArray × Int × Int × ByteArray) : (evalCT (CT_impl_ReadValue n) (mkLT []) K_impl_ReadValue_L3837 (S_impl_ReadValue_3837 v) []).bind (ltail [0, 2, 4, 7] [(.ret, [2, 3]), ((.exit 1), [0, 2, 4]), ((.exit 0), [0, 2, 4])]) = (B_impl_ReadValue_3837 n v).bind (lenc S_impl_ReadValue_3837 D_impl_ReadValue_3837) := by
  obtain ⟨w0, w1, w2, w3, w4, w5, w6, w7⟩ := v
  kernel_rfl
theorem le_impl_ReadValue_3837 (n : Nat) : LEok (runs KP lib n) n (3837, [0, 2, 4, 7], [(.ret, [2, 3]), ((.exit 1), [0, 2, 4]), ((.exit 0), [0, 2, 4])], K_impl_ReadValue_L3837) (LE_impl_ReadValue_3837 n) := fun st e s h =>
  lent_ok (ct_impl_ReadValue n) (noLoops rfl) (lt_impl_ReadValue_3837 n) (fun r h => by cases h) (fun r y h => by cases h; rfl) (fun hs v h => by
    unfold VH_impl_ReadValue_3837 at h
    split at h <;> cases h
    rfl) h
theorem lo_impl_ReadValue (n : Nat) : LTok (LT_impl_ReadValue n) (runs KP lib n) n K_impl_ReadValue.body := mkLT_ok (by
  intro x hx
  have hx : x ∈ ([(3837, [0, 2, 4, 7], [(.ret, [2, 3]), ((.exit 1), [0, 2, 4]), ((.exit 0), [0, 2, 4])], K_impl_ReadValue_L3837)] : List (Nat × List Nat × List (Ex × List Nat) × KCode)) := hx
  simp only [List.mem_cons, List.not_mem_nil, or_false] at hx
  rcases hx with rfl
  · exact ⟨LE_impl_ReadValue_3837 n, fun st => rfl, le_impl_ReadValue_3837 n⟩)
theorem th_impl_ReadValue : ∀ (n : Nat) (x0 : ByteArray) (r : Int × Int × ByteArray × Bool), F_impl_ReadValue n x0 = some r → runs KP lib n 18 (A_impl_ReadValue x0) (U_impl_ReadValue x0) = some (O_impl_ReadValue r)
  | 0, x0, r, h => by cases h
  | n + 1, x0, r, h => fun_step (kf := K_impl_ReadValue) rfl (ct_impl_ReadValue n) (lo_impl_ReadValue n) (ft_impl_ReadValue n x0) h
def FH_impl_ReadValue (n : Nat) : Cont → Option (Int × Int × ByteArray × Bool)
  | ([[[.s x0]]], []) => F_impl_ReadValue n x0
  | _ => none
def E_impl_ReadValue (n : Nat) (d : List AV → List Go.Eng.Frame → Tr Res) : List AV → List Go.Eng.Frame → Tr Res := cent (A_impl_ReadValue (⟨#[]⟩)) (U_impl_ReadValue (⟨#[]⟩)) (FH_impl_ReadValue n) O_impl_ReadValue d
theorem eo_impl_ReadValue (n : Nat) {d : List AV → List Go.Eng.Frame → Tr Res} (hd : ∀ ar up r, (d ar up).run = some r → runs KP lib n 18 ar up = some r) : ∀ ar up r, (E_impl_ReadValue n d ar up).run = some r → runs KP lib n 18 ar up = some r :=
  cent_ok (fun hs r h => by
    unfold FH_impl_ReadValue at h
    split at h
    · exact ⟨A_impl_ReadValue _, U_impl_ReadValue _, rfl, rfl, th_impl_ReadValue n _ r h⟩
    · cases h) hd
/-! ### spec.l1In -/
def A_spec_l1In (x0 : Int) (x1 : Int) (x2 : Int) : List AV := [(.c (.p (.i .i64 x0))), (.c (.p (.i .i64 x1))), (.c (.p (.i .i64 x2)))]
def U_spec_l1In (x0 : Int) (x1 : Int) (x2 : Int) : List Go.Eng.Frame := []
def O_spec_l1In (r : Bool) : Res := ⟨(.c (.p (.b r))), [], []⟩
abbrev CT_spec_l1In (n : Nat) : CTab := mkCT []
abbrev LT_spec_l1In (n : Nat) : LTab := mkLT []
def T_spec_l1In (n : Nat) (x0 : Int) (x1 : Int) (x2 : Int) : Tr (Bool) := (.ask ((decide (x0 ≥ x1))) (.done (decide (x0 ≤ x2))) (.done false))
def F_spec_l1In : Nat → Int → Int → Int → Option (Bool)
  | 0, _, _, _ => none
  | n + 1, x0, x1, x2 => (T_spec_l1In n x0 x1 x2).run
theorem ft_spec_l1In (n : Nat) (x0 : Int) (x1 : Int) (x2 : Int) : funT (CT_spec_l1In n) (LT_spec_l1In n) K_spec_l1In (A_spec_l1In x0 x1 x2) (U_spec_l1In x0 x1 x2) = (T_spec_l1In n x0 x1 x2).bind fun r => .done (O_spec_l1In r) := by kernel_rfl
theorem ct_spec_l1In (n : Nat) : CTok (CT_spec_l1In n) (runs KP lib n) := mkCT_nil
theorem th_spec_l1In : ∀ (n : Nat) (x0 : Int) (x1 : Int) (x2 : Int) (r : Bool), F_spec_l1In n x0 x1 x2 = some r → runs KP lib n 44 (A_spec_l1In x0 x1 x2) (U_spec_l1In x0 x1 x2) = some (O_spec_l1In r)
  | 0, x0, x1, x2, r, h => by cases h
  | n + 1, x0, x1, x2, r, h => fun_step (kf := K_spec_l1In) rfl (ct_spec_l1In n) (noLoops rfl) (ft_spec_l1In n x0 x1 x2) h
def FH_spec_l1In (n : Nat) : Cont → Option (Bool)
  | ([[[.i x0]], [[.i x1]], [[.i x2]]], []) => F_spec_l1In n x0 x1 x2
  | _ => none
def E_spec_l1In (n : Nat) (d : List AV → List Go.Eng.Frame → Tr Res) : List AV → List Go.Eng.Frame → Tr Res := cent (A_spec_l1In (0) (0) (0)) (U_spec_l1In (0) (0) (0)) (FH_spec_l1In n) O_spec_l1In d
theorem eo_spec_l1In (n : Nat) {d : List AV → List Go.Eng.Frame → Tr Res} (hd : ∀ ar up r, (d ar up).run = some r → runs KP lib n 44 ar up = some r) : ∀ ar up r, (E_spec_l1In n d ar up).run = some r → runs KP lib n 44 ar up = some r :=
  cent_ok (fun hs r h => by
    unfold FH_spec_l1In at h
    split at h
    · exact ⟨A_spec_l1In _ _ _, U_spec_l1In _ _ _, rfl, rfl, th_spec_l1In n _ _ _ r h⟩
    · cases h) hd
/-! ### spec.l2Plain -/
def A_spec_l2Plain (x0 : ByteArray) : List AV := [(.c (.p (.s x0)))]
def U_spec_l2Plain (x0 : ByteArray) : List Go.Eng.Frame := []
def O_spec_l2Plain (r : Bool) : Res := ⟨(.c (.p (.b r))), [], []⟩
abbrev CT_spec_l2Plain (n : Nat) : CTab := mkCT []
def S_spec_l2Plain_13 (v : ByteArray × Int) : St := ⟨[(0, (.c (.p (.s v.1)))), (3, (.c (.p (.i .i64 v.2))))], [], []⟩
def B_spec_l2Plain_13 (n : Nat) (v : ByteArray × Int) : Tr ((ByteArray × Int) ⊕ ((Bool) ⊕ (ByteArray))) := (.ask ((decide (v.2 < (v.1.size : Int)))) (.ask (decide (0 ≤ v.2)) (.opt (v.1.toList[(v.2).toNat]?) fun c86 => (.ask ((decide ((c86.toNat : Int) < (32 : Int)))) (.done (.inr (.inl (false)))) (.ask (decide (0 ≤ v.2)) (.opt (v.1.toList[(v.2).toNat]?) fun c87 => (.ask ((decide ((c87.toNat : Int) > (126 : Int)))) (.done (.inr (.inl (false)))) (.done (.inl (v.1, (IntKind.i64.wrap (v.2 + (1 : Int)))))))) .fail))) .fail) (.done (.inr (.inr (v.1)))))
def D_spec_l2Plain_13 : ((Bool) ⊕ (ByteArray)) → Ex × St := fun | .inl r => (.ret, ⟨[(2, (.c (.p (.b r))))], [], []⟩) | .inr r => (fun r => ((.exit 0), ⟨[(0, (.c (.p (.s r))))], [], []⟩)) r
def DT_spec_l2Plain_13 : ((Bool) ⊕ (ByteArray)) → Tr (Ex × St) := fun r => .alt r (fun r => .done (.ret, ⟨[(2, (.c (.p (.b r))))], [], []⟩)) (fun r => .done ((.exit 0), ⟨[(0, (.c (.p (.s r))))], [], []⟩))
def VH_spec_l2Plain_13 : Cont3 → Option (ByteArray × Int)
  | ([[[.s w0]], [[.i w1]]], [], []) => some (w0, w1)
  | _ => none
abbrev LE_spec_l2Plain_13 (n : Nat) : St → Tr (Ex × St) := lent (S_spec_l2Plain_13 (⟨#[]⟩, 0)) VH_spec_l2Plain_13 (B_spec_l2Plain_13 n) DT_spec_l2Plain_13 n
abbrev LT_spec_l2Plain (n : Nat) : LTab := mkLT [(13, LE_spec_l2Plain_13 n)]
def T_spec_l2Plain (n : Nat) (x0 : ByteArray) : Tr (Bool) := (.opt (loopF (B_spec_l2Plain_13 n) n (x0, (0 : Int))) fun r88 => (.alt r88 (fun r89 => (.done r89)) (fun r90 => (.done (decide ((r90.size : Int) ≤ (200 : Int)))))))
def F_spec_l2Plain : Nat → ByteArray → Option (Bool)
  | 0, _ => none
  | n + 1, x0 => (T_spec_l2Plain n x0).run
theorem ft_spec_l2Plain (n : Nat) (x0 : ByteArray) : funT (CT_spec_l2Plain n) (LT_spec_l2Plain n) K_spec_l2Plain (A_spec_l2Plain x0) (U_spec_l2Plain x0) = (T_spec_l2Plain n x0).bind fun r => .done (O_spec_l2Plain r) := by kernel_rfl
theorem ct_spec_l2Plain (n : Nat) : CTok (CT_spec_l2Plain n) (runs KP lib n) := mkCT_nil
theorem lt_spec_l2Plain_13 (n : Nat) (v : ByteArray × Int) : (evalCT (CT_spec_l2Plain n) (mkLT []) K_spec_l2Plain_L13 (S_spec_l2Plain_13 v) []).bind (ltail [0, 3] [(.ret, [2]), ((.exit 0), [0])]) = (B_spec_l2Plain_13 n v).bind (lenc S_spec_l2Plain_13 D_spec_l2Plain_13) := by
  obtain ⟨w0, w1⟩ := v
  kernel_rfl
theorem le_spec_l2Plain_13 (n : Nat) : LEok (runs KP lib n) n (13, [0, 3], [(.ret, [2]), ((.exit 0), [0])], K_spec_l2Plain_L13) (LE_spec_l2Plain_13 n) := fun st e s h =>
  lent_ok (ct_spec_l2Plain n) (noLoops rfl) (lt_spec_l2Plain_13 n) (fun r => by
    rcases r with r | r <;> (intro h; cases h)) (fun r y h => by
    rcases r with r | r <;> (cases h; rfl)) (fun hs v h => by
    unfold VH_spec_l2Plain_13 at h
    split at h <;> cases h
    rfl) h
theorem lo_spec_l2Plain (n : Nat) : LTok (LT_spec_l2Plain n) (runs KP lib n) n K_spec_l2Plain.body := mkLT_ok (by
  intro x hx
  have hx : x ∈ ([(13, [0, 3], [(.ret, [2]), ((.exit 0), [0])], K_spec_l2Plain_L13)] : List (Nat × List Nat × List (Ex × List Nat) × KCode)) := hx
  simp only [List.mem_cons, List.not_mem_nil, or_false] at hx
  rcases hx with rfl
  · exact ⟨LE_spec_l2Plain_13 n, fun st => rfl, le_spec_l2Plain_13 n⟩)
theorem th_spec_l2Plain : ∀ (n : Nat) (x0 : ByteArray) (r : Bool), F_spec_l2Plain n x0 = some r → runs KP lib n 45 (A_spec_l2Plain x0) (U_spec_l2Plain x0) = some (O_spec_l2Plain r)
  | 0, x0, r, h => by cases h
  | n + 1, x0, r, h => fun_step (kf := K_spec_l2Plain) rfl (ct_spec_l2Plain n) (lo_spec_l2Plain n) (ft_spec_l2Plain n x0) h
def FH_spec_l2Plain (n : Nat) : Cont → Option (Bool)
  | ([[[.s x0]]], []) => F_spec_l2Plain n x0
  | _ => none
def E_spec_l2Plain (n : Nat) (d : List AV → List Go.Eng.Frame → Tr Res) : List AV → List Go.Eng.Frame → Tr Res := cent (A_spec_l2Plain (⟨#[]⟩)) (U_spec_l2Plain (⟨#[]⟩)) (FH_spec_l2Plain n) O_spec_l2Plain d
theorem eo_spec_l2Plain (n : Nat) {d : List AV → List Go.Eng.Frame → Tr Res} (hd : ∀ ar up r, (d ar up).run = some r → runs KP lib n 45 ar up = some r) : ∀ ar up r, (E_spec_l2Plain n d ar up).run = some r → runs KP lib n 45 ar up = some r :=
  cent_ok (fun hs r h => by
    unfold FH_spec_l2Plain at h
    split at h
    · exact ⟨A_spec_l2Plain _, U_spec_l2Plain _, rfl, rfl, th_spec_l2Plain n _ r h⟩
    · cases h) hd
/-! ### spec.ValueOk -/
def A_spec_ValueOk (x0 : Int) (x1 : Int) (x2 : ByteArray) : List AV := [(.agg [(.p (.i .i64 x0)), (.p (.i .i64 x1)), (.p (.s x2))])]
def U_spec_ValueOk (x0 : Int) (x1 : Int) (x2 : ByteArray) : List Go.Eng.Frame := []
def O_spec_ValueOk (r : Bool) : Res := ⟨(.c (.p (.b r))), [], []⟩
abbrev CT_spec_ValueOk (n : Nat) : CTab := mkCT [(44, E_spec_l1In n (noEnt)), (45, E_spec_l2Plain n (noEnt))]
abbrev LT_spec_ValueOk (n : Nat) : LTab := mkLT []
def T_spec_ValueOk (n : Nat) (x0 : Int) (x1 : Int) (x2 : ByteArray) : Tr (Bool) := (.ask ((x0 == (0 : Int))) (.ask ((x1 == (0 : Int))) (.done (x2.toList == (⟨#[]⟩ : ByteArray).toList)) (.done false)) (.ask ((x0 == (1 : Int))) (.opt (F_spec_l1In n x1 (-1000000000000000 : Int) (1000000000000000 : Int)) fun r85 => (.ask (r85) (.done (x2.toList == (⟨#[]⟩ : ByteArray).toList)) (.done false))) (.ask ((x0 == (2 : Int))) (.ask ((x1 == (0 : Int))) (.opt (F_spec_l2Plain n x2) fun r91 => (.done r91)) (.done false)) (.ask ((x0 == (3 : Int))) (.opt (F_spec_l1In n x1 (0 : Int) (1 : Int)) fun r92 => (.ask (r92) (.done (x2.toList == (⟨#[]⟩ : ByteArray).toList)) (.done false))) (.ask ((x0 == (4 : Int))) (.opt (F_spec_l1In n x1 (1 : Int) (5 : Int)) fun r93 => (.ask (r93) (.done (x2.toList == (⟨#[]⟩ : ByteArray).toList)) (.done false))) (.done false))))))
def F_spec_ValueOk : Nat → Int → Int → ByteArray → Option (Bool)
  | 0, _, _, _ => none
  | n + 1, x0, x1, x2 => (T_spec_ValueOk n x0 x1 x2).run
theorem ft_spec_ValueOk (n : Nat) (x0 : Int) (x1 : Int) (x2 : ByteArray) : funT (CT_spec_ValueOk n) (LT_spec_ValueOk n) K_spec_ValueOk (A_spec_ValueOk x0 x1 x2) (U_spec_ValueOk x0 x1 x2) = (T_spec_ValueOk n x0 x1 x2).bind fun r => .done (O_spec_ValueOk r) := by kernel_rfl
theorem ct_spec_ValueOk (n : Nat) : CTok (CT_spec_ValueOk n) (runs KP lib n) := mkCT_cons (eo_spec_l1In n (noEnt_ok)) (mkCT_cons (eo_spec_l2Plain n (noEnt_ok)) (mkCT_nil))
theorem th_spec_ValueOk : ∀ (n : Nat) (x0 : Int) (x1 : Int) (x2 : ByteArray) (r : Bool), F_spec_ValueOk n x0 x1 x2 = some r → runs KP lib n 21 (A_spec_ValueOk x0 x1 x2) (U_spec_ValueOk x0 x1 x2) = some (O_spec_ValueOk r)
  | 0, x0, x1, x2, r, h => by cases h
  | n + 1, x0, x1, x2, r, h => fun_step (kf := K_spec_ValueOk) rfl (ct_spec_ValueOk n) (noLoops rfl) (ft_spec_ValueOk n x0 x1 x2) h
def FH_spec_ValueOk (n : Nat) : Cont → Option (Bool)
  | ([[[.i x0], [.i x1], [.s x2]]], []) => F_spec_ValueOk n x0 x1 x2
  | _ => none
def E_spec_ValueOk (n : Nat) (d : List AV → List Go.Eng.Frame → Tr Res) : List AV → List Go.Eng.Frame → Tr Res := cent (A_spec_ValueOk (0) (0) (⟨#[]⟩)) (U_spec_ValueOk (0) (0) (⟨#[]⟩)) (FH_spec_ValueOk n) O_spec_ValueOk d
theorem eo_spec_ValueOk (n : Nat) {d : List AV → List Go.Eng.Frame → Tr Res} (hd : ∀ ar up r, (d ar up).run = some r → runs KP lib n 21 ar up = some r) : ∀ ar up r, (E_spec_ValueOk n d ar up).run = some r → runs KP lib n 21 ar up = some r :=
  cent_ok (fun hs r h => by
    unfold FH_spec_ValueOk at h
    split at h
    · exact ⟨A_spec_ValueOk _ _ _, U_spec_ValueOk _ _ _, rfl, rfl, th_spec_ValueOk n _ _ _ r h⟩
    · cases h) hd
/-! ### spec.l1Dec -/
def A_spec_l1Dec (x0 : Int) : List AV := [(.c (.p (.i .i64 x0)))]
def U_spec_l1Dec (x0 : Int) : List Go.Eng.Frame := []
def O_spec_l1Dec (r : ByteArray) : Res := ⟨(.c (.p (.s r))), [], []⟩
def FHr_spec_l1Dec (rec : Int → Option (ByteArray)) : Cont → Option (ByteArray)
  | ([[[.i x0]]], []) => rec x0
  | _ => none
abbrev CT_spec_l1Dec (rec : Int → Option (ByteArray)) (n : Nat) : CTab := mkCT [(29, cent (A_spec_l1Dec (0)) (U_spec_l1Dec (0)) (fun hs => FHr_spec_l1Dec rec hs) O_spec_l1Dec (noEnt))]
def S_spec_l1Dec_30 (v : Int × ByteArray) : St := ⟨[(0, (.c (.p (.i .i64 v.1)))), (3, (.c (.p (.s v.2))))], [], []⟩
def B_spec_l1Dec_30 (n : Nat) (v : Int × ByteArray) : Tr ((Int × ByteArray) ⊕ ((Int × ByteArray))) := (.ask ((decide (v.1 ≥ (10 : Int)))) (.ask (decide (1 = ([[(.i .u8 (IntKind.u8.wrap (IntKind.i64.wrap ((48 : Int) + (Int.tmod v.1 (10 : Int))))))]] : List (List PV)).length)) (.opt (bytesOf ([[(.i .u8 (IntKind.u8.wrap (IntKind.i64.wrap ((48 : Int) + (Int.tmod v.1 (10 : Int))))))]] : List (List PV))) fun l97 => (.ask (decide ((⟨l97.toArray⟩ : ByteArray).size + v.2.size ≤ 9223372036854775807)) (.done (.inl ((IntKind.i64.wrap (Int.tdiv v.1 (10 : Int))), ((⟨l97.toArray⟩ : ByteArray) ++ v.2)))) .fail)) .fail) (.done (.inr ((v.1, v.2)))))
def D_spec_l1Dec_30 : (Int × ByteArray) → Ex × St := fun r => ((.exit 0), ⟨[(0, (.c (.p (.i .i64 r.1)))), (3, (.c (.p (.s r.2))))], [], []⟩)
def DT_spec_l1Dec_30 : (Int × ByteArray) → Tr (Ex × St) := fun r => .done ((.exit 0), ⟨[(0, (.c (.p (.i .i64 r.1)))), (3, (.c (.p (.s r.2))))], [], []⟩)
def VH_spec_l1Dec_30 : Cont3 → Option (Int × ByteArray)
  | ([[[.i w0]], [[.s w1]]], [], []) => some (w0, w1)
  | _ => none
abbrev LE_spec_l1Dec_30 (n : Nat) : St → Tr (Ex × St) := lent (S_spec_l1Dec_30 (0, ⟨#[]⟩)) VH_spec_l1Dec_30 (B_spec_l1Dec_30 n) DT_spec_l1Dec_30 n
abbrev LT_spec_l1Dec (rec : Int → Option (ByteArray)) (n : Nat) : LTab := mkLT [(30, LE_spec_l1Dec_30 n)]
def T_spec_l1Dec (rec : Int → Option (ByteArray)) (n : Nat) (x0 : Int) : Tr (ByteArray) := (.ask ((decide (x0 < (0 : Int)))) (.opt (rec (IntKind.i64.wrap (0 - x0))) fun r96 => (.ask (decide ((⟨#[45]⟩ : ByteArray).size + r96.size ≤ 9223372036854775807)) (.done ((⟨#[45]⟩ : ByteArray) ++ r96)) .fail)) (.opt (loopF (B_spec_l1Dec_30 n) n (x0, (⟨#[]⟩ : ByteArray))) fun r98 => (.ask (decide (1 = ([[(.i .u8 (IntKind.u8.wrap (IntKind.i64.wrap ((48 : Int) + r98.1))))]] : List (List PV)).length)) (.opt (bytesOf ([[(.i .u8 (IntKind.u8.wrap (IntKind.i64.wrap ((48 : Int) + r98.1))))]] : List (List PV))) fun l99 => (.ask (decide ((⟨l99.toArray⟩ : ByteArray).size + r98.2.size ≤ 9223372036854775807)) (.done ((⟨l99.toArray⟩ : ByteArray) ++ r98.2)) .fail)) .fail)))
def F_spec_l1Dec : Nat → Int → Option (ByteArray)
  | 0, _ => none
  | n + 1, x0 => (T_spec_l1Dec (F_spec_l1Dec n) n x0).run
theorem ft_spec_l1Dec (rec : Int → Option (ByteArray)) (n : Nat) (x0 : Int) : funT (CT_spec_l1Dec rec n) (LT_spec_l1Dec rec n) K_spec_l1Dec (A_spec_l1Dec x0) (U_spec_l1Dec x0) = (T_spec_l1Dec rec n x0).bind fun r => .done (O_spec_l1Dec r) := by kernel_rfl
theorem ct_spec_l1Dec (n : Nat) (ih : ∀ (x0 : Int) r, F_spec_l1Dec n x0 = some r → runs KP lib n 29 (A_spec_l1Dec x0) (U_spec_l1Dec x0) = some (O_spec_l1Dec r)) : CTok (CT_spec_l1Dec (F_spec_l1Dec n) n) (runs KP lib n) := mkCT_cons (cent_ok (fun hs r h => by
    unfold FHr_spec_l1Dec at h
    split at h
    · exact ⟨A_spec_l1Dec _, U_spec_l1Dec _, rfl, rfl, ih _ r h⟩
    · cases h) (noEnt_ok)) (mkCT_nil)
theorem lt_spec_l1Dec_30 (n : Nat) (v : Int × ByteArray) : (evalCT (CT_spec_l1Dec (F_spec_l1Dec n) n) (mkLT []) K_spec_l1Dec_L30 (S_spec_l1Dec_30 v) []).bind (ltail [0, 3] [(.ret, [2]), ((.exit 0), [0, 3])]) = (B_spec_l1Dec_30 n v).bind (lenc S_spec_l1Dec_30 D_spec_l1Dec_30) := by
  obtain ⟨w0, w1⟩ := v
  kernel_rfl
theorem le_spec_l1Dec_30 (n : Nat) (ih : ∀ (x0 : Int) r, F_spec_l1Dec n x0 = some r → runs KP lib n 29 (A_spec_l1Dec x0) (U_spec_l1Dec x0) = some (O_spec_l1Dec r)) : LEok (runs KP lib n) n (30, [0, 3], [(.ret, [2]), ((.exit 0), [0, 3])], K_spec_l1Dec_L30) (LE_spec_l1Dec_30 n) := fun st e s h =>
  lent_ok (ct_spec_l1Dec n ih) (noLoops rfl) (lt_spec_l1Dec_30 n) (fun r h => by cases h) (fun r y h => by cases h; rfl) (fun hs v h => by
    unfold VH_spec_l1Dec_30 at h
    split at h <;> cases h
    rfl) h
theorem lo_spec_l1Dec (n : Nat) (ih : ∀ (x0 : Int) r, F_spec_l1Dec n x0 = some r → runs KP lib n 29 (A_spec_l1Dec x0) (U_spec_l1Dec x0) = some (O_spec_l1Dec r)) : LTok (LT_spec_l1Dec (F_spec_l1Dec n) n) (runs KP lib n) n K_spec_l1Dec.body := mkLT_ok (by
  intro x hx
  have hx : x ∈ ([(30, [0, 3], [(.ret, [2]), ((.exit 0), [0, 3])], K_spec_l1Dec_L30)] : List (Nat × List Nat × List (Ex × List Nat) × KCode)) := hx
  simp only [List.mem_cons, List.not_mem_nil, or_false] at hx
  rcases hx with rfl
  · exact ⟨LE_spec_l1Dec_30 n, fun st => rfl, le_spec_l1Dec_30 n ih⟩)
theorem th_spec_l1Dec : ∀ (n : Nat) (x0 : Int) (r : ByteArray), F_spec_l1Dec n x0 = some r → runs KP lib n 29 (A_spec_l1Dec x0) (U_spec_l1Dec x0) = some (O_spec_l1Dec r)
  | 0, x0, r, h => by cases h
  | n + 1, x0, r, h => fun_step (kf := K_spec_l1Dec) rfl (ct_spec_l1Dec n (th_spec_l1Dec n)) (lo_spec_l1Dec n (th_spec_l1Dec n)) (ft_spec_l1Dec (F_spec_l1Dec n) n x0) h
def FH_spec_l1Dec (n : Nat) : Cont → Option (ByteArray)
  | ([[[.i x0]]], []) => F_spec_l1Dec n x0
  | _ => none
def E_spec_l1Dec (n : Nat) (d : List AV → List Go.Eng.Frame → Tr Res) : List AV → List Go.Eng.Frame → Tr Res := cent (A_spec_l1Dec (0)) (U_spec_l1Dec (0)) (FH_spec_l1Dec n) O_spec_l1Dec d
theorem eo_spec_l1Dec (n : Nat) {d : List AV → List Go.Eng.Frame → Tr Res} (hd : ∀ ar up r, (d ar up).run = some r → runs KP lib n 29 ar up = some r) : ∀ ar up r, (E_spec_l1Dec n d ar up).run = some r → runs KP lib n 29 ar up = some r :=
  cent_ok (fun hs r h => by
    unfold FH_spec_l1Dec at h
    split at h
    · exact ⟨A_spec_l1Dec _, U_spec_l1Dec _, rfl, rfl, th_spec_l1Dec n _ r h⟩
    · cases h) hd
/-! ### spec.l2Bool -/
def A_spec_l2Bool (x0 : Int) : List AV := [(.c (.p (.i .i64 x0)))]
def U_spec_l2Bool (x0 : Int) : List Go.Eng.Frame := []
def O_spec_l2Bool (r : ByteArray) : Res := ⟨(.c (.p (.s r))), [], []⟩
abbrev CT_spec_l2Bool (n : Nat) : CTab := mkCT []
abbrev LT_spec_l2Bool (n : Nat) : LTab := mkLT []
def T_spec_l2Bool (n : Nat) (x0 : Int) : Tr (ByteArray) := (.ask ((x0 == (1 : Int))) (.done (⟨#[84, 82, 85, 69]⟩ : ByteArray)) (.done (⟨#[70, 65, 76, 83, 69]⟩ : ByteArray)))
def F_spec_l2Bool : Nat → Int → Option (ByteArray)
  | 0, _ => none
  | n + 1, x0 => (T_spec_l2Bool n x0).run
theorem ft_spec_l2Bool (n : Nat) (x0 : Int) : funT (CT_spec_l2Bool n) (LT_spec_l2Bool n) K_spec_l2Bool (A_spec_l2Bool x0) (U_spec_l2Bool x0) = (T_spec_l2Bool n x0).bind fun r => .done (O_spec_l2Bool r) := by kernel_rfl
theorem ct_spec_l2Bool (n : Nat) : CTok (CT_spec_l2Bool n) (runs KP lib n) := mkCT_nil
theorem th_spec_l2Bool : ∀ (n : Nat) (x0 : Int) (r : ByteArray), F_spec_l2Bool n x0 = some r → runs KP lib n 30 (A_spec_l2Bool x0) (U_spec_l2Bool x0) = some (O_spec_l2Bool r)
  | 0, x0, r, h => by cases h
  | n + 1, x0, r, h => fun_step (kf := K_spec_l2Bool) rfl (ct_spec_l2Bool n) (noLoops rfl) (ft_spec_l2Bool n x0) h
def FH_spec_l2Bool (n : Nat) : Cont → Option (ByteArray)
  | ([[[.i x0]]], []) => F_spec_l2Bool n x0
  | _ => none
def E_spec_l2Bool (n : Nat) (d : List AV → List Go.Eng.Frame → Tr Res) : List AV → List Go.Eng.Frame → Tr Res := cent (A_spec_l2Bool (0)) (U_spec_l2Bool (0)) (FH_spec_l2Bool n) O_spec_l2Bool d
theorem eo_spec_l2Bool (n : Nat) {d : List AV → List Go.Eng.Frame → Tr Res} (hd : ∀ ar up r, (d ar up).run = some r → runs KP lib n 30 ar up = some r) : ∀ ar up r, (E_spec_l2Bool n d ar up).run = some r → runs KP lib n 30 ar up = some r :=
  cent_ok (fun hs r h => by
    unfold FH_spec_l2Bool at h
    split at h
    · exact ⟨A_spec_l2Bool _, U_spec_l2Bool _, rfl, rfl, th_spec_l2Bool n _ r h⟩
    · cases h) hd
/-! ### spec.l2Name -/
def A_spec_l2Name (x0 : Int) : List AV := [(.c (.p (.i .i64 x0)))]
def U_spec_l2Name (x0 : Int) : List Go.Eng.Frame := []
def O_spec_l2Name (r : ByteArray) : Res := ⟨(.c (.p (.s r))), [], []⟩
abbrev CT_spec_l2Name (n : Nat) : CTab := mkCT []
abbrev LT_spec_l2Name (n : Nat) : LTab := mkLT []
def T_spec_l2Name (n : Nat) (x0 : Int) : Tr (ByteArray) := (.ask (decide (6 = ([[(.s (⟨#[]⟩ : ByteArray))], [(.s (⟨#[35, 68, 73, 86, 33]⟩ : ByteArray))], [(.s (⟨#[35, 84, 89, 80, 69, 33]⟩ : ByteArray))], [(.s (⟨#[35, 82, 69, 70, 33]⟩ : ByteArray))], [(.s (⟨#[35, 79, 86, 69, 82, 33]⟩ : ByteArray))], [(.s (⟨#[35, 67, 89, 67, 76, 69, 33]⟩ : ByteArray))]] : List (List PV)).length ∧ 0 ≤ x0 ∧ x0 < ((6 : Nat) : Int))) (.opt (([[(.s (⟨#[]⟩ : ByteArray))], [(.s (⟨#[35, 68, 73, 86, 33]⟩ : ByteArray))], [(.s (⟨#[35, 84, 89, 80, 69, 33]⟩ : ByteArray))], [(.s (⟨#[35, 82, 69, 70, 33]⟩ : ByteArray))], [(.s (⟨#[35, 79, 86, 69, 82, 33]⟩ : ByteArray))], [(.s (⟨#[35, 67, 89, 67, 76, 69, 33]⟩ : ByteArray))]] : List (List PV))[(x0).toNat]?) fun e102 => (.opt (cellS e102 0) fun y103 => (.done y103))) .fail)
def F_spec_l2Name : Nat → Int → Option (ByteArray)
  | 0, _ => none
  | n + 1, x0 => (T_spec_l2Name n x0).run
theorem ft_spec_l2Name (n : Nat) (x0 : Int) : funT (CT_spec_l2Name n) (LT_spec_l2Name n) K_spec_l2Name (A_spec_l2Name x0) (U_spec_l2Name x0) = (T_spec_l2Name n x0).bind fun r => .done (O_spec_l2Name r) := by kernel_rfl
theorem ct_spec_l2Name (n : Nat) : CTok (CT_spec_l2Name n) (runs KP lib n) := mkCT_nil
theorem th_spec_l2Name : ∀ (n : Nat) (x0 : Int) (r : ByteArray), F_spec_l2Name n x0 = some r → runs KP lib n 31 (A_spec_l2Name x0) (U_spec_l2Name x0) = some (O_spec_l2Name r)
  | 0, x0, r, h => by cases h
  | n + 1, x0, r, h => fun_step (kf := K_spec_l2Name) rfl (ct_spec_l2Name n) (noLoops rfl) (ft_spec_l2Name n x0) h
def FH_spec_l2Name (n : Nat) : Cont → Option (ByteArray)
  | ([[[.i x0]]], []) => F_spec_l2Name n x0
  | _ => none
def E_spec_l2Name (n : Nat) (d : List AV → List Go.Eng.Frame → Tr Res) : List AV → List Go.Eng.Frame → Tr Res := cent (A_spec_l2Name (0)) (U_spec_l2Name (0)) (FH_spec_l2Name n) O_spec_l2Name d
theorem eo_spec_l2Name (n : Nat) {d : List AV → List Go.Eng.Frame → Tr Res} (hd : ∀ ar up r, (d ar up).run = some r → runs KP lib n 31 ar up = some r) : ∀ ar up r, (E_spec_l2Name n d ar up).run = some r → runs KP lib n 31 ar up = some r :=
  cent_ok (fun hs r h => by
    unfold FH_spec_l2Name at h
    split at h
    · exact ⟨A_spec_l2Name _, U_spec_l2Name _, rfl, rfl, th_spec_l2Name n _ r h⟩
    · cases h) hd
/-! ### spec.ValueText -/
def A_spec_ValueText (x0 : Int) (x1 : Int) (x2 : ByteArray) : List AV := [(.agg [(.p (.i .i64 x0)), (.p (.i .i64 x1)), (.p (.s x2))])]
def U_spec_ValueText (x0 : Int) (x1 : Int) (x2 : ByteArray) : List Go.Eng.Frame := []
def O_spec_ValueText (r : ByteArray) : Res := ⟨(.c (.p (.s r))), [], []⟩
abbrev CT_spec_ValueText (n : Nat) : CTab := mkCT [(21, E_spec_ValueOk n (noEnt)), (29, E_spec_l1Dec n (noEnt)), (30, E_spec_l2Bool n (noEnt)), (31, E_spec_l2Name n (noEnt))]
abbrev LT_spec_ValueText (n : Nat) : LTab := mkLT []
def T_spec_ValueText (n : Nat) (x0 : Int) (x1 : Int) (x2 : ByteArray) : Tr (ByteArray) := (.opt (F_spec_ValueOk n x0 x1 x2) fun r94 => (.ask ((!r94)) (.done (⟨#[]⟩ : ByteArray)) (.ask ((x0 == (1 : Int))) (.opt (F_spec_l1Dec n x1) fun r100 => (.done r100)) (.ask ((x0 == (2 : Int))) (.ask (decide ((⟨#[39]⟩ : ByteArray).size + x2.size ≤ 9223372036854775807)) (.done ((⟨#[39]⟩ : ByteArray) ++ x2)) .fail) (.ask ((x0 == (3 : Int))) (.opt (F_spec_l2Bool n x1) fun r101 => (.done r101)) (.ask ((x0 == (4 : Int))) (.opt (F_spec_l2Name n x1) fun r104 => (.done r104)) (.done (⟨#[]⟩ : ByteArray))))))))
def F_spec_ValueText : Nat → Int → Int → ByteArray → Option (ByteArray)
  | 0, _, _, _ => none
  | n + 1, x0, x1, x2 => (T_spec_ValueText n x0 x1 x2).run
theorem ft_spec_ValueText (n : Nat) (x0 : Int) (x1 : Int) (x2 : ByteArray) : funT (CT_spec_ValueText n) (LT_spec_ValueText n) K_spec_ValueText (A_spec_ValueText x0 x1 x2) (U_spec_ValueText x0 x1 x2) = (T_spec_ValueText n x0 x1 x2).bind fun r => .done (O_spec_ValueText r) := by kernel_rfl
theorem ct_spec_ValueText (n : Nat) : CTok (CT_spec_ValueText n) (runs KP lib n) := mkCT_cons (eo_spec_ValueOk n (noEnt_ok)) (mkCT_cons (eo_spec_l1Dec n (noEnt_ok)) (mkCT_cons (eo_spec_l2Bool n (noEnt_ok)) (mkCT_cons (eo_spec_l2Name n (noEnt_ok)) (mkCT_nil))))
theorem th_spec_ValueText : ∀ (n : Nat) (x0 : Int) (x1 : Int) (x2 : ByteArray) (r : ByteArray), F_spec_ValueText n x0 x1 x2 = some r → runs KP lib n 15 (A_spec_ValueText x0 x1 x2) (U_spec_ValueText x0 x1 x2) = some (O_spec_ValueText r)
  | 0, x0, x1, x2, r, h => by cases h
  | n + 1, x0, x1, x2, r, h => fun_step (kf := K_spec_ValueText) rfl (ct_spec_ValueText n) (noLoops rfl) (ft_spec_ValueText n x0 x1 x2) h
def FH_spec_ValueText (n : Nat) : Cont → Option (ByteArray)
  | ([[[.i x0], [.i x1], [.s x2]]], []) => F_spec_ValueText n x0 x1 x2
  | _ => none
def E_spec_ValueText (n : Nat) (d : List AV → List Go.Eng.Frame → Tr Res) : List AV → List Go.Eng.Frame → Tr Res := cent (A_spec_ValueText (0) (0) (⟨#[]⟩)) (U_spec_ValueText (0) (0) (⟨#[]⟩)) (FH_spec_ValueText n) O_spec_ValueText d
theorem eo_spec_ValueText (n : Nat) {d : List AV → List Go.Eng.Frame → Tr Res} (hd : ∀ ar up r, (d ar up).run = some r → runs KP lib n 15 ar up = some r) : ∀ ar up r, (E_spec_ValueText n d ar up).run = some r → runs KP lib n 15 ar up = some r :=
  cent_ok (fun hs r h => by
    unfold FH_spec_ValueText at h
    split at h
    · exact ⟨A_spec_ValueText _ _ _, U_spec_ValueText _ _ _, rfl, rfl, th_spec_ValueText n _ _ _ r h⟩
    · cases h) hd
/-! ### spec.DrawReadValue -/
def A_spec_DrawReadValue (x0 : List (List PV)) : List AV := [(.c (.p (.ls x0)))]
def U_spec_DrawReadValue (x0 : List (List PV)) : List Go.Eng.Frame := []
def O_spec_DrawReadValue (r : ByteArray) : Res := ⟨(.c (.p (.s r))), [], []⟩
abbrev CT_spec_DrawReadValue (n : Nat) : CTab := mkCT [(40, E_spec_l1Open n (noEnt)), (41, E_spec_l1Rd_value n (noEnt)), (15, E_spec_ValueText n (noEnt)), (46, E_spec_l1Rd_once n (noEnt)), (47, E_spec_l1Rd_below n (noEnt))]
abbrev LT_spec_DrawReadValue (n : Nat) : LTab := mkLT []
def T_spec_DrawReadValue (n : Nat) (x0 : List (List PV)) : Tr (ByteArray) := (.opt (F_spec_l1Open n x0) fun r109 => (.opt (F_spec_l1Rd_value n r109.1 r109.2) fun r110 => (.opt (F_spec_ValueText n r110.1 r110.2.1 r110.2.2.1) fun r111 => (.opt (F_spec_l1Rd_once n (3 : Int) r110.2.2.2.1 r110.2.2.2.2) fun r112 => (.ask (r112.1) (.opt (F_spec_l1Rd_below n (7 : Int) r112.2.1 r112.2.2) fun r113 => (.ask (decide (7 = ([[(.s (⟨#[48]⟩ : ByteArray))], [(.s (⟨#[45, 48]⟩ : ByteArray))], [(.s (⟨#[35]⟩ : ByteArray))], [(.s (⟨#[84, 82, 85, 69]⟩ : ByteArray))], [(.s (⟨#[39]⟩ : ByteArray))], [(.s (⟨#[1]⟩ : ByteArray))], [(.s (⟨#[32]⟩ : ByteArray))]] : List (List PV)).length ∧ 0 ≤ r113.1 ∧ r113.1 < ((7 : Nat) : Int))) (.opt (([[(.s (⟨#[48]⟩ : ByteArray))], [(.s (⟨#[45, 48]⟩ : ByteArray))], [(.s (⟨#[35]⟩ : ByteArray))], [(.s (⟨#[84, 82, 85, 69]⟩ : ByteArray))], [(.s (⟨#[39]⟩ : ByteArray))], [(.s (⟨#[1]⟩ : ByteArray))], [(.s (⟨#[32]⟩ : ByteArray))]] : List (List PV))[(r113.1).toNat]?) fun e114 => (.opt (cellS e114 0) fun y115 => (.ask (decide (r111.size + y115.size ≤ 9223372036854775807)) (.done (r111 ++ y115)) .fail))) .fail)) (.done r111))))))
def F_spec_DrawReadValue : Nat → List (List PV) → Option (ByteArray)
  | 0, _ => none
  | n + 1, x0 => (T_spec_DrawReadValue n x0).run
theorem ft_spec_DrawReadValue (n : Nat) (x0 : List (List PV)) : funT (CT_spec_DrawReadValue n) (LT_spec_DrawReadValue n) K_spec_DrawReadValue (A_spec_DrawReadValue x0) (U_spec_DrawReadValue x0) = (T_spec_DrawReadValue n x0).bind fun r => .done (O_spec_DrawReadValue r) := by kernel_rfl
theorem ct_spec_DrawReadValue (n : Nat) : CTok (CT_spec_DrawReadValue n) (runs KP lib n) := mkCT_cons (eo_spec_l1Open n (noEnt_ok)) (mkCT_cons (eo_spec_l1Rd_value n (noEnt_ok)) (mkCT_cons (eo_spec_ValueText n (noEnt_ok)) (mkCT_cons (eo_spec_l1Rd_once n (noEnt_ok)) (mkCT_cons (eo_spec_l1Rd_below n (noEnt_ok)) (mkCT_nil)))))
theorem th_spec_DrawReadValue : ∀ (n : Nat) (x0 : List (List PV)) (r : ByteArray), F_spec_DrawReadValue n x0 = some r → runs KP lib n 22 (A_spec_DrawReadValue x0) (U_spec_DrawReadValue x0) = some (O_spec_DrawReadValue r)
  | 0, x0, r, h => by cases h
  | n + 1, x0, r, h => fun_step (kf := K_spec_DrawReadValue) rfl (ct_spec_DrawReadValue n) (noLoops rfl) (ft_spec_DrawReadValue n x0) h
def FH_spec_DrawReadValue (n : Nat) : Cont → Option (ByteArray)
  | ([[[.r x0]]], []) => F_spec_DrawReadValue n x0
  | _ => none
def E_spec_DrawReadValue (n : Nat) (d : List AV → List Go.Eng.Frame → Tr Res) : List AV → List Go.Eng.Frame → Tr Res := cent (A_spec_DrawReadValue ([])) (U_spec_DrawReadValue ([])) (FH_spec_DrawReadValue n) O_spec_DrawReadValue d
theorem eo_spec_DrawReadValue (n : Nat) {d : List AV → List Go.Eng.Frame → Tr Res} (hd : ∀ ar up r, (d ar up).run = some r → runs KP lib n 22 ar up = some r) : ∀ ar up r, (E_spec_DrawReadValue n d ar up).run = some r → runs KP lib n 22 ar up = some r :=
  cent_ok (fun hs r h => by
    unfold FH_spec_DrawReadValue at h
    split at h
    · exact ⟨A_spec_DrawReadValue _, U_spec_DrawReadValue _, rfl, rfl, th_spec_DrawReadValue n _ r h⟩
    · cases h) hd
/-! ### spec.l1Int -/
def A_spec_l1Int (x0 : ByteArray) (x1 : Int) : List AV := [(.c (.p (.s x0))), (.c (.p (.i .i64 x1)))]
def U_spec_l1Int (x0 : ByteArray) (x1 : Int) : List Go.Eng.Frame := []
def O_spec_l1Int (r : Int × Bool) : Res := ⟨(.tup [(false, [(.p (.i .i64 r.1))]), (false, [(.p (.b r.2))])]), [], []⟩
abbrev CT_spec_l1Int (n : Nat) : CTab := mkCT []
def S_spec_l1Int_61 (v : ByteArray × Int × Int) : St := ⟨[(0, (.c (.p (.s v.1)))), (6, (.c (.p (.i .i64 v.2.1)))), (7, (.c (.p (.i .i64 v.2.2))))], [], []⟩
def B_spec_l1Int_61 (n : Nat) (v : ByteArray × Int × Int) : Tr ((ByteArray × Int × Int) ⊕ ((Int × Bool) ⊕ (Int))) := (.ask ((decide (v.2.2 < (v.1.size : Int)))) (.ask (decide (0 ≤ v.2.2)) (.opt (v.1.toList[(v.2.2).toNat]?) fun c130 => (.ask ((decide ((c130.toNat : Int) < (48 : Int)))) (.done (.inr (.inl (((0 : Int), false))))) (.ask (decide (0 ≤ v.2.2)) (.opt (v.1.toList[(v.2.2).toNat]?) fun c131 => (.ask ((decide ((c131.toNat : Int) > (57 : Int)))) (.done (.inr (.inl (((0 : Int), false))))) (.ask (decide (0 ≤ v.2.2)) (.opt (v.1.toList[(v.2.2).toNat]?) fun c132 => (.done (.inl (v.1, (IntKind.i64.wrap ((IntKind.i64.wrap (v.2.1 * (10 : Int))) + (IntKind.i64.wrap (IntKind.u8.wrap ((c132.toNat : Int) - (48 : Int)))))), (IntKind.i64.wrap (v.2.2 + (1 : Int))))))) .fail))) .fail))) .fail) (.done (.inr (.inr (v.2.1)))))
def D_spec_l1Int_61 : ((Int × Bool) ⊕ (Int)) → Ex × St := fun | .inl r => (.ret, ⟨[(4, (.c (.p (.i .i64 r.1)))), (5, (.c (.p (.b r.2))))], [], []⟩) | .inr r => (fun r => ((.exit 0), ⟨[(6, (.c (.p (.i .i64 r))))], [], []⟩)) r
def DT_spec_l1Int_61 : ((Int × Bool) ⊕ (Int)) → Tr (Ex × St) := fun r => .alt r (fun r => .done (.ret, ⟨[(4, (.c (.p (.i .i64 r.1)))), (5, (.c (.p (.b r.2))))], [], []⟩)) (fun r => .done ((.exit 0), ⟨[(6, (.c (.p (.i .i64 r))))], [], []⟩))
def VH_spec_l1Int_61 : Cont3 → Option (ByteArray × Int × Int)
  | ([[[.s w0]], [[.i w1]], [[.i w2]]], [], []) => some (w0, w1, w2)
  | _ => none
abbrev LE_spec_l1Int_61 (n : Nat) : St → Tr (Ex × St) := lent (S_spec_l1Int_61 (⟨#[]⟩, 0, 0)) VH_spec_l1Int_61 (B_spec_l1Int_61 n) DT_spec_l1Int_61 n
abbrev LT_spec_l1Int (n : Nat) : LTab := mkLT [(61, LE_spec_l1Int_61 n)]
def T_spec_l1Int (n : Nat) (x0 : ByteArray) (x1 : Int) : Tr (Int × Bool) := (.ask ((decide ((x0.size : Int) < (1 : Int)))) (.done ((0 : Int), false)) (.ask ((decide ((x0.size : Int) > x1))) (.done ((0 : Int), false)) (.ask (decide (0 ≤ (0 : Int))) (.opt (x0.toList[((0 : Int)).toNat]?) fun c129 => (.ask (((c129.toNat : Int) == (48 : Int))) (.ask ((decide ((x0.size : Int) > (1 : Int)))) (.done ((0 : Int), false)) (.opt (loopF (B_spec_l1Int_61 n) n (x0, (0 : Int), (0 : Int))) fun r133 => (.alt r133 (fun r134 => (.done (r134.1, r134.2))) (fun r135 => (.done (r135, true)))))) (.opt (loopF (B_spec_l1Int_61 n) n (x0, (0 : Int), (0 : Int))) fun r136 => (.alt r136 (fun r137 => (.done (r137.1, r137.2))) (fun r138 => (.done (r138, true))))))) .fail)))
def F_spec_l1Int : Nat → ByteArray → Int → Option (Int × Bool)
  | 0, _, _ => none
  | n + 1, x0, x1 => (T_spec_l1Int n x0 x1).run
theorem ft_spec_l1Int (n : Nat) (x0 : ByteArray) (x1 : Int) : funT (CT_spec_l1Int n) (LT_spec_l1Int n) K_spec_l1Int (A_spec_l1Int x0 x1) (U_spec_l1Int x0 x1) = (T_spec_l1Int n x0 x1).bind fun r => .done (O_spec_l1Int r) := by kernel_rfl
theorem ct_spec_l1Int (n : Nat) : CTok (CT_spec_l1Int n) (runs KP lib n) := mkCT_nil
theorem lt_spec_l1Int_61 (n : Nat) (v : ByteArray × Int × Int) : (evalCT (CT_spec_l1Int n) (mkLT []) K_spec_l1Int_L61 (S_spec_l1Int_61 v) []).bind (ltail [0, 6, 7] [(.ret, [4, 5]), ((.exit 0), [6])]) = (B_spec_l1Int_61 n v).bind (lenc S_spec_l1Int_61 D_spec_l1Int_61) := by
  obtain ⟨w0, w1, w2⟩ := v
  kernel_rfl
theorem le_spec_l1Int_61 (n : Nat) : LEok (runs KP lib n) n (61, [0, 6, 7], [(.ret, [4, 5]), ((.exit 0), [6])], K_spec_l1Int_L61) (LE_spec_l1Int_61 n) := fun st e s h =>
  lent_ok (ct_spec_l1Int n) (noLoops rfl) (lt_spec_l1Int_61 n) (fun r => by
    rcases r with r | r <;> (intro h; cases h)) (fun r y h => by
    rcases r with r | r <;> (cases h; rfl)) (fun hs v h => by
    unfold VH_spec_l1Int_61 at h
    split at h <;> cases h
    rfl) h
theorem lo_spec_l1Int (n : Nat) : LTok (LT_spec_l1Int n) (runs KP lib n) n K_spec_l1Int.body := mkLT_ok (by
  intro x hx
  have hx : x ∈ ([(61, [0, 6, 7], [(.ret, [4, 5]), ((.exit 0), [6])], K_spec_l1Int_L61)] : List (Nat × List Nat × List (Ex × List Nat) × KCode)) := hx
  simp only [List.mem_cons, List.not_mem_nil, or_false] at hx
  rcases hx with rfl
  · exact ⟨LE_spec_l1Int_61 n, fun st => rfl, le_spec_l1Int_61 n⟩)
theorem th_spec_l1Int : ∀ (n : Nat) (x0 : ByteArray) (x1 : Int) (r : Int × Bool), F_spec_l1Int n x0 x1 = some r → runs KP lib n 33 (A_spec_l1Int x0 x1) (U_spec_l1Int x0 x1) = some (O_spec_l1Int r)
  | 0, x0, x1, r, h => by cases h
  | n + 1, x0, x1, r, h => fun_step (kf := K_spec_l1Int) rfl (ct_spec_l1Int n) (lo_spec_l1Int n) (ft_spec_l1Int n x0 x1) h
def FH_spec_l1Int (n : Nat) : Cont → Option (Int × Bool)
  | ([[[.s x0]], [[.i x1]]], []) => F_spec_l1Int n x0 x1
  | _ => none
def E_spec_l1Int (n : Nat) (d : List AV → List Go.Eng.Frame → Tr Res) : List AV → List Go.Eng.Frame → Tr Res := cent (A_spec_l1Int (⟨#[]⟩) (0)) (U_spec_l1Int (⟨#[]⟩) (0)) (FH_spec_l1Int n) O_spec_l1Int d
theorem eo_spec_l1Int (n : Nat) {d : List AV → List Go.Eng.Frame → Tr Res} (hd : ∀ ar up r, (d ar up).run = some r → runs KP lib n 33 ar up = some r) : ∀ ar up r, (E_spec_l1Int n d ar up).run = some r → runs KP lib n 33 ar up = some r :=
  cent_ok (fun hs r h => by
    unfold FH_spec_l1Int at h
    split at h
    · exact ⟨A_spec_l1Int _ _, U_spec_l1Int _ _, rfl, rfl, th_spec_l1Int n _ _ r h⟩
    · cases h) hd
/-! ### spec.ReadValue -/
def A_spec_ReadValue (x0 : ByteArray) : List AV := [(.c (.p (.s x0)))]
def U_spec_ReadValue (x0 : ByteArray) : List Go.Eng.Frame := []
def O_spec_ReadValue (r : Int × Int × ByteArray × Bool) : Res := ⟨(.tup [(true, [(.p (.i .i64 r.1)), (.p (.i .i64 r.2.1)), (.p (.s r.2.2.1))]), (false, [(.p (.b r.2.2.2))])]), [], []⟩
abbrev CT_spec_ReadValue (n : Nat) : CTab := mkCT [(21, E_spec_ValueOk n (noEnt)), (31, E_spec_l2Name n (noEnt)), (33, E_spec_l1Int n (noEnt))]
def S_spec_ReadValue_15355 (v : ByteArray × Int × Int × Int × ByteArray × Int × Int × ByteArray) : St := ⟨[(0, (.c (.p (.s v.1)))), (2, (.c (.ptr 0 128 0 0 0))), (4, (.c (.ptr 0 256 0 0 0))), (5, (.c (.p (.i .i64 v.2.1))))], [(128, ⟨0, 3, 25, (.box [(.p (.i .i64 v.2.2.1)), (.p (.i .i64 v.2.2.2.1)), (.p (.s v.2.2.2.2.1))])⟩), (256, ⟨0, 3, 25, (.box [(.p (.i .i64 v.2.2.2.2.2.1)), (.p (.i .i64 v.2.2.2.2.2.2.1)), (.p (.s v.2.2.2.2.2.2.2))])⟩)], []⟩
def B_spec_ReadValue_15355 (n : Nat) (v : ByteArray × Int × Int × Int × ByteArray × Int × Int × ByteArray) : Tr ((ByteArray × Int × Int × Int × ByteArray × Int × Int × ByteArray) ⊕ ((Int × Int × ByteArray × Int × Int × ByteArray))) := (.ask ((decide (v.2.1 ≤ (5 : Int)))) (.opt (F_spec_l2Name n v.2.1) fun r125 => (.ask ((r125.toList == v.1.toList)) (.done (.inl (v.1, (IntKind.i64.wrap (v.2.1 + (1 : Int))), v.2.2.1, v.2.2.2.1, v.2.2.2.2.1, v.2.2.2.2.2.1, v.2.1, v.2.2.2.2.2.2.2))) (.done (.inl (v.1, (IntKind.i64.wrap (v.2.1 + (1 : Int))), v.2.2.1, v.2.2.2.1, v.2.2.2.2.1, v.2.2.2.2.2.1, v.2.2.2.2.2.2.1, v.2.2.2.2.2.2.2))))) (.done (.inr ((v.2.2.1, v.2.2.2.1, v.2.2.2.2.1, v.2.2.2.2.2.1, v.2.2.2.2.2.2.1, v.2.2.2.2.2.2.2)))))
def D_spec_ReadValue_15355 : (Int × Int × ByteArray × Int × Int × ByteArray) → Ex × St := fun r => ((.exit 1), ⟨[(2, (.c (.ptr 0 128 0 0 0))), (4, (.c (.ptr 0 256 0 0 0)))], [(128, ⟨0, 3, 25, (.box [(.p (.i .i64 r.1)), (.p (.i .i64 r.2.1)), (.p (.s r.2.2.1))])⟩), (256, ⟨0, 3, 25, (.box [(.p (.i .i64 r.2.2.2.1)), (.p (.i .i64 r.2.2.2.2.1)), (.p (.s r.2.2.2.2.2))])⟩)], []⟩)
def DT_spec_ReadValue_15355 : (Int × Int × ByteArray × Int × Int × ByteArray) → Tr (Ex × St) := fun r => .done ((.exit 1), ⟨[(2, (.c (.ptr 0 128 0 0 0))), (4, (.c (.ptr 0 256 0 0 0)))], [(128, ⟨0, 3, 25, (.box [(.p (.i .i64 r.1)), (.p (.i .i64 r.2.1)), (.p (.s r.2.2.1))])⟩), (256, ⟨0, 3, 25, (.box [(.p (.i .i64 r.2.2.2.1)), (.p (.i .i64 r.2.2.2.2.1)), (.p (.s r.2.2.2.2.2))])⟩)], []⟩)
def VH_spec_ReadValue_15355 : Cont3 → Option (ByteArray × Int × Int × Int × ByteArray × Int × Int × ByteArray)
  | ([[[.s w0]], [[]], [[]], [[.i w1]]], [[[.i w2], [.i w3], [.s w4]], [[.i w5], [.i w6], [.s w7]]], []) => some (w0, w1, w2, w3, w4, w5, w6, w7)
  | _ => none
abbrev LE_spec_ReadValue_15355 (n : Nat) : St → Tr (Ex × St) := lent (S_spec_ReadValue_15355 (⟨#[]⟩, 0, 0, 0, ⟨#[]⟩, 0, 0, ⟨#[]⟩)) VH_spec_ReadValue_15355 (B_spec_ReadValue_15355 n) DT_spec_ReadValue_15355 n
abbrev LT_spec_ReadValue (n : Nat) : LTab := mkLT [(15355, LE_spec_ReadValue_15355 n)]
def T_spec_ReadValue (n : Nat) (x0 : ByteArray) : Tr (Int × Int × ByteArray × Bool) := (.ask ((x0.toList == (⟨#[]⟩ : ByteArray).toList)) (.done ((0 : Int), (0 : Int), (⟨#[]⟩ : ByteArray), true)) (.ask (decide (0 ≤ (0 : Int))) (.opt (x0.toList[((0 : Int)).toNat]?) fun c118 => (.ask (((c118.toNat : Int) == (39 : Int))) (.ask (decide (0 ≤ (1 : Int) ∧ (1 : Int) ≤ (x0.size : Int) ∧ (x0.size : Int) ≤ x0.size)) (.opt (F_spec_ValueOk n (2 : Int) (0 : Int) (x0.extract ((1 : Int)).toNat ((x0.size : Int)).toNat)) fun r119 => (.ask ((!r119)) (.done ((0 : Int), (0 : Int), (⟨#[]⟩ : ByteArray), false)) (.done ((2 : Int), (0 : Int), (x0.extract ((1 : Int)).toNat ((x0.size : Int)).toNat), true)))) .fail) (.ask ((x0.toList == (⟨#[84, 82, 85, 69]⟩ : ByteArray).toList)) (.ask ((x0.toList == (⟨#[84, 82, 85, 69]⟩ : ByteArray).toList)) (.opt (F_spec_ValueOk n (3 : Int) (1 : Int) (⟨#[]⟩ : ByteArray)) fun r120 => (.ask ((!r120)) (.done ((0 : Int), (0 : Int), (⟨#[]⟩ : ByteArray), false)) (.done ((3 : Int), (1 : Int), (⟨#[]⟩ : ByteArray), true)))) (.opt (F_spec_ValueOk n (3 : Int) (0 : Int) (⟨#[]⟩ : ByteArray)) fun r121 => (.ask ((!r121)) (.done ((0 : Int), (0 : Int), (⟨#[]⟩ : ByteArray), false)) (.done ((3 : Int), (0 : Int), (⟨#[]⟩ : ByteArray), true))))) (.ask ((x0.toList == (⟨#[70, 65, 76, 83, 69]⟩ : ByteArray).toList)) (.ask ((x0.toList == (⟨#[84, 82, 85, 69]⟩ : ByteArray).toList)) (.opt (F_spec_ValueOk n (3 : Int) (1 : Int) (⟨#[]⟩ : ByteArray)) fun r122 => (.ask ((!r122)) (.done ((0 : Int), (0 : Int), (⟨#[]⟩ : ByteArray), false)) (.done ((3 : Int), (1 : Int), (⟨#[]⟩ : ByteArray), true)))) (.opt (F_spec_ValueOk n (3 : Int) (0 : Int) (⟨#[]⟩ : ByteArray)) fun r123 => (.ask ((!r123)) (.done ((0 : Int), (0 : Int), (⟨#[]⟩ : ByteArray), false)) (.done ((3 : Int), (0 : Int), (⟨#[]⟩ : ByteArray), true))))) (.ask (decide (0 ≤ (0 : Int))) (.opt (x0.toList[((0 : Int)).toNat]?) fun c124 => (.ask (((c124.toNat : Int) == (35 : Int))) (.opt (loopF (B_spec_ReadValue_15355 n) n (x0, (1 : Int), (0 : Int), (0 : Int), (⟨#[]⟩ : ByteArray), (4 : Int), (0 : Int), (⟨#[]⟩ : ByteArray))) fun r126 => (.opt (F_spec_ValueOk n r126.2.2.2.1 r126.2.2.2.2.1 r126.2.2.2.2.2) fun r127 => (.ask ((!r127)) (.done ((0 : Int), (0 : Int), (⟨#[]⟩ : ByteArray), false)) (.done (r126.2.2.2.1, r126.2.2.2.2.1, r126.2.2.2.2.2, true))))) (.ask (decide (0 ≤ (0 : Int))) (.opt (x0.toList[((0 : Int)).toNat]?) fun c128 => (.ask (((c128.toNat : Int) == (45 : Int))) (.ask (decide (0 ≤ (1 : Int) ∧ (1 : Int) ≤ (x0.size : Int) ∧ (x0.size : Int) ≤ x0.size)) (.opt (F_spec_l1Int n (x0.extract ((1 : Int)).toNat ((x0.size : Int)).toNat) (16 : Int)) fun r139 => (.ask ((!r139.2)) (.done ((0 : Int), (0 : Int), (⟨#[]⟩ : ByteArray), false)) (.ask (((c128.toNat : Int) == (45 : Int))) (.ask ((r139.1 == (0 : Int))) (.done ((0 : Int), (0 : Int), (⟨#[]⟩ : ByteArray), false)) (.ask (((c128.toNat : Int) == (45 : Int))) (.opt (F_spec_ValueOk n (1 : Int) (IntKind.i64.wrap (0 - r139.1)) (⟨#[]⟩ : ByteArray)) fun r140 => (.ask ((!r140)) (.done ((0 : Int), (0 : Int), (⟨#[]⟩ : ByteArray), false)) (.done ((1 : Int), (IntKind.i64.wrap (0 - r139.1)), (⟨#[]⟩ : ByteArray), true)))) (.opt (F_spec_ValueOk n (1 : Int) r139.1 (⟨#[]⟩ : ByteArray)) fun r141 => (.ask ((!r141)) (.done ((0 : Int), (0 : Int), (⟨#[]⟩ : ByteArray), false)) (.done ((1 : Int), r139.1, (⟨#[]⟩ : ByteArray), true)))))) (.ask (((c128.toNat : Int) == (45 : Int))) (.opt (F_spec_ValueOk n (1 : Int) (IntKind.i64.wrap (0 - r139.1)) (⟨#[]⟩ : ByteArray)) fun r142 => (.ask ((!r142)) (.done ((0 : Int), (0 : Int), (⟨#[]⟩ : ByteArray), false)) (.done ((1 : Int), (IntKind.i64.wrap (0 - r139.1)), (⟨#[]⟩ : ByteArray), true)))) (.opt (F_spec_ValueOk n (1 : Int) r139.1 (⟨#[]⟩ : ByteArray)) fun r143 => (.ask ((!r143)) (.done ((0 : Int), (0 : Int), (⟨#[]⟩ : ByteArray), false)) (.done ((1 : Int), r139.1, (⟨#[]⟩ : ByteArray), true)))))))) .fail) (.opt (F_spec_l1Int n x0 (16 : Int)) fun r144 => (.ask ((!r144.2)) (.done ((0 : Int), (0 : Int), (⟨#[]⟩ : ByteArray), false)) (.ask (((c128.toNat : Int) == (45 : Int))) (.ask ((r144.1 == (0 : Int))) (.done ((0 : Int), (0 : Int), (⟨#[]⟩ : ByteArray), false)) (.ask (((c128.toNat : Int) == (45 : Int))) (.opt (F_spec_ValueOk n (1 : Int) (IntKind.i64.wrap (0 - r144.1)) (⟨#[]⟩ : ByteArray)) fun r145 => (.ask ((!r145)) (.done ((0 : Int), (0 : Int), (⟨#[]⟩ : ByteArray), false)) (.done ((1 : Int), (IntKind.i64.wrap (0 - r144.1)), (⟨#[]⟩ : ByteArray), true)))) (.opt (F_spec_ValueOk n (1 : Int) r144.1 (⟨#[]⟩ : ByteArray)) fun r146 => (.ask ((!r146)) (.done ((0 : Int), (0 : Int), (⟨#[]⟩ : ByteArray), false)) (.done ((1 : Int), r144.1, (⟨#[]⟩ : ByteArray), true)))))) (.ask (((c128.toNat : Int) == (45 : Int))) (.opt (F_spec_ValueOk n (1 : Int) (IntKind.i64.wrap (0 - r144.1)) (⟨#[]⟩ : ByteArray)) fun r147 => (.ask ((!r147)) (.done ((0 : Int), (0 : Int), (⟨#[]⟩ : ByteArray), false)) (.done ((1 : Int), (IntKind.i64.wrap (0 - r144.1)), (⟨#[]⟩ : ByteArray), true)))) (.opt (F_spec_ValueOk n (1 : Int) r144.1 (⟨#[]⟩ : ByteArray)) fun r148 => (.ask ((!r148)) (.done ((0 : Int), (0 : Int), (⟨#[]⟩ : ByteArray), false)) (.done ((1 : Int), r144.1, (⟨#[]⟩ : ByteArray), true)))))))))) .fail))) .fail))))) .fail))
def F_spec_ReadValue : Nat → ByteArray → Option (Int × Int × ByteArray × Bool)
  | 0, _ => none
  | n + 1, x0 => (T_spec_ReadValue n x0).run
theorem ft_spec_ReadValue (n : Nat) (x0 : ByteArray) : funT (CT_spec_ReadValue n) (LT_spec_ReadValue n) K_spec_ReadValue (A_spec_ReadValue x0) (U_spec_ReadValue x0) = (T_spec_ReadValue n x0).bind fun r => .done (O_spec_ReadValue r) := by kernel_rfl
theorem ct_spec_ReadValue (n : Nat) : CTok (CT_spec_ReadValue n) (runs KP lib n) := mkCT_cons (eo_spec_ValueOk n (noEnt_ok)) (mkCT_cons (eo_spec_l2Name n (noEnt_ok)) (mkCT_cons (eo_spec_l1Int n (noEnt_ok)) (mkCT_nil)))
theorem lt_spec_ReadValue_15355 (n : Nat) (v : ByteArray × Int × Int × Int × ByteArray × Int × Int × ByteArray) : (evalCT (CT_spec_ReadValue n) (mkLT []) K_spec_ReadValue_L15355 (S_spec_ReadValue_15355 v) []).bind (ltail [0, 2, 4, 5] [(.ret, [2, 3]), ((.exit 1), [2, 4]), ((.exit 0), [2, 4])]) = (B_spec_ReadValue_15355 n v).bind (lenc S_spec_ReadValue_15355 D_spec_ReadValue_15355) := by
  obtain ⟨w0, w1, w2, w3, w4, w5, w6, w7⟩ := v
  kernel_rfl
theorem le_spec_ReadValue_15355 (n : Nat) : LEok (runs KP lib n) n (15355, [0, 2, 4, 5], [(.ret, [2, 3]), ((.exit 1), [2, 4]), ((.exit 0), [2, 4])], K_spec_ReadValue_L15355) (LE_spec_ReadValue_15355 n) := fun st e s h =>
  lent_ok (ct_spec_ReadValue n) (noLoops rfl) (lt_spec_ReadValue_15355 n) (fun r h => by cases h) (fun r y h => by cases h; rfl) (fun hs v h => by
    unfold VH_spec_ReadValue_15355 at h
    split at h <;> cases h
    rfl) h
theorem lo_spec_ReadValue (n : Nat) : LTok (LT_spec_ReadValue n) (runs KP lib n) n K_spec_ReadValue.body := mkLT_ok (by
  intro x hx
  have hx : x ∈ ([(15355, [0, 2, 4, 5], [(.ret, [2, 3]), ((.exit 1), [2, 4]), ((.exit 0), [2, 4])], K_spec_ReadValue_L15355)] : List (Nat × List Nat × List (Ex × List Nat) × KCode)) := hx
  simp only [List.mem_cons, List.not_mem_nil, or_false] at hx
  rcases hx with rfl
  · exact ⟨LE_spec_ReadValue_15355 n, fun st => rfl, le_spec_ReadValue_15355 n⟩)
theorem th_spec_ReadValue : ∀ (n : Nat) (x0 : ByteArray) (r : Int × Int × ByteArray × Bool), F_spec_ReadValue n x0 = some r → runs KP lib n 17 (A_spec_ReadValue x0) (U_spec_ReadValue x0) = some (O_spec_ReadValue r)
  | 0, x0, r, h => by cases h
  | n + 1, x0, r, h => fun_step (kf := K_spec_ReadValue) rfl (ct_spec_ReadValue n) (lo_spec_ReadValue n) (ft_spec_ReadValue n x0) h
def FH_spec_ReadValue (n : Nat) : Cont → Option (Int × Int × ByteArray × Bool)
  | ([[[.s x0]]], []) => F_spec_ReadValue n x0
  | _ => none
def E_spec_ReadValue (n : Nat) (d : List AV → List Go.Eng.Frame → Tr Res) : List AV → List Go.Eng.Frame → Tr Res := cent (A_spec_ReadValue (⟨#[]⟩)) (U_spec_ReadValue (⟨#[]⟩)) (FH_spec_ReadValue n) O_spec_ReadValue d
theorem eo_spec_ReadValue (n : Nat) {d : List AV → List Go.Eng.Frame → Tr Res} (hd : ∀ ar up r, (d ar up).run = some r → runs KP lib n 17 ar up = some r) : ∀ ar up r, (E_spec_ReadValue n d ar up).run = some r → runs KP lib n 17 ar up = some r :=
  cent_ok (fun hs r h => by
    unfold FH_spec_ReadValue at h
    split at h
    · exact ⟨A_spec_ReadValue _, U_spec_ReadValue _, rfl, rfl, th_spec_ReadValue n _ r h⟩
    · cases h) hd
/-! ### laws.FnValueTexts -/
def A_laws_FnValueTexts (x0 : List (List PV)) : List AV := [(.c (.p (.ls x0)))]
def U_laws_FnValueTexts (x0 : List (List PV)) : List Go.Eng.Frame := []
def O_laws_FnValueTexts (r : Bool) : Res := ⟨(.c (.p (.b r))), [], []⟩
abbrev CT_laws_FnValueTexts (n : Nat) : CTab := mkCT [(13, E_laws_big n (noEnt)), (19, E_spec_DrawValueText n (noEnt)), (16, E_impl_ValueText n (noEnt)), (18, E_impl_ReadValue n (noEnt)), (15, E_spec_ValueText n (noEnt)), (20, E_impl_ValueOk n (noEnt)), (21, E_spec_ValueOk n (noEnt)), (22, E_spec_DrawReadValue n (noEnt)), (17, E_spec_ReadValue n (noEnt))]
abbrev LT_laws_FnValueTexts (n : Nat) : LTab := mkLT []
def T_laws_FnValueTexts (n : Nat) (x0 : List (List PV)) : Tr (Bool) := (.opt (F_laws_big n x0) fun r1 => (.ask (r1) (.done true) (.opt (F_spec_DrawValueText n x0) fun r37 => (.opt (F_impl_ValueText n r37.1 r37.2.1 r37.2.2) fun r56 => (.opt (F_impl_ReadValue n r56) fun r84 => (.opt (F_spec_ValueText n r37.1 r37.2.1 r37.2.2) fun r105 => (.ask ((!(r56.toList == r105.toList))) (.done false) (.opt (F_impl_ValueOk n r37.1 r37.2.1 r37.2.2) fun r106 => (.opt (F_spec_ValueOk n r37.1 r37.2.1 r37.2.2) fun r107 => (.ask ((!(r106 == r107))) (.done false) (.opt (F_impl_ValueOk n r37.1 r37.2.1 r37.2.2) fun r108 => (.ask (r108) (.ask ((!r84.2.2.2)) (.done false) (.ask ((!((r84.1 == r37.1) && ((r84.2.1 == r37.2.1) && ((r84.2.2.1.toList == r37.2.2.toList) && true))))) (.done false) (.opt (F_spec_DrawReadValue n x0) fun r116 => (.opt (F_impl_ReadValue n r116) fun r117 => (.opt (F_spec_ReadValue n r116) fun r149 => (.ask ((r117.2.2.2 == r149.2.2.2)) (.ask ((!r117.2.2.2)) (.done true) (.opt (F_impl_ValueText n r117.1 r117.2.1 r117.2.2.1) fun r150 => (.ask ((r150.toList == r116.toList)) (.opt (F_impl_ValueOk n r117.1 r117.2.1 r117.2.2.1) fun r151 => (.done r151)) (.done false)))) (.done false))))))) (.opt (F_spec_DrawReadValue n x0) fun r152 => (.opt (F_impl_ReadValue n r152) fun r153 => (.opt (F_spec_ReadValue n r152) fun r154 => (.ask ((r153.2.2.2 == r154.2.2.2)) (.ask ((!r153.2.2.2)) (.done true) (.opt (F_impl_ValueText n r153.1 r153.2.1 r153.2.2.1) fun r155 => (.ask ((r155.toList == r152.toList)) (.opt (F_impl_ValueOk n r153.1 r153.2.1 r153.2.2.1) fun r156 => (.done r156)) (.done false)))) (.done false)))))))))))))))))
def F_laws_FnValueTexts : Nat → List (List PV) → Option (Bool)
  | 0, _ => none
  | n + 1, x0 => (T_laws_FnValueTexts n x0).run
theorem ft_laws_FnValueTexts (n : Nat) (x0 : List (List PV)) : funT (CT_laws_FnValueTexts n) (LT_laws_FnValueTexts n) K_laws_FnValueTexts (A_laws_FnValueTexts x0) (U_laws_FnValueTexts x0) = (T_laws_FnValueTexts n x0).bind fun r => .done (O_laws_FnValueTexts r) := by kernel_rfl
theorem ct_laws_FnValueTexts (n : Nat) : CTok (CT_laws_FnValueTexts n) (runs KP lib n) := mkCT_cons (eo_laws_big n (noEnt_ok)) (mkCT_cons (eo_spec_DrawValueText n (noEnt_ok)) (mkCT_cons (eo_impl_ValueText n (noEnt_ok)) (mkCT_cons (eo_impl_ReadValue n (noEnt_ok)) (mkCT_cons (eo_spec_ValueText n (noEnt_ok)) (mkCT_cons (eo_impl_ValueOk n (noEnt_ok)) (mkCT_cons (eo_spec_ValueOk n (noEnt_ok)) (mkCT_cons (eo_spec_DrawReadValue n (noEnt_ok)) (mkCT_cons (eo_spec_ReadValue n (noEnt_ok)) (mkCT_nil)))))))))
theorem th_laws_FnValueTexts : ∀ (n : Nat) (x0 : List (List PV)) (r : Bool), F_laws_FnValueTexts n x0 = some r → runs KP lib n 7 (A_laws_FnValueTexts x0) (U_laws_FnValueTexts x0) = some (O_laws_FnValueTexts r)
  | 0, x0, r, h => by cases h
  | n + 1, x0, r, h => fun_step (kf := K_laws_FnValueTexts) rfl (ct_laws_FnValueTexts n) (noLoops rfl) (ft_laws_FnValueTexts n x0) h
def FH_laws_FnValueTexts (n : Nat) : Cont → Option (Bool)
  | ([[[.r x0]]], []) => F_laws_FnValueTexts n x0
  | _ => none
def E_laws_FnValueTexts (n : Nat) (d : List AV → List Go.Eng.Frame → Tr Res) : List AV → List Go.Eng.Frame → Tr Res := cent (A_laws_FnValueTexts ([])) (U_laws_FnValueTexts ([])) (FH_laws_FnValueTexts n) O_laws_FnValueTexts d
theorem eo_laws_FnValueTexts (n : Nat) {d : List AV → List Go.Eng.Frame → Tr Res} (hd : ∀ ar up r, (d ar up).run = some r → runs KP lib n 7 ar up = some r) : ∀ ar up r, (E_laws_FnValueTexts n d ar up).run = some r → runs KP lib n 7 ar up = some r :=
  cent_ok (fun hs r h => by
    unfold FH_laws_FnValueTexts at h
    split at h
    · exact ⟨A_laws_FnValueTexts _, U_laws_FnValueTexts _, rfl, rfl, th_laws_FnValueTexts n _ r h⟩
    · cases h) hd
end Go.Proofs.YtaannlnlddbgdaaDoor.KFnValueTexts
