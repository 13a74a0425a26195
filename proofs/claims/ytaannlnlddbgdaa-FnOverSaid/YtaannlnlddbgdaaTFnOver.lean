/-
  The trees of what FnOver calls: plain functions, and that the engine reckons just these. No condition.
-/
import Derived.Test.YtaannlnlddbgdaaKFnOver
import Derived.Test.YtaannlnlddbgdaaE31
import Derived.KernelRfl
namespace Go.Proofs.Ytaannlnlddbgdaa.KFnOver
open Go.Eng
set_option linter.unusedVariables false
set_option maxRecDepth 100000
def lib : FuncId → List AV → Option AV := fun _ _ => none
/-! ### laws.big -/
def A_laws_big (x0 : List (List PV)) : List AV := [(.c (.p (.ls x0)))]
def U_laws_big (x0 : List (List PV)) : List Go.Eng.Frame := []
def O_laws_big (r : Bool) : Res := ⟨(.c (.p (.b r))), [], []⟩
abbrev CT_laws_big (n : Nat) : CTab := mkCT []
abbrev LT_laws_big (n : Nat) : LTab := mkLT []
def T_laws_big (n : Nat) (x0 : List (List PV)) : Tr (Bool) := (.done (decide ((x0.length : Int) > (1048576 : Int))))
def F_laws_big : Nat → List (List PV) → Option (Bool)
  | 0, _ => none
  | n + 1, x0 => (T_laws_big n x0).run
theorem ft_laws_big (n : Nat) (x0 : List (List PV)) : funT (CT_laws_big n) (LT_laws_big n) K_laws_big (A_laws_big x0) (U_laws_big x0) = (T_laws_big n x0).bind fun r => .done (O_laws_big r) := by kernel_rfl
theorem ct_laws_big (n : Nat) : CTok (CT_laws_big n) (runs KP lib n) := mkCT_nil
theorem th_laws_big : ∀ (n : Nat) (x0 : List (List PV)) (r : Bool), F_laws_big n x0 = some r → runs KP lib n 22 (A_laws_big x0) (U_laws_big x0) = some (O_laws_big r)
  | 0, x0, r, h => by cases h
  | n + 1, x0, r, h => fun_step (kf := K_laws_big) rfl (ct_laws_big n) (noLoops rfl) (ft_laws_big n x0) h
def FH_laws_big (n : Nat) : Cont → Option (Bool)
  | ([[[.r x0]]], []) => F_laws_big n x0
  | _ => none
def E_laws_big (n : Nat) (d : List AV → List Go.Eng.Frame → Tr Res) : List AV → List Go.Eng.Frame → Tr Res := cent (A_laws_big ([])) (U_laws_big ([])) (FH_laws_big n) O_laws_big d
theorem eo_laws_big (n : Nat) {d : List AV → List Go.Eng.Frame → Tr Res} (hd : ∀ ar up r, (d ar up).run = some r → runs KP lib n 22 ar up = some r) : ∀ ar up r, (E_laws_big n d ar up).run = some r → runs KP lib n 22 ar up = some r :=
  cent_ok (fun hs r h => by
    unfold FH_laws_big at h
    split at h
    · exact ⟨A_laws_big _, U_laws_big _, rfl, rfl, th_laws_big n _ r h⟩
    · cases h) hd
/-! ### spec.l1Open -/
def A_spec_l1Open (x0 : List (List PV)) : List AV := [(.c (.p (.ls x0)))]
def U_spec_l1Open (x0 : List (List PV)) : List Go.Eng.Frame := []
def O_spec_l1Open (r : (List (List PV)) × Int) : Res := ⟨(.c (.ptr 0 0 0 0 0)), [], [⟨0, 2, 66, (.box [(.p (.ls r.1)), (.p (.i .i64 r.2))])⟩]⟩
abbrev CT_spec_l1Open (n : Nat) : CTab := mkCT []
abbrev LT_spec_l1Open (n : Nat) : LTab := mkLT []
def T_spec_l1Open (n : Nat) (x0 : List (List PV)) : Tr ((List (List PV)) × Int) := (.done (x0, (0 : Int)))
def F_spec_l1Open : Nat → List (List PV) → Option ((List (List PV)) × Int)
  | 0, _ => none
  | n + 1, x0 => (T_spec_l1Open n x0).run
theorem ft_spec_l1Open (n : Nat) (x0 : List (List PV)) : funT (CT_spec_l1Open n) (LT_spec_l1Open n) K_spec_l1Open (A_spec_l1Open x0) (U_spec_l1Open x0) = (T_spec_l1Open n x0).bind fun r => .done (O_spec_l1Open r) := by kernel_rfl
theorem ct_spec_l1Open (n : Nat) : CTok (CT_spec_l1Open n) (runs KP lib n) := mkCT_nil
theorem th_spec_l1Open : ∀ (n : Nat) (x0 : List (List PV)) (r : (List (List PV)) × Int), F_spec_l1Open n x0 = some r → runs KP lib n 50 (A_spec_l1Open x0) (U_spec_l1Open x0) = some (O_spec_l1Open r)
  | 0, x0, r, h => by cases h
  | n + 1, x0, r, h => fun_step (kf := K_spec_l1Open) rfl (ct_spec_l1Open n) (noLoops rfl) (ft_spec_l1Open n x0) h
def FH_spec_l1Open (n : Nat) : Cont → Option ((List (List PV)) × Int)
  | ([[[.r x0]]], []) => F_spec_l1Open n x0
  | _ => none
def E_spec_l1Open (n : Nat) (d : List AV → List Go.Eng.Frame → Tr Res) : List AV → List Go.Eng.Frame → Tr Res := cent (A_spec_l1Open ([])) (U_spec_l1Open ([])) (FH_spec_l1Open n) O_spec_l1Open d
theorem eo_spec_l1Open (n : Nat) {d : List AV → List Go.Eng.Frame → Tr Res} (hd : ∀ ar up r, (d ar up).run = some r → runs KP lib n 50 ar up = some r) : ∀ ar up r, (E_spec_l1Open n d ar up).run = some r → runs KP lib n 50 ar up = some r :=
  cent_ok (fun hs r h => by
    unfold FH_spec_l1Open at h
    split at h
    · exact ⟨A_spec_l1Open _, U_spec_l1Open _, rfl, rfl, th_spec_l1Open n _ r h⟩
    · cases h) hd
/-! ### (*spec.l1Rd).next -/
def A_spec_l1Rd_next (x0 : List (List PV)) (x1 : Int) : List AV := [(.c (.ptr 0 0 0 0 0))]
def U_spec_l1Rd_next (x0 : List (List PV)) (x1 : Int) : List Go.Eng.Frame := [[(0, ⟨0, 2, 66, (.box [(.p (.ls x0)), (.p (.i .i64 x1))])⟩)]]
def O_spec_l1Rd_next (r : Int × (List (List PV)) × Int) : Res := ⟨(.c (.p (.i .i64 r.1))), [[(0, ⟨0, 2, 66, (.box [(.p (.ls r.2.1)), (.p (.i .i64 r.2.2))])⟩)]], []⟩
abbrev CT_spec_l1Rd_next (n : Nat) : CTab := mkCT []
abbrev LT_spec_l1Rd_next (n : Nat) : LTab := mkLT []
def T_spec_l1Rd_next (n : Nat) (x0 : List (List PV)) (x1 : Int) : Tr (Int × (List (List PV)) × Int) := (.ask ((decide (x1 ≥ (x0.length : Int)))) (.done ((0 : Int), x0, x1)) (.ask (decide (0 ≤ (IntKind.i64.wrap ((IntKind.i64.wrap (x1 + (1 : Int))) - (1 : Int))) ∧ (IntKind.i64.wrap ((IntKind.i64.wrap (x1 + (1 : Int))) - (1 : Int))) < x0.length)) (.opt (x0[((IntKind.i64.wrap ((IntKind.i64.wrap (x1 + (1 : Int))) - (1 : Int)))).toNat]?) fun e3 => (.ask (decide (e3.length = 1)) (.opt (cellI .u8 e3 0) fun y4 => (.done ((IntKind.i64.wrap y4), x0, (IntKind.i64.wrap (x1 + (1 : Int)))))) .fail)) .fail))
def F_spec_l1Rd_next : Nat → List (List PV) → Int → Option (Int × (List (List PV)) × Int)
  | 0, _, _ => none
  | n + 1, x0, x1 => (T_spec_l1Rd_next n x0 x1).run
theorem ft_spec_l1Rd_next (n : Nat) (x0 : List (List PV)) (x1 : Int) : funT (CT_spec_l1Rd_next n) (LT_spec_l1Rd_next n) K_spec_l1Rd_next (A_spec_l1Rd_next x0 x1) (U_spec_l1Rd_next x0 x1) = (T_spec_l1Rd_next n x0 x1).bind fun r => .done (O_spec_l1Rd_next r) := by kernel_rfl
theorem ct_spec_l1Rd_next (n : Nat) : CTok (CT_spec_l1Rd_next n) (runs KP lib n) := mkCT_nil
theorem th_spec_l1Rd_next : ∀ (n : Nat) (x0 : List (List PV)) (x1 : Int) (r : Int × (List (List PV)) × Int), F_spec_l1Rd_next n x0 x1 = some r → runs KP lib n 70 (A_spec_l1Rd_next x0 x1) (U_spec_l1Rd_next x0 x1) = some (O_spec_l1Rd_next r)
  | 0, x0, x1, r, h => by cases h
  | n + 1, x0, x1, r, h => fun_step (kf := K_spec_l1Rd_next) rfl (ct_spec_l1Rd_next n) (noLoops rfl) (ft_spec_l1Rd_next n x0 x1) h
def FH_spec_l1Rd_next (n : Nat) : Cont → Option (Int × (List (List PV)) × Int)
  | ([[[]]], [[[[.r x0], [.i x1]]]]) => F_spec_l1Rd_next n x0 x1
  | _ => none
def E_spec_l1Rd_next (n : Nat) (d : List AV → List Go.Eng.Frame → Tr Res) : List AV → List Go.Eng.Frame → Tr Res := cent (A_spec_l1Rd_next ([]) (0)) (U_spec_l1Rd_next ([]) (0)) (FH_spec_l1Rd_next n) O_spec_l1Rd_next d
theorem eo_spec_l1Rd_next (n : Nat) {d : List AV → List Go.Eng.Frame → Tr Res} (hd : ∀ ar up r, (d ar up).run = some r → runs KP lib n 70 ar up = some r) : ∀ ar up r, (E_spec_l1Rd_next n d ar up).run = some r → runs KP lib n 70 ar up = some r :=
  cent_ok (fun hs r h => by
    unfold FH_spec_l1Rd_next at h
    split at h
    · exact ⟨A_spec_l1Rd_next _ _, U_spec_l1Rd_next _ _, rfl, rfl, th_spec_l1Rd_next n _ _ r h⟩
    · cases h) hd
/-! ### (*spec.l1Rd).below -/
def A_spec_l1Rd_below (x0 : Int) (x1 : List (List PV)) (x2 : Int) : List AV := [(.c (.ptr 0 0 0 0 0)), (.c (.p (.i .i64 x0)))]
def U_spec_l1Rd_below (x0 : Int) (x1 : List (List PV)) (x2 : Int) : List Go.Eng.Frame := [[(0, ⟨0, 2, 66, (.box [(.p (.ls x1)), (.p (.i .i64 x2))])⟩)]]
def O_spec_l1Rd_below (r : Int × (List (List PV)) × Int) : Res := ⟨(.c (.p (.i .i64 r.1))), [[(0, ⟨0, 2, 66, (.box [(.p (.ls r.2.1)), (.p (.i .i64 r.2.2))])⟩)]], []⟩
abbrev CT_spec_l1Rd_below (n : Nat) : CTab := mkCT [(70, E_spec_l1Rd_next n (noEnt))]
abbrev LT_spec_l1Rd_below (n : Nat) : LTab := mkLT []
def T_spec_l1Rd_below (n : Nat) (x0 : Int) (x1 : List (List PV)) (x2 : Int) : Tr (Int × (List (List PV)) × Int) := (.ask ((decide (x0 ≤ (1 : Int)))) (.done ((0 : Int), x1, x2)) (.ask ((decide (x0 ≤ (256 : Int)))) (.opt (F_spec_l1Rd_next n x1 x2) fun r5 => (.ask (decide (x0 = 0)) .fail (.done ((Int.tmod r5.1 x0), r5.2.1, r5.2.2)))) (.opt (F_spec_l1Rd_next n x1 x2) fun r6 => (.opt (F_spec_l1Rd_next n r6.2.1 r6.2.2) fun r7 => (.ask (decide (x0 = 0)) .fail (.done ((Int.tmod (IntKind.i64.wrap ((IntKind.i64.wrap (r6.1 * (256 : Int))) + r7.1)) x0), r7.2.1, r7.2.2)))))))
def F_spec_l1Rd_below : Nat → Int → List (List PV) → Int → Option (Int × (List (List PV)) × Int)
  | 0, _, _, _ => none
  | n + 1, x0, x1, x2 => (T_spec_l1Rd_below n x0 x1 x2).run
theorem ft_spec_l1Rd_below (n : Nat) (x0 : Int) (x1 : List (List PV)) (x2 : Int) : funT (CT_spec_l1Rd_below n) (LT_spec_l1Rd_below n) K_spec_l1Rd_below (A_spec_l1Rd_below x0 x1 x2) (U_spec_l1Rd_below x0 x1 x2) = (T_spec_l1Rd_below n x0 x1 x2).bind fun r => .done (O_spec_l1Rd_below r) := by kernel_rfl
theorem ct_spec_l1Rd_below (n : Nat) : CTok (CT_spec_l1Rd_below n) (runs KP lib n) := mkCT_cons (eo_spec_l1Rd_next n (noEnt_ok)) (mkCT_nil)
theorem th_spec_l1Rd_below : ∀ (n : Nat) (x0 : Int) (x1 : List (List PV)) (x2 : Int) (r : Int × (List (List PV)) × Int), F_spec_l1Rd_below n x0 x1 x2 = some r → runs KP lib n 65 (A_spec_l1Rd_below x0 x1 x2) (U_spec_l1Rd_below x0 x1 x2) = some (O_spec_l1Rd_below r)
  | 0, x0, x1, x2, r, h => by cases h
  | n + 1, x0, x1, x2, r, h => fun_step (kf := K_spec_l1Rd_below) rfl (ct_spec_l1Rd_below n) (noLoops rfl) (ft_spec_l1Rd_below n x0 x1 x2) h
def FH_spec_l1Rd_below (n : Nat) : Cont → Option (Int × (List (List PV)) × Int)
  | ([[[]], [[.i x0]]], [[[[.r x1], [.i x2]]]]) => F_spec_l1Rd_below n x0 x1 x2
  | _ => none
def E_spec_l1Rd_below (n : Nat) (d : List AV → List Go.Eng.Frame → Tr Res) : List AV → List Go.Eng.Frame → Tr Res := cent (A_spec_l1Rd_below (0) ([]) (0)) (U_spec_l1Rd_below (0) ([]) (0)) (FH_spec_l1Rd_below n) O_spec_l1Rd_below d
theorem eo_spec_l1Rd_below (n : Nat) {d : List AV → List Go.Eng.Frame → Tr Res} (hd : ∀ ar up r, (d ar up).run = some r → runs KP lib n 65 ar up = some r) : ∀ ar up r, (E_spec_l1Rd_below n d ar up).run = some r → runs KP lib n 65 ar up = some r :=
  cent_ok (fun hs r h => by
    unfold FH_spec_l1Rd_below at h
    split at h
    · exact ⟨A_spec_l1Rd_below _ _ _, U_spec_l1Rd_below _ _ _, rfl, rfl, th_spec_l1Rd_below n _ _ _ r h⟩
    · cases h) hd
/-! ### (*spec.l1Rd).once -/
def A_spec_l1Rd_once (x0 : Int) (x1 : List (List PV)) (x2 : Int) : List AV := [(.c (.ptr 0 0 0 0 0)), (.c (.p (.i .i64 x0)))]
def U_spec_l1Rd_once (x0 : Int) (x1 : List (List PV)) (x2 : Int) : List Go.Eng.Frame := [[(0, ⟨0, 2, 66, (.box [(.p (.ls x1)), (.p (.i .i64 x2))])⟩)]]
def O_spec_l1Rd_once (r : Bool × (List (List PV)) × Int) : Res := ⟨(.c (.p (.b r.1))), [[(0, ⟨0, 2, 66, (.box [(.p (.ls r.2.1)), (.p (.i .i64 r.2.2))])⟩)]], []⟩
abbrev CT_spec_l1Rd_once (n : Nat) : CTab := mkCT [(65, E_spec_l1Rd_below n (noEnt))]
abbrev LT_spec_l1Rd_once (n : Nat) : LTab := mkLT []
def T_spec_l1Rd_once (n : Nat) (x0 : Int) (x1 : List (List PV)) (x2 : Int) : Tr (Bool × (List (List PV)) × Int) := (.opt (F_spec_l1Rd_below n x0 x1 x2) fun r9 => (.done ((r9.1 == (IntKind.i64.wrap (x0 - (1 : Int)))), r9.2.1, r9.2.2)))
def F_spec_l1Rd_once : Nat → Int → List (List PV) → Int → Option (Bool × (List (List PV)) × Int)
  | 0, _, _, _ => none
  | n + 1, x0, x1, x2 => (T_spec_l1Rd_once n x0 x1 x2).run
theorem ft_spec_l1Rd_once (n : Nat) (x0 : Int) (x1 : List (List PV)) (x2 : Int) : funT (CT_spec_l1Rd_once n) (LT_spec_l1Rd_once n) K_spec_l1Rd_once (A_spec_l1Rd_once x0 x1 x2) (U_spec_l1Rd_once x0 x1 x2) = (T_spec_l1Rd_once n x0 x1 x2).bind fun r => .done (O_spec_l1Rd_once r) := by kernel_rfl
theorem ct_spec_l1Rd_once (n : Nat) : CTok (CT_spec_l1Rd_once n) (runs KP lib n) := mkCT_cons (eo_spec_l1Rd_below n (noEnt_ok)) (mkCT_nil)
theorem th_spec_l1Rd_once : ∀ (n : Nat) (x0 : Int) (x1 : List (List PV)) (x2 : Int) (r : Bool × (List (List PV)) × Int), F_spec_l1Rd_once n x0 x1 x2 = some r → runs KP lib n 52 (A_spec_l1Rd_once x0 x1 x2) (U_spec_l1Rd_once x0 x1 x2) = some (O_spec_l1Rd_once r)
  | 0, x0, x1, x2, r, h => by cases h
  | n + 1, x0, x1, x2, r, h => fun_step (kf := K_spec_l1Rd_once) rfl (ct_spec_l1Rd_once n) (noLoops rfl) (ft_spec_l1Rd_once n x0 x1 x2) h
def FH_spec_l1Rd_once (n : Nat) : Cont → Option (Bool × (List (List PV)) × Int)
  | ([[[]], [[.i x0]]], [[[[.r x1], [.i x2]]]]) => F_spec_l1Rd_once n x0 x1 x2
  | _ => none
def E_spec_l1Rd_once (n : Nat) (d : List AV → List Go.Eng.Frame → Tr Res) : List AV → List Go.Eng.Frame → Tr Res := cent (A_spec_l1Rd_once (0) ([]) (0)) (U_spec_l1Rd_once (0) ([]) (0)) (FH_spec_l1Rd_once n) O_spec_l1Rd_once d
theorem eo_spec_l1Rd_once (n : Nat) {d : List AV → List Go.Eng.Frame → Tr Res} (hd : ∀ ar up r, (d ar up).run = some r → runs KP lib n 52 ar up = some r) : ∀ ar up r, (E_spec_l1Rd_once n d ar up).run = some r → runs KP lib n 52 ar up = some r :=
  cent_ok (fun hs r h => by
    unfold FH_spec_l1Rd_once at h
    split at h
    · exact ⟨A_spec_l1Rd_once _ _ _, U_spec_l1Rd_once _ _ _, rfl, rfl, th_spec_l1Rd_once n _ _ _ r h⟩
    · cases h) hd
/-! ### (*spec.l1Rd).num -/
def A_spec_l1Rd_num (x0 : List (List PV)) (x1 : Int) : List AV := [(.c (.ptr 0 0 0 0 0))]
def U_spec_l1Rd_num (x0 : List (List PV)) (x1 : Int) : List Go.Eng.Frame := [[(0, ⟨0, 2, 66, (.box [(.p (.ls x0)), (.p (.i .i64 x1))])⟩)]]
def O_spec_l1Rd_num (r : Int × (List (List PV)) × Int) : Res := ⟨(.c (.p (.i .i64 r.1))), [[(0, ⟨0, 2, 66, (.box [(.p (.ls r.2.1)), (.p (.i .i64 r.2.2))])⟩)]], []⟩
abbrev CT_spec_l1Rd_num (n : Nat) : CTab := mkCT [(52, E_spec_l1Rd_once n (noEnt)), (65, E_spec_l1Rd_below n (noEnt))]
abbrev LT_spec_l1Rd_num (n : Nat) : LTab := mkLT []
def T_spec_l1Rd_num (n : Nat) (x0 : List (List PV)) (x1 : Int) : Tr (Int × (List (List PV)) × Int) := (.opt (F_spec_l1Rd_once n (5 : Int) x0 x1) fun r10 => (.ask (r10.1) (.opt (F_spec_l1Rd_below n (5 : Int) r10.2.1 r10.2.2) fun r11 => (.ask (decide (5 = ([[(.i .i64 (1000000000000000 : Int))], [(.i .i64 (-1000000000000000 : Int))], [(.i .i64 (999999999999999 : Int))], [(.i .i64 (31622776 : Int))], [(.i .i64 (-31622777 : Int))]] : List (List PV)).length ∧ 0 ≤ r11.1 ∧ r11.1 < ((5 : Nat) : Int))) (.opt (([[(.i .i64 (1000000000000000 : Int))], [(.i .i64 (-1000000000000000 : Int))], [(.i .i64 (999999999999999 : Int))], [(.i .i64 (31622776 : Int))], [(.i .i64 (-31622777 : Int))]] : List (List PV))[(r11.1).toNat]?) fun e12 => (.opt (cellI .i64 e12 0) fun y13 => (.done (y13, r11.2.1, r11.2.2)))) .fail)) (.opt (F_spec_l1Rd_below n (40 : Int) r10.2.1 r10.2.2) fun r14 => (.done ((IntKind.i64.wrap (r14.1 - (20 : Int))), r14.2.1, r14.2.2)))))
def F_spec_l1Rd_num : Nat → List (List PV) → Int → Option (Int × (List (List PV)) × Int)
  | 0, _, _ => none
  | n + 1, x0, x1 => (T_spec_l1Rd_num n x0 x1).run
theorem ft_spec_l1Rd_num (n : Nat) (x0 : List (List PV)) (x1 : Int) : funT (CT_spec_l1Rd_num n) (LT_spec_l1Rd_num n) K_spec_l1Rd_num (A_spec_l1Rd_num x0 x1) (U_spec_l1Rd_num x0 x1) = (T_spec_l1Rd_num n x0 x1).bind fun r => .done (O_spec_l1Rd_num r) := by kernel_rfl
theorem ct_spec_l1Rd_num (n : Nat) : CTok (CT_spec_l1Rd_num n) (runs KP lib n) := mkCT_cons (eo_spec_l1Rd_once n (noEnt_ok)) (mkCT_cons (eo_spec_l1Rd_below n (noEnt_ok)) (mkCT_nil))
theorem th_spec_l1Rd_num : ∀ (n : Nat) (x0 : List (List PV)) (x1 : Int) (r : Int × (List (List PV)) × Int), F_spec_l1Rd_num n x0 x1 = some r → runs KP lib n 66 (A_spec_l1Rd_num x0 x1) (U_spec_l1Rd_num x0 x1) = some (O_spec_l1Rd_num r)
  | 0, x0, x1, r, h => by cases h
  | n + 1, x0, x1, r, h => fun_step (kf := K_spec_l1Rd_num) rfl (ct_spec_l1Rd_num n) (noLoops rfl) (ft_spec_l1Rd_num n x0 x1) h
def FH_spec_l1Rd_num (n : Nat) : Cont → Option (Int × (List (List PV)) × Int)
  | ([[[]]], [[[[.r x0], [.i x1]]]]) => F_spec_l1Rd_num n x0 x1
  | _ => none
def E_spec_l1Rd_num (n : Nat) (d : List AV → List Go.Eng.Frame → Tr Res) : List AV → List Go.Eng.Frame → Tr Res := cent (A_spec_l1Rd_num ([]) (0)) (U_spec_l1Rd_num ([]) (0)) (FH_spec_l1Rd_num n) O_spec_l1Rd_num d
theorem eo_spec_l1Rd_num (n : Nat) {d : List AV → List Go.Eng.Frame → Tr Res} (hd : ∀ ar up r, (d ar up).run = some r → runs KP lib n 66 ar up = some r) : ∀ ar up r, (E_spec_l1Rd_num n d ar up).run = some r → runs KP lib n 66 ar up = some r :=
  cent_ok (fun hs r h => by
    unfold FH_spec_l1Rd_num at h
    split at h
    · exact ⟨A_spec_l1Rd_num _ _, U_spec_l1Rd_num _ _, rfl, rfl, th_spec_l1Rd_num n _ _ r h⟩
    · cases h) hd
/-! ### (*spec.l1Rd).word -/
def A_spec_l1Rd_word (x0 : List (List PV)) (x1 : Int) : List AV := [(.c (.ptr 0 0 0 0 0))]
def U_spec_l1Rd_word (x0 : List (List PV)) (x1 : Int) : List Go.Eng.Frame := [[(0, ⟨0, 2, 66, (.box [(.p (.ls x0)), (.p (.i .i64 x1))])⟩)]]
def O_spec_l1Rd_word (r : Int × (List (List PV)) × Int) : Res := ⟨(.c (.p (.i .u64 r.1))), [[(0, ⟨0, 2, 66, (.box [(.p (.ls r.2.1)), (.p (.i .i64 r.2.2))])⟩)]], []⟩
abbrev CT_spec_l1Rd_word (n : Nat) : CTab := mkCT [(70, E_spec_l1Rd_next n (noEnt))]
def S_spec_l1Rd_word_29 (v : Int × Int × (List (List PV)) × Int) : St := ⟨[(0, (.c (.ptr 0 0 0 0 0))), (3, (.c (.p (.i .u64 v.1)))), (4, (.c (.p (.i .i64 v.2.1))))], [], [[(0, ⟨0, 2, 66, (.box [(.p (.ls v.2.2.1)), (.p (.i .i64 v.2.2.2))])⟩)]]⟩
def B_spec_l1Rd_word_29 (n : Nat) (v : Int × Int × (List (List PV)) × Int) : Tr ((Int × Int × (List (List PV)) × Int) ⊕ ((Int × (List (List PV)) × Int))) := (.ask ((decide (v.2.1 < (8 : Int)))) (.opt (F_spec_l1Rd_next n v.2.2.1 v.2.2.2) fun r29 => (.done (.inl ((IntKind.u64.wrap ((BitVec.ofInt IntKind.u64.bits (IntKind.u64.wrap (v.1 * (2 : Int) ^ (8 : Nat))) ||| BitVec.ofInt IntKind.u64.bits (IntKind.u64.wrap r29.1)).toNat : Int)), (IntKind.i64.wrap (v.2.1 + (1 : Int))), r29.2.1, r29.2.2)))) (.done (.inr ((v.1, v.2.2.1, v.2.2.2)))))
def D_spec_l1Rd_word_29 : (Int × (List (List PV)) × Int) → Ex × St := fun r => ((.exit 0), ⟨[(3, (.c (.p (.i .u64 r.1))))], [], [[(0, ⟨0, 2, 66, (.box [(.p (.ls r.2.1)), (.p (.i .i64 r.2.2))])⟩)]]⟩)
def DT_spec_l1Rd_word_29 : (Int × (List (List PV)) × Int) → Tr (Ex × St) := fun r => .done ((.exit 0), ⟨[(3, (.c (.p (.i .u64 r.1))))], [], [[(0, ⟨0, 2, 66, (.box [(.p (.ls r.2.1)), (.p (.i .i64 r.2.2))])⟩)]]⟩)
def VH_spec_l1Rd_word_29 : Cont3 → Option (Int × Int × (List (List PV)) × Int)
  | ([[[]], [[.i w0]], [[.i w1]]], [], [[[[.r w2], [.i w3]]]]) => some (w0, w1, w2, w3)
  | _ => none
abbrev LE_spec_l1Rd_word_29 (n : Nat) : St → Tr (Ex × St) := lent (S_spec_l1Rd_word_29 (0, 0, [], 0)) VH_spec_l1Rd_word_29 (B_spec_l1Rd_word_29 n) DT_spec_l1Rd_word_29 n
abbrev LT_spec_l1Rd_word (n : Nat) : LTab := mkLT [(29, LE_spec_l1Rd_word_29 n)]
def T_spec_l1Rd_word (n : Nat) (x0 : List (List PV)) (x1 : Int) : Tr (Int × (List (List PV)) × Int) := (.opt (loopF (B_spec_l1Rd_word_29 n) n ((0 : Int), (0 : Int), x0, x1)) fun r30 => (.done (r30.1, r30.2.1, r30.2.2)))
def F_spec_l1Rd_word : Nat → List (List PV) → Int → Option (Int × (List (List PV)) × Int)
  | 0, _, _ => none
  | n + 1, x0, x1 => (T_spec_l1Rd_word n x0 x1).run
theorem ft_spec_l1Rd_word (n : Nat) (x0 : List (List PV)) (x1 : Int) : funT (CT_spec_l1Rd_word n) (LT_spec_l1Rd_word n) K_spec_l1Rd_word (A_spec_l1Rd_word x0 x1) (U_spec_l1Rd_word x0 x1) = (T_spec_l1Rd_word n x0 x1).bind fun r => .done (O_spec_l1Rd_word r) := by kernel_rfl
theorem ct_spec_l1Rd_word (n : Nat) : CTok (CT_spec_l1Rd_word n) (runs KP lib n) := mkCT_cons (eo_spec_l1Rd_next n (noEnt_ok)) (mkCT_nil)
theorem lt_spec_l1Rd_word_29 (n : Nat) (v : Int × Int × (List (List PV)) × Int) : (evalCT (CT_spec_l1Rd_word n) (mkLT []) K_spec_l1Rd_word_L29 (S_spec_l1Rd_word_29 v) []).bind (ltail [0, 3, 4] [(.ret, [2]), ((.exit 0), [3])]) = (B_spec_l1Rd_word_29 n v).bind (lenc S_spec_l1Rd_word_29 D_spec_l1Rd_word_29) := by
  obtain ⟨w0, w1, w2, w3⟩ := v
  kernel_rfl
theorem le_spec_l1Rd_word_29 (n : Nat) : LEok (runs KP lib n) n (29, [0, 3, 4], [(.ret, [2]), ((.exit 0), [3])], K_spec_l1Rd_word_L29) (LE_spec_l1Rd_word_29 n) := fun st e s h =>
  lent_ok (ct_spec_l1Rd_word n) (noLoops rfl) (lt_spec_l1Rd_word_29 n) (fun r h => by cases h) (fun r y h => by cases h; rfl) (fun hs v h => by
    unfold VH_spec_l1Rd_word_29 at h
    split at h <;> cases h
    rfl) h
theorem lo_spec_l1Rd_word (n : Nat) : LTok (LT_spec_l1Rd_word n) (runs KP lib n) n K_spec_l1Rd_word.body := mkLT_ok (by
  intro x hx
  have hx : x ∈ ([(29, [0, 3, 4], [(.ret, [2]), ((.exit 0), [3])], K_spec_l1Rd_word_L29)] : List (Nat × List Nat × List (Ex × List Nat) × KCode)) := hx
  simp only [List.mem_cons, List.not_mem_nil, or_false] at hx
  rcases hx with rfl
  · exact ⟨LE_spec_l1Rd_word_29 n, fun st => rfl, le_spec_l1Rd_word_29 n⟩)
theorem th_spec_l1Rd_word : ∀ (n : Nat) (x0 : List (List PV)) (x1 : Int) (r : Int × (List (List PV)) × Int), F_spec_l1Rd_word n x0 x1 = some r → runs KP lib n 71 (A_spec_l1Rd_word x0 x1) (U_spec_l1Rd_word x0 x1) = some (O_spec_l1Rd_word r)
  | 0, x0, x1, r, h => by cases h
  | n + 1, x0, x1, r, h => fun_step (kf := K_spec_l1Rd_word) rfl (ct_spec_l1Rd_word n) (lo_spec_l1Rd_word n) (ft_spec_l1Rd_word n x0 x1) h
def FH_spec_l1Rd_word (n : Nat) : Cont → Option (Int × (List (List PV)) × Int)
  | ([[[]]], [[[[.r x0], [.i x1]]]]) => F_spec_l1Rd_word n x0 x1
  | _ => none
def E_spec_l1Rd_word (n : Nat) (d : List AV → List Go.Eng.Frame → Tr Res) : List AV → List Go.Eng.Frame → Tr Res := cent (A_spec_l1Rd_word ([]) (0)) (U_spec_l1Rd_word ([]) (0)) (FH_spec_l1Rd_word n) O_spec_l1Rd_word d
theorem eo_spec_l1Rd_word (n : Nat) {d : List AV → List Go.Eng.Frame → Tr Res} (hd : ∀ ar up r, (d ar up).run = some r → runs KP lib n 71 ar up = some r) : ∀ ar up r, (E_spec_l1Rd_word n d ar up).run = some r → runs KP lib n 71 ar up = some r :=
  cent_ok (fun hs r h => by
    unfold FH_spec_l1Rd_word at h
    split at h
    · exact ⟨A_spec_l1Rd_word _ _, U_spec_l1Rd_word _ _, rfl, rfl, th_spec_l1Rd_word n _ _ r h⟩
    · cases h) hd
/-! ### (*spec.l1Rd).near -/
def A_spec_l1Rd_near (x0 : Int) (x1 : Int) (x2 : List (List PV)) (x3 : Int) : List AV := [(.c (.ptr 0 0 0 0 0)), (.c (.p (.i .i64 x0))), (.c (.p (.i .i64 x1)))]
def U_spec_l1Rd_near (x0 : Int) (x1 : Int) (x2 : List (List PV)) (x3 : Int) : List Go.Eng.Frame := [[(0, ⟨0, 2, 66, (.box [(.p (.ls x2)), (.p (.i .i64 x3))])⟩)]]
def O_spec_l1Rd_near (r : Int × (List (List PV)) × Int) : Res := ⟨(.c (.p (.i .i64 r.1))), [[(0, ⟨0, 2, 66, (.box [(.p (.ls r.2.1)), (.p (.i .i64 r.2.2))])⟩)]], []⟩
abbrev CT_spec_l1Rd_near (n : Nat) : CTab := mkCT [(65, E_spec_l1Rd_below n (noEnt)), (71, E_spec_l1Rd_word n (noEnt))]
abbrev LT_spec_l1Rd_near (n : Nat) : LTab := mkLT []
def T_spec_l1Rd_near (n : Nat) (x0 : Int) (x1 : Int) (x2 : List (List PV)) (x3 : Int) : Tr (Int × (List (List PV)) × Int) := (.opt (F_spec_l1Rd_below n (8 : Int) x2 x3) fun r28 => (.ask ((r28.1 == (0 : Int))) (.done (x0, r28.2.1, r28.2.2)) (.ask ((r28.1 == (1 : Int))) (.done (x1, r28.2.1, r28.2.2)) (.ask ((decide (x1 < x0))) (.done (x0, r28.2.1, r28.2.2)) (.opt (F_spec_l1Rd_word n r28.2.1 r28.2.2) fun r31 => (.ask (decide ((IntKind.u64.wrap (IntKind.i64.wrap ((IntKind.i64.wrap (x1 - x0)) + (1 : Int)))) = 0)) .fail (.done ((IntKind.i64.wrap (x0 + (IntKind.i64.wrap (Int.tmod (Int.fdiv r31.1 ((2 : Int) ^ (1 : Nat))) (IntKind.u64.wrap (IntKind.i64.wrap ((IntKind.i64.wrap (x1 - x0)) + (1 : Int)))))))), r31.2.1, r31.2.2))))))))
def F_spec_l1Rd_near : Nat → Int → Int → List (List PV) → Int → Option (Int × (List (List PV)) × Int)
  | 0, _, _, _, _ => none
  | n + 1, x0, x1, x2, x3 => (T_spec_l1Rd_near n x0 x1 x2 x3).run
theorem ft_spec_l1Rd_near (n : Nat) (x0 : Int) (x1 : Int) (x2 : List (List PV)) (x3 : Int) : funT (CT_spec_l1Rd_near n) (LT_spec_l1Rd_near n) K_spec_l1Rd_near (A_spec_l1Rd_near x0 x1 x2 x3) (U_spec_l1Rd_near x0 x1 x2 x3) = (T_spec_l1Rd_near n x0 x1 x2 x3).bind fun r => .done (O_spec_l1Rd_near r) := by kernel_rfl
theorem ct_spec_l1Rd_near (n : Nat) : CTok (CT_spec_l1Rd_near n) (runs KP lib n) := mkCT_cons (eo_spec_l1Rd_below n (noEnt_ok)) (mkCT_cons (eo_spec_l1Rd_word n (noEnt_ok)) (mkCT_nil))
theorem th_spec_l1Rd_near : ∀ (n : Nat) (x0 : Int) (x1 : Int) (x2 : List (List PV)) (x3 : Int) (r : Int × (List (List PV)) × Int), F_spec_l1Rd_near n x0 x1 x2 x3 = some r → runs KP lib n 69 (A_spec_l1Rd_near x0 x1 x2 x3) (U_spec_l1Rd_near x0 x1 x2 x3) = some (O_spec_l1Rd_near r)
  | 0, x0, x1, x2, x3, r, h => by cases h
  | n + 1, x0, x1, x2, x3, r, h => fun_step (kf := K_spec_l1Rd_near) rfl (ct_spec_l1Rd_near n) (noLoops rfl) (ft_spec_l1Rd_near n x0 x1 x2 x3) h
def FH_spec_l1Rd_near (n : Nat) : Cont → Option (Int × (List (List PV)) × Int)
  | ([[[]], [[.i x0]], [[.i x1]]], [[[[.r x2], [.i x3]]]]) => F_spec_l1Rd_near n x0 x1 x2 x3
  | _ => none
def E_spec_l1Rd_near (n : Nat) (d : List AV → List Go.Eng.Frame → Tr Res) : List AV → List Go.Eng.Frame → Tr Res := cent (A_spec_l1Rd_near (0) (0) ([]) (0)) (U_spec_l1Rd_near (0) (0) ([]) (0)) (FH_spec_l1Rd_near n) O_spec_l1Rd_near d
theorem eo_spec_l1Rd_near (n : Nat) {d : List AV → List Go.Eng.Frame → Tr Res} (hd : ∀ ar up r, (d ar up).run = some r → runs KP lib n 69 ar up = some r) : ∀ ar up r, (E_spec_l1Rd_near n d ar up).run = some r → runs KP lib n 69 ar up = some r :=
  cent_ok (fun hs r h => by
    unfold FH_spec_l1Rd_near at h
    split at h
    · exact ⟨A_spec_l1Rd_near _ _ _ _, U_spec_l1Rd_near _ _ _ _, rfl, rfl, th_spec_l1Rd_near n _ _ _ _ r h⟩
    · cases h) hd
/-! ### (*spec.l1Rd).off -/
def A_spec_l1Rd_off (x0 : Int) (x1 : Int) (x2 : List (List PV)) (x3 : Int) : List AV := [(.c (.ptr 0 0 0 0 0)), (.c (.p (.i .i64 x0))), (.c (.p (.i .i64 x1)))]
def U_spec_l1Rd_off (x0 : Int) (x1 : Int) (x2 : List (List PV)) (x3 : Int) : List Go.Eng.Frame := [[(0, ⟨0, 2, 66, (.box [(.p (.ls x2)), (.p (.i .i64 x3))])⟩)]]
def O_spec_l1Rd_off (r : Int × (List (List PV)) × Int) : Res := ⟨(.c (.p (.i .i64 r.1))), [[(0, ⟨0, 2, 66, (.box [(.p (.ls r.2.1)), (.p (.i .i64 r.2.2))])⟩)]], []⟩
abbrev CT_spec_l1Rd_off (n : Nat) : CTab := mkCT [(52, E_spec_l1Rd_once n (noEnt)), (65, E_spec_l1Rd_below n (noEnt)), (69, E_spec_l1Rd_near n (noEnt))]
abbrev LT_spec_l1Rd_off (n : Nat) : LTab := mkLT []
def T_spec_l1Rd_off (n : Nat) (x0 : Int) (x1 : Int) (x2 : List (List PV)) (x3 : Int) : Tr (Int × (List (List PV)) × Int) := (.opt (F_spec_l1Rd_once n (24 : Int) x2 x3) fun r24 => (.ask (r24.1) (.opt (F_spec_l1Rd_below n (4 : Int) r24.2.1 r24.2.2) fun r25 => (.ask (decide (4 = ([[(.i .i64 (IntKind.i64.wrap (x0 - (1 : Int))))], [(.i .i64 (IntKind.i64.wrap (x1 + (1 : Int))))], [(.i .i64 (-9223372036854775808 : Int))], [(.i .i64 (9223372036854775807 : Int))]] : List (List PV)).length ∧ 0 ≤ r25.1 ∧ r25.1 < ((4 : Nat) : Int))) (.opt (([[(.i .i64 (IntKind.i64.wrap (x0 - (1 : Int))))], [(.i .i64 (IntKind.i64.wrap (x1 + (1 : Int))))], [(.i .i64 (-9223372036854775808 : Int))], [(.i .i64 (9223372036854775807 : Int))]] : List (List PV))[(r25.1).toNat]?) fun e26 => (.opt (cellI .i64 e26 0) fun y27 => (.done (y27, r25.2.1, r25.2.2)))) .fail)) (.opt (F_spec_l1Rd_near n x0 x1 r24.2.1 r24.2.2) fun r32 => (.done (r32.1, r32.2.1, r32.2.2)))))
def F_spec_l1Rd_off : Nat → Int → Int → List (List PV) → Int → Option (Int × (List (List PV)) × Int)
  | 0, _, _, _, _ => none
  | n + 1, x0, x1, x2, x3 => (T_spec_l1Rd_off n x0 x1 x2 x3).run
theorem ft_spec_l1Rd_off (n : Nat) (x0 : Int) (x1 : Int) (x2 : List (List PV)) (x3 : Int) : funT (CT_spec_l1Rd_off n) (LT_spec_l1Rd_off n) K_spec_l1Rd_off (A_spec_l1Rd_off x0 x1 x2 x3) (U_spec_l1Rd_off x0 x1 x2 x3) = (T_spec_l1Rd_off n x0 x1 x2 x3).bind fun r => .done (O_spec_l1Rd_off r) := by kernel_rfl
theorem ct_spec_l1Rd_off (n : Nat) : CTok (CT_spec_l1Rd_off n) (runs KP lib n) := mkCT_cons (eo_spec_l1Rd_once n (noEnt_ok)) (mkCT_cons (eo_spec_l1Rd_below n (noEnt_ok)) (mkCT_cons (eo_spec_l1Rd_near n (noEnt_ok)) (mkCT_nil)))
theorem th_spec_l1Rd_off : ∀ (n : Nat) (x0 : Int) (x1 : Int) (x2 : List (List PV)) (x3 : Int) (r : Int × (List (List PV)) × Int), F_spec_l1Rd_off n x0 x1 x2 x3 = some r → runs KP lib n 60 (A_spec_l1Rd_off x0 x1 x2 x3) (U_spec_l1Rd_off x0 x1 x2 x3) = some (O_spec_l1Rd_off r)
  | 0, x0, x1, x2, x3, r, h => by cases h
  | n + 1, x0, x1, x2, x3, r, h => fun_step (kf := K_spec_l1Rd_off) rfl (ct_spec_l1Rd_off n) (noLoops rfl) (ft_spec_l1Rd_off n x0 x1 x2 x3) h
def FH_spec_l1Rd_off (n : Nat) : Cont → Option (Int × (List (List PV)) × Int)
  | ([[[]], [[.i x0]], [[.i x1]]], [[[[.r x2], [.i x3]]]]) => F_spec_l1Rd_off n x0 x1 x2 x3
  | _ => none
def E_spec_l1Rd_off (n : Nat) (d : List AV → List Go.Eng.Frame → Tr Res) : List AV → List Go.Eng.Frame → Tr Res := cent (A_spec_l1Rd_off (0) (0) ([]) (0)) (U_spec_l1Rd_off (0) (0) ([]) (0)) (FH_spec_l1Rd_off n) O_spec_l1Rd_off d
theorem eo_spec_l1Rd_off (n : Nat) {d : List AV → List Go.Eng.Frame → Tr Res} (hd : ∀ ar up r, (d ar up).run = some r → runs KP lib n 60 ar up = some r) : ∀ ar up r, (E_spec_l1Rd_off n d ar up).run = some r → runs KP lib n 60 ar up = some r :=
  cent_ok (fun hs r h => by
    unfold FH_spec_l1Rd_off at h
    split at h
    · exact ⟨A_spec_l1Rd_off _ _ _ _, U_spec_l1Rd_off _ _ _ _, rfl, rfl, th_spec_l1Rd_off n _ _ _ _ r h⟩
    · cases h) hd
/-! ### (*spec.l1Rd).value -/
def A_spec_l1Rd_value (x0 : List (List PV)) (x1 : Int) : List AV := [(.c (.ptr 0 0 0 0 0))]
def U_spec_l1Rd_value (x0 : List (List PV)) (x1 : Int) : List Go.Eng.Frame := [[(0, ⟨0, 2, 66, (.box [(.p (.ls x0)), (.p (.i .i64 x1))])⟩)]]
def O_spec_l1Rd_value (r : Int × Int × ByteArray × (List (List PV)) × Int) : Res := ⟨(.agg [(.p (.i .i64 r.1)), (.p (.i .i64 r.2.1)), (.p (.s r.2.2.1))]), [[(0, ⟨0, 2, 66, (.box [(.p (.ls r.2.2.2.1)), (.p (.i .i64 r.2.2.2.2))])⟩)]], []⟩
abbrev CT_spec_l1Rd_value (n : Nat) : CTab := mkCT [(65, E_spec_l1Rd_below n (noEnt)), (66, E_spec_l1Rd_num n (noEnt)), (52, E_spec_l1Rd_once n (noEnt)), (60, E_spec_l1Rd_off n (noEnt))]
abbrev LT_spec_l1Rd_value (n : Nat) : LTab := mkLT []
def T_spec_l1Rd_value (n : Nat) (x0 : List (List PV)) (x1 : Int) : Tr (Int × Int × ByteArray × (List (List PV)) × Int) := (.opt (F_spec_l1Rd_below n (8 : Int) x0 x1) fun r8 => (.ask ((r8.1 == (0 : Int))) (.done ((0 : Int), (0 : Int), (⟨#[]⟩ : ByteArray), r8.2.1, r8.2.2)) (.ask ((r8.1 == (1 : Int))) (.opt (F_spec_l1Rd_num n r8.2.1 r8.2.2) fun r15 => (.done ((1 : Int), r15.1, (⟨#[]⟩ : ByteArray), r15.2.1, r15.2.2))) (.ask ((r8.1 == (2 : Int))) (.opt (F_spec_l1Rd_num n r8.2.1 r8.2.2) fun r16 => (.done ((1 : Int), r16.1, (⟨#[]⟩ : ByteArray), r16.2.1, r16.2.2))) (.ask ((r8.1 == (3 : Int))) (.opt (F_spec_l1Rd_num n r8.2.1 r8.2.2) fun r17 => (.done ((1 : Int), r17.1, (⟨#[]⟩ : ByteArray), r17.2.1, r17.2.2))) (.ask ((r8.1 == (4 : Int))) (.opt (F_spec_l1Rd_below n (6 : Int) r8.2.1 r8.2.2) fun r18 => (.ask (decide (6 = ([[(.s (⟨#[]⟩ : ByteArray))], [(.s (⟨#[97]⟩ : ByteArray))], [(.s (⟨#[97, 98]⟩ : ByteArray))], [(.s (⟨#[49]⟩ : ByteArray))], [(.s (⟨#[39]⟩ : ByteArray))], [(.s (⟨#[34, 113, 34]⟩ : ByteArray))]] : List (List PV)).length ∧ 0 ≤ r18.1 ∧ r18.1 < ((6 : Nat) : Int))) (.opt (([[(.s (⟨#[]⟩ : ByteArray))], [(.s (⟨#[97]⟩ : ByteArray))], [(.s (⟨#[97, 98]⟩ : ByteArray))], [(.s (⟨#[49]⟩ : ByteArray))], [(.s (⟨#[39]⟩ : ByteArray))], [(.s (⟨#[34, 113, 34]⟩ : ByteArray))]] : List (List PV))[(r18.1).toNat]?) fun e19 => (.opt (cellS e19 0) fun y20 => (.done ((2 : Int), (0 : Int), y20, r18.2.1, r18.2.2)))) .fail)) (.ask ((r8.1 == (5 : Int))) (.opt (F_spec_l1Rd_below n (2 : Int) r8.2.1 r8.2.2) fun r21 => (.done ((3 : Int), r21.1, (⟨#[]⟩ : ByteArray), r21.2.1, r21.2.2))) (.ask ((r8.1 == (6 : Int))) (.opt (F_spec_l1Rd_below n (5 : Int) r8.2.1 r8.2.2) fun r22 => (.done ((4 : Int), (IntKind.i64.wrap ((1 : Int) + r22.1)), (⟨#[]⟩ : ByteArray), r22.2.1, r22.2.2))) (.opt (F_spec_l1Rd_once n (4 : Int) r8.2.1 r8.2.2) fun r23 => (.ask (r23.1) (.opt (F_spec_l1Rd_off n (0 : Int) (4 : Int) r23.2.1 r23.2.2) fun r33 => (.opt (F_spec_l1Rd_off n (0 : Int) (5 : Int) r33.2.1 r33.2.2) fun r34 => (.done (r33.1, r34.1, (⟨#[]⟩ : ByteArray), r34.2.1, r34.2.2)))) (.opt (F_spec_l1Rd_below n (5 : Int) r23.2.1 r23.2.2) fun r35 => (.done ((1 : Int), r35.1, (⟨#[]⟩ : ByteArray), r35.2.1, r35.2.2)))))))))))))
def F_spec_l1Rd_value : Nat → List (List PV) → Int → Option (Int × Int × ByteArray × (List (List PV)) × Int)
  | 0, _, _ => none
  | n + 1, x0, x1 => (T_spec_l1Rd_value n x0 x1).run
theorem ft_spec_l1Rd_value (n : Nat) (x0 : List (List PV)) (x1 : Int) : funT (CT_spec_l1Rd_value n) (LT_spec_l1Rd_value n) K_spec_l1Rd_value (A_spec_l1Rd_value x0 x1) (U_spec_l1Rd_value x0 x1) = (T_spec_l1Rd_value n x0 x1).bind fun r => .done (O_spec_l1Rd_value r) := by kernel_rfl
theorem ct_spec_l1Rd_value (n : Nat) : CTok (CT_spec_l1Rd_value n) (runs KP lib n) := mkCT_cons (eo_spec_l1Rd_below n (noEnt_ok)) (mkCT_cons (eo_spec_l1Rd_num n (noEnt_ok)) (mkCT_cons (eo_spec_l1Rd_once n (noEnt_ok)) (mkCT_cons (eo_spec_l1Rd_off n (noEnt_ok)) (mkCT_nil))))
theorem th_spec_l1Rd_value : ∀ (n : Nat) (x0 : List (List PV)) (x1 : Int) (r : Int × Int × ByteArray × (List (List PV)) × Int), F_spec_l1Rd_value n x0 x1 = some r → runs KP lib n 51 (A_spec_l1Rd_value x0 x1) (U_spec_l1Rd_value x0 x1) = some (O_spec_l1Rd_value r)
  | 0, x0, x1, r, h => by cases h
  | n + 1, x0, x1, r, h => fun_step (kf := K_spec_l1Rd_value) rfl (ct_spec_l1Rd_value n) (noLoops rfl) (ft_spec_l1Rd_value n x0 x1) h
def FH_spec_l1Rd_value (n : Nat) : Cont → Option (Int × Int × ByteArray × (List (List PV)) × Int)
  | ([[[]]], [[[[.r x0], [.i x1]]]]) => F_spec_l1Rd_value n x0 x1
  | _ => none
def E_spec_l1Rd_value (n : Nat) (d : List AV → List Go.Eng.Frame → Tr Res) : List AV → List Go.Eng.Frame → Tr Res := cent (A_spec_l1Rd_value ([]) (0)) (U_spec_l1Rd_value ([]) (0)) (FH_spec_l1Rd_value n) O_spec_l1Rd_value d
theorem eo_spec_l1Rd_value (n : Nat) {d : List AV → List Go.Eng.Frame → Tr Res} (hd : ∀ ar up r, (d ar up).run = some r → runs KP lib n 51 ar up = some r) : ∀ ar up r, (E_spec_l1Rd_value n d ar up).run = some r → runs KP lib n 51 ar up = some r :=
  cent_ok (fun hs r h => by
    unfold FH_spec_l1Rd_value at h
    split at h
    · exact ⟨A_spec_l1Rd_value _ _, U_spec_l1Rd_value _ _, rfl, rfl, th_spec_l1Rd_value n _ _ r h⟩
    · cases h) hd
/-! ### spec.DrawOrder -/
def A_spec_DrawOrder (x0 : List (List PV)) : List AV := [(.c (.p (.ls x0)))]
def U_spec_DrawOrder (x0 : List (List PV)) : List Go.Eng.Frame := []
def O_spec_DrawOrder (r : Int × Int × ByteArray × Int × Int × ByteArray) : Res := ⟨(.tup [(true, [(.p (.i .i64 r.1)), (.p (.i .i64 r.2.1)), (.p (.s r.2.2.1))]), (true, [(.p (.i .i64 r.2.2.2.1)), (.p (.i .i64 r.2.2.2.2.1)), (.p (.s r.2.2.2.2.2))])]), [], []⟩
abbrev CT_spec_DrawOrder (n : Nat) : CTab := mkCT [(50, E_spec_l1Open n (noEnt)), (51, E_spec_l1Rd_value n (noEnt)), (52, E_spec_l1Rd_once n (noEnt))]
abbrev LT_spec_DrawOrder (n : Nat) : LTab := mkLT []
def T_spec_DrawOrder (n : Nat) (x0 : List (List PV)) : Tr (Int × Int × ByteArray × Int × Int × ByteArray) := (.opt (F_spec_l1Open n x0) fun r2 => (.opt (F_spec_l1Rd_value n r2.1 r2.2) fun r36 => (.opt (F_spec_l1Rd_once n (5 : Int) r36.2.2.2.1 r36.2.2.2.2) fun r37 => (.ask (r37.1) (.done (r36.1, r36.2.1, r36.2.2.1, r36.1, r36.2.1, r36.2.2.1)) (.opt (F_spec_l1Rd_value n r37.2.1 r37.2.2) fun r38 => (.done (r36.1, r36.2.1, r36.2.2.1, r38.1, r38.2.1, r38.2.2.1)))))))
def F_spec_DrawOrder : Nat → List (List PV) → Option (Int × Int × ByteArray × Int × Int × ByteArray)
  | 0, _ => none
  | n + 1, x0 => (T_spec_DrawOrder n x0).run
theorem ft_spec_DrawOrder (n : Nat) (x0 : List (List PV)) : funT (CT_spec_DrawOrder n) (LT_spec_DrawOrder n) K_spec_DrawOrder (A_spec_DrawOrder x0) (U_spec_DrawOrder x0) = (T_spec_DrawOrder n x0).bind fun r => .done (O_spec_DrawOrder r) := by kernel_rfl
theorem ct_spec_DrawOrder (n : Nat) : CTok (CT_spec_DrawOrder n) (runs KP lib n) := mkCT_cons (eo_spec_l1Open n (noEnt_ok)) (mkCT_cons (eo_spec_l1Rd_value n (noEnt_ok)) (mkCT_cons (eo_spec_l1Rd_once n (noEnt_ok)) (mkCT_nil)))
theorem th_spec_DrawOrder : ∀ (n : Nat) (x0 : List (List PV)) (r : Int × Int × ByteArray × Int × Int × ByteArray), F_spec_DrawOrder n x0 = some r → runs KP lib n 23 (A_spec_DrawOrder x0) (U_spec_DrawOrder x0) = some (O_spec_DrawOrder r)
  | 0, x0, r, h => by cases h
  | n + 1, x0, r, h => fun_step (kf := K_spec_DrawOrder) rfl (ct_spec_DrawOrder n) (noLoops rfl) (ft_spec_DrawOrder n x0) h
def FH_spec_DrawOrder (n : Nat) : Cont → Option (Int × Int × ByteArray × Int × Int × ByteArray)
  | ([[[.r x0]]], []) => F_spec_DrawOrder n x0
  | _ => none
def E_spec_DrawOrder (n : Nat) (d : List AV → List Go.Eng.Frame → Tr Res) : List AV → List Go.Eng.Frame → Tr Res := cent (A_spec_DrawOrder ([])) (U_spec_DrawOrder ([])) (FH_spec_DrawOrder n) O_spec_DrawOrder d
theorem eo_spec_DrawOrder (n : Nat) {d : List AV → List Go.Eng.Frame → Tr Res} (hd : ∀ ar up r, (d ar up).run = some r → runs KP lib n 23 ar up = some r) : ∀ ar up r, (E_spec_DrawOrder n d ar up).run = some r → runs KP lib n 23 ar up = some r :=
  cent_ok (fun hs r h => by
    unfold FH_spec_DrawOrder at h
    split at h
    · exact ⟨A_spec_DrawOrder _, U_spec_DrawOrder _, rfl, rfl, th_spec_DrawOrder n _ r h⟩
    · cases h) hd
/-! ### spec.DrawOver -/
def A_spec_DrawOver (x0 : List (List PV)) : List AV := [(.c (.p (.ls x0)))]
def U_spec_DrawOver (x0 : List (List PV)) : List Go.Eng.Frame := []
def O_spec_DrawOver (r : Int × Int × ByteArray × Int × Int × ByteArray) : Res := ⟨(.tup [(true, [(.p (.i .i64 r.1)), (.p (.i .i64 r.2.1)), (.p (.s r.2.2.1))]), (true, [(.p (.i .i64 r.2.2.2.1)), (.p (.i .i64 r.2.2.2.2.1)), (.p (.s r.2.2.2.2.2))])]), [], []⟩
abbrev CT_spec_DrawOver (n : Nat) : CTab := mkCT [(23, E_spec_DrawOrder n (noEnt))]
abbrev LT_spec_DrawOver (n : Nat) : LTab := mkLT []
def T_spec_DrawOver (n : Nat) (x0 : List (List PV)) : Tr (Int × Int × ByteArray × Int × Int × ByteArray) := (.opt (F_spec_DrawOrder n x0) fun r39 => (.done (r39.1, r39.2.1, r39.2.2.1, r39.2.2.2.1, r39.2.2.2.2.1, r39.2.2.2.2.2)))
def F_spec_DrawOver : Nat → List (List PV) → Option (Int × Int × ByteArray × Int × Int × ByteArray)
  | 0, _ => none
  | n + 1, x0 => (T_spec_DrawOver n x0).run
theorem ft_spec_DrawOver (n : Nat) (x0 : List (List PV)) : funT (CT_spec_DrawOver n) (LT_spec_DrawOver n) K_spec_DrawOver (A_spec_DrawOver x0) (U_spec_DrawOver x0) = (T_spec_DrawOver n x0).bind fun r => .done (O_spec_DrawOver r) := by kernel_rfl
theorem ct_spec_DrawOver (n : Nat) : CTok (CT_spec_DrawOver n) (runs KP lib n) := mkCT_cons (eo_spec_DrawOrder n (noEnt_ok)) (mkCT_nil)
theorem th_spec_DrawOver : ∀ (n : Nat) (x0 : List (List PV)) (r : Int × Int × ByteArray × Int × Int × ByteArray), F_spec_DrawOver n x0 = some r → runs KP lib n 27 (A_spec_DrawOver x0) (U_spec_DrawOver x0) = some (O_spec_DrawOver r)
  | 0, x0, r, h => by cases h
  | n + 1, x0, r, h => fun_step (kf := K_spec_DrawOver) rfl (ct_spec_DrawOver n) (noLoops rfl) (ft_spec_DrawOver n x0) h
def FH_spec_DrawOver (n : Nat) : Cont → Option (Int × Int × ByteArray × Int × Int × ByteArray)
  | ([[[.r x0]]], []) => F_spec_DrawOver n x0
  | _ => none
def E_spec_DrawOver (n : Nat) (d : List AV → List Go.Eng.Frame → Tr Res) : List AV → List Go.Eng.Frame → Tr Res := cent (A_spec_DrawOver ([])) (U_spec_DrawOver ([])) (FH_spec_DrawOver n) O_spec_DrawOver d
theorem eo_spec_DrawOver (n : Nat) {d : List AV → List Go.Eng.Frame → Tr Res} (hd : ∀ ar up r, (d ar up).run = some r → runs KP lib n 27 ar up = some r) : ∀ ar up r, (E_spec_DrawOver n d ar up).run = some r → runs KP lib n 27 ar up = some r :=
  cent_ok (fun hs r h => by
    unfold FH_spec_DrawOver at h
    split at h
    · exact ⟨A_spec_DrawOver _, U_spec_DrawOver _, rfl, rfl, th_spec_DrawOver n _ r h⟩
    · cases h) hd
/-! ### impl.isText -/
def A_impl_isText (x0 : ByteArray) (x1 : Int) : List AV := [(.c (.p (.s x0))), (.c (.p (.i .i64 x1)))]
def U_impl_isText (x0 : ByteArray) (x1 : Int) : List Go.Eng.Frame := []
def O_impl_isText (r : Bool) : Res := ⟨(.c (.p (.b r))), [], []⟩
abbrev CT_impl_isText (n : Nat) : CTab := mkCT []
def S_impl_isText_13 (v : ByteArray × Int × Int × Int) : St := ⟨[(0, (.c (.p (.s v.1)))), (1, (.c (.p (.i .i64 v.2.1)))), (7, (.c (.p (.i .i64 v.2.2.1)))), (8, (.c (.p (.i .i64 v.2.2.2))))], [], []⟩
def B_impl_isText_13 (n : Nat) (v : ByteArray × Int × Int × Int) : Tr ((ByteArray × Int × Int × Int) ⊕ ((Bool) ⊕ (ByteArray × Int))) := (.ask ((decide (v.2.2.2 < v.2.2.1))) (.ask (decide (0 ≤ v.2.2.2)) (.opt (v.1.toList[(v.2.2.2).toNat]?) fun c41 => (.ask ((decide ((c41.toNat : Int) < (32 : Int)))) (.done (.inr (.inl (false)))) (.ask (decide (0 ≤ v.2.2.2)) (.opt (v.1.toList[(v.2.2.2).toNat]?) fun c42 => (.ask ((decide ((c42.toNat : Int) > (126 : Int)))) (.done (.inr (.inl (false)))) (.done (.inl (v.1, v.2.1, v.2.2.1, (IntKind.i64.wrap (v.2.2.2 + (1 : Int)))))))) .fail))) .fail) (.done (.inr (.inr ((v.1, v.2.1))))))
def D_impl_isText_13 : ((Bool) ⊕ (ByteArray × Int)) → Ex × St := fun | .inl r => (.ret, ⟨[(4, (.c (.p (.b r))))], [], []⟩) | .inr r => (fun r => ((.exit 0), ⟨[(0, (.c (.p (.s r.1)))), (1, (.c (.p (.i .i64 r.2))))], [], []⟩)) r
def DT_impl_isText_13 : ((Bool) ⊕ (ByteArray × Int)) → Tr (Ex × St) := fun r => .alt r (fun r => .done (.ret, ⟨[(4, (.c (.p (.b r))))], [], []⟩)) (fun r => .done ((.exit 0), ⟨[(0, (.c (.p (.s r.1)))), (1, (.c (.p (.i .i64 r.2))))], [], []⟩))
def VH_impl_isText_13 : Cont3 → Option (ByteArray × Int × Int × Int)
  | ([[[.s w0]], [[.i w1]], [[.i w2]], [[.i w3]]], [], []) => some (w0, w1, w2, w3)
  | _ => none
abbrev LE_impl_isText_13 (n : Nat) : St → Tr (Ex × St) := lent (S_impl_isText_13 (⟨#[]⟩, 0, 0, 0)) VH_impl_isText_13 (B_impl_isText_13 n) DT_impl_isText_13 n
abbrev LT_impl_isText (n : Nat) : LTab := mkLT [(13, LE_impl_isText_13 n)]
def T_impl_isText (n : Nat) (x0 : ByteArray) (x1 : Int) : Tr (Bool) := (.opt (loopF (B_impl_isText_13 n) n (x0, x1, (x0.size : Int), (0 : Int))) fun r43 => (.alt r43 (fun r44 => (.done r44)) (fun r45 => (.done (decide ((r45.1.size : Int) ≤ r45.2))))))
def F_impl_isText : Nat → ByteArray → Int → Option (Bool)
  | 0, _, _ => none
  | n + 1, x0, x1 => (T_impl_isText n x0 x1).run
theorem ft_impl_isText (n : Nat) (x0 : ByteArray) (x1 : Int) : funT (CT_impl_isText n) (LT_impl_isText n) K_impl_isText (A_impl_isText x0 x1) (U_impl_isText x0 x1) = (T_impl_isText n x0 x1).bind fun r => .done (O_impl_isText r) := by kernel_rfl
theorem ct_impl_isText (n : Nat) : CTok (CT_impl_isText n) (runs KP lib n) := mkCT_nil
theorem lt_impl_isText_13 (n : Nat) (v : ByteArray × Int × Int × Int) : (evalCT (CT_impl_isText n) (mkLT []) K_impl_isText_L13 (S_impl_isText_13 v) []).bind (ltail [0, 1, 7, 8] [(.ret, [4]), ((.exit 0), [0, 1])]) = (B_impl_isText_13 n v).bind (lenc S_impl_isText_13 D_impl_isText_13) := by
  obtain ⟨w0, w1, w2, w3⟩ := v
  kernel_rfl
theorem le_impl_isText_13 (n : Nat) : LEok (runs KP lib n) n (13, [0, 1, 7, 8], [(.ret, [4]), ((.exit 0), [0, 1])], K_impl_isText_L13) (LE_impl_isText_13 n) := fun st e s h =>
  lent_ok (ct_impl_isText n) (noLoops rfl) (lt_impl_isText_13 n) (fun r => by
    rcases r with r | r <;> (intro h; cases h)) (fun r y h => by
    rcases r with r | r <;> (cases h; rfl)) (fun hs v h => by
    unfold VH_impl_isText_13 at h
    split at h <;> cases h
    rfl) h
theorem lo_impl_isText (n : Nat) : LTok (LT_impl_isText n) (runs KP lib n) n K_impl_isText.body := mkLT_ok (by
  intro x hx
  have hx : x ∈ ([(13, [0, 1, 7, 8], [(.ret, [4]), ((.exit 0), [0, 1])], K_impl_isText_L13)] : List (Nat × List Nat × List (Ex × List Nat) × KCode)) := hx
  simp only [List.mem_cons, List.not_mem_nil, or_false] at hx
  rcases hx with rfl
  · exact ⟨LE_impl_isText_13 n, fun st => rfl, le_impl_isText_13 n⟩)
theorem th_impl_isText : ∀ (n : Nat) (x0 : ByteArray) (x1 : Int) (r : Bool), F_impl_isText n x0 x1 = some r → runs KP lib n 64 (A_impl_isText x0 x1) (U_impl_isText x0 x1) = some (O_impl_isText r)
  | 0, x0, x1, r, h => by cases h
  | n + 1, x0, x1, r, h => fun_step (kf := K_impl_isText) rfl (ct_impl_isText n) (lo_impl_isText n) (ft_impl_isText n x0 x1) h
def FH_impl_isText (n : Nat) : Cont → Option (Bool)
  | ([[[.s x0]], [[.i x1]]], []) => F_impl_isText n x0 x1
  | _ => none
def E_impl_isText (n : Nat) (d : List AV → List Go.Eng.Frame → Tr Res) : List AV → List Go.Eng.Frame → Tr Res := cent (A_impl_isText (⟨#[]⟩) (0)) (U_impl_isText (⟨#[]⟩) (0)) (FH_impl_isText n) O_impl_isText d
theorem eo_impl_isText (n : Nat) {d : List AV → List Go.Eng.Frame → Tr Res} (hd : ∀ ar up r, (d ar up).run = some r → runs KP lib n 64 ar up = some r) : ∀ ar up r, (E_impl_isText n d ar up).run = some r → runs KP lib n 64 ar up = some r :=
  cent_ok (fun hs r h => by
    unfold FH_impl_isText at h
    split at h
    · exact ⟨A_impl_isText _ _, U_impl_isText _ _, rfl, rfl, th_impl_isText n _ _ r h⟩
    · cases h) hd
/-! ### impl.within -/
def A_impl_within (x0 : Int) (x1 : Int) (x2 : Int) : List AV := [(.c (.p (.i .i64 x0))), (.c (.p (.i .i64 x1))), (.c (.p (.i .i64 x2)))]
def U_impl_within (x0 : Int) (x1 : Int) (x2 : Int) : List Go.Eng.Frame := []
def O_impl_within (r : Bool) : Res := ⟨(.c (.p (.b r))), [], []⟩
abbrev CT_impl_within (n : Nat) : CTab := mkCT []
abbrev LT_impl_within (n : Nat) : LTab := mkLT []
def T_impl_within (n : Nat) (x0 : Int) (x1 : Int) (x2 : Int) : Tr (Bool) := (.ask ((decide (x0 ≥ x1))) (.done (decide (x0 ≤ x2))) (.done false))
def F_impl_within : Nat → Int → Int → Int → Option (Bool)
  | 0, _, _, _ => none
  | n + 1, x0, x1, x2 => (T_impl_within n x0 x1 x2).run
theorem ft_impl_within (n : Nat) (x0 : Int) (x1 : Int) (x2 : Int) : funT (CT_impl_within n) (LT_impl_within n) K_impl_within (A_impl_within x0 x1 x2) (U_impl_within x0 x1 x2) = (T_impl_within n x0 x1 x2).bind fun r => .done (O_impl_within r) := by kernel_rfl
theorem ct_impl_within (n : Nat) : CTok (CT_impl_within n) (runs KP lib n) := mkCT_nil
theorem th_impl_within : ∀ (n : Nat) (x0 : Int) (x1 : Int) (x2 : Int) (r : Bool), F_impl_within n x0 x1 x2 = some r → runs KP lib n 48 (A_impl_within x0 x1 x2) (U_impl_within x0 x1 x2) = some (O_impl_within r)
  | 0, x0, x1, x2, r, h => by cases h
  | n + 1, x0, x1, x2, r, h => fun_step (kf := K_impl_within) rfl (ct_impl_within n) (noLoops rfl) (ft_impl_within n x0 x1 x2) h
def FH_impl_within (n : Nat) : Cont → Option (Bool)
  | ([[[.i x0]], [[.i x1]], [[.i x2]]], []) => F_impl_within n x0 x1 x2
  | _ => none
def E_impl_within (n : Nat) (d : List AV → List Go.Eng.Frame → Tr Res) : List AV → List Go.Eng.Frame → Tr Res := cent (A_impl_within (0) (0) (0)) (U_impl_within (0) (0) (0)) (FH_impl_within n) O_impl_within d
theorem eo_impl_within (n : Nat) {d : List AV → List Go.Eng.Frame → Tr Res} (hd : ∀ ar up r, (d ar up).run = some r → runs KP lib n 48 ar up = some r) : ∀ ar up r, (E_impl_within n d ar up).run = some r → runs KP lib n 48 ar up = some r :=
  cent_ok (fun hs r h => by
    unfold FH_impl_within at h
    split at h
    · exact ⟨A_impl_within _ _ _, U_impl_within _ _ _, rfl, rfl, th_impl_within n _ _ _ r h⟩
    · cases h) hd
/-! ### impl.ValueOk -/
def A_impl_ValueOk (x0 : Int) (x1 : Int) (x2 : ByteArray) : List AV := [(.agg [(.p (.i .i64 x0)), (.p (.i .i64 x1)), (.p (.s x2))])]
def U_impl_ValueOk (x0 : Int) (x1 : Int) (x2 : ByteArray) : List Go.Eng.Frame := []
def O_impl_ValueOk (r : Bool) : Res := ⟨(.c (.p (.b r))), [], []⟩
abbrev CT_impl_ValueOk (n : Nat) : CTab := mkCT [(64, E_impl_isText n (noEnt)), (48, E_impl_within n (noEnt))]
abbrev LT_impl_ValueOk (n : Nat) : LTab := mkLT []
def T_impl_ValueOk (n : Nat) (x0 : Int) (x1 : Int) (x2 : ByteArray) : Tr (Bool) := (.ask ((x0 == (2 : Int))) (.ask ((x1 == (0 : Int))) (.opt (F_impl_isText n x2 (200 : Int)) fun r46 => (.done r46)) (.done false)) (.ask ((!(x2.toList == (⟨#[]⟩ : ByteArray).toList))) (.done false) (.ask ((x0 == (0 : Int))) (.done (x1 == (0 : Int))) (.ask ((x0 == (1 : Int))) (.opt (F_impl_within n x1 (-1000000000000000 : Int) (1000000000000000 : Int)) fun r47 => (.done r47)) (.ask ((x0 == (3 : Int))) (.opt (F_impl_within n x1 (0 : Int) (1 : Int)) fun r48 => (.done r48)) (.ask ((x0 == (4 : Int))) (.opt (F_impl_within n x1 (1 : Int) (5 : Int)) fun r49 => (.done r49)) (.done false)))))))
def F_impl_ValueOk : Nat → Int → Int → ByteArray → Option (Bool)
  | 0, _, _, _ => none
  | n + 1, x0, x1, x2 => (T_impl_ValueOk n x0 x1 x2).run
theorem ft_impl_ValueOk (n : Nat) (x0 : Int) (x1 : Int) (x2 : ByteArray) : funT (CT_impl_ValueOk n) (LT_impl_ValueOk n) K_impl_ValueOk (A_impl_ValueOk x0 x1 x2) (U_impl_ValueOk x0 x1 x2) = (T_impl_ValueOk n x0 x1 x2).bind fun r => .done (O_impl_ValueOk r) := by kernel_rfl
theorem ct_impl_ValueOk (n : Nat) : CTok (CT_impl_ValueOk n) (runs KP lib n) := mkCT_cons (eo_impl_isText n (noEnt_ok)) (mkCT_cons (eo_impl_within n (noEnt_ok)) (mkCT_nil))
theorem th_impl_ValueOk : ∀ (n : Nat) (x0 : Int) (x1 : Int) (x2 : ByteArray) (r : Bool), F_impl_ValueOk n x0 x1 x2 = some r → runs KP lib n 47 (A_impl_ValueOk x0 x1 x2) (U_impl_ValueOk x0 x1 x2) = some (O_impl_ValueOk r)
  | 0, x0, x1, x2, r, h => by cases h
  | n + 1, x0, x1, x2, r, h => fun_step (kf := K_impl_ValueOk) rfl (ct_impl_ValueOk n) (noLoops rfl) (ft_impl_ValueOk n x0 x1 x2) h
def FH_impl_ValueOk (n : Nat) : Cont → Option (Bool)
  | ([[[.i x0], [.i x1], [.s x2]]], []) => F_impl_ValueOk n x0 x1 x2
  | _ => none
def E_impl_ValueOk (n : Nat) (d : List AV → List Go.Eng.Frame → Tr Res) : List AV → List Go.Eng.Frame → Tr Res := cent (A_impl_ValueOk (0) (0) (⟨#[]⟩)) (U_impl_ValueOk (0) (0) (⟨#[]⟩)) (FH_impl_ValueOk n) O_impl_ValueOk d
theorem eo_impl_ValueOk (n : Nat) {d : List AV → List Go.Eng.Frame → Tr Res} (hd : ∀ ar up r, (d ar up).run = some r → runs KP lib n 47 ar up = some r) : ∀ ar up r, (E_impl_ValueOk n d ar up).run = some r → runs KP lib n 47 ar up = some r :=
  cent_ok (fun hs r h => by
    unfold FH_impl_ValueOk at h
    split at h
    · exact ⟨A_impl_ValueOk _ _ _, U_impl_ValueOk _ _ _, rfl, rfl, th_impl_ValueOk n _ _ _ r h⟩
    · cases h) hd
/-! ### impl.asNumber -/
def A_impl_asNumber (x0 : Int) (x1 : Int) (x2 : ByteArray) : List AV := [(.agg [(.p (.i .i64 x0)), (.p (.i .i64 x1)), (.p (.s x2))])]
def U_impl_asNumber (x0 : Int) (x1 : Int) (x2 : ByteArray) : List Go.Eng.Frame := []
def O_impl_asNumber (r : Int × Bool) : Res := ⟨(.tup [(false, [(.p (.i .i64 r.1))]), (false, [(.p (.b r.2))])]), [], []⟩
abbrev CT_impl_asNumber (n : Nat) : CTab := mkCT [(47, E_impl_ValueOk n (noEnt))]
abbrev LT_impl_asNumber (n : Nat) : LTab := mkLT []
def T_impl_asNumber (n : Nat) (x0 : Int) (x1 : Int) (x2 : ByteArray) : Tr (Int × Bool) := (.opt (F_impl_ValueOk n x0 x1 x2) fun r50 => (.ask (r50) (.ask ((x0 == (0 : Int))) (.done (x1, true)) (.done (x1, (x0 == (1 : Int))))) (.done (x1, false))))
def F_impl_asNumber : Nat → Int → Int → ByteArray → Option (Int × Bool)
  | 0, _, _, _ => none
  | n + 1, x0, x1, x2 => (T_impl_asNumber n x0 x1 x2).run
theorem ft_impl_asNumber (n : Nat) (x0 : Int) (x1 : Int) (x2 : ByteArray) : funT (CT_impl_asNumber n) (LT_impl_asNumber n) K_impl_asNumber (A_impl_asNumber x0 x1 x2) (U_impl_asNumber x0 x1 x2) = (T_impl_asNumber n x0 x1 x2).bind fun r => .done (O_impl_asNumber r) := by kernel_rfl
theorem ct_impl_asNumber (n : Nat) : CTok (CT_impl_asNumber n) (runs KP lib n) := mkCT_cons (eo_impl_ValueOk n (noEnt_ok)) (mkCT_nil)
theorem th_impl_asNumber : ∀ (n : Nat) (x0 : Int) (x1 : Int) (x2 : ByteArray) (r : Int × Bool), F_impl_asNumber n x0 x1 x2 = some r → runs KP lib n 61 (A_impl_asNumber x0 x1 x2) (U_impl_asNumber x0 x1 x2) = some (O_impl_asNumber r)
  | 0, x0, x1, x2, r, h => by cases h
  | n + 1, x0, x1, x2, r, h => fun_step (kf := K_impl_asNumber) rfl (ct_impl_asNumber n) (noLoops rfl) (ft_impl_asNumber n x0 x1 x2) h
def FH_impl_asNumber (n : Nat) : Cont → Option (Int × Bool)
  | ([[[.i x0], [.i x1], [.s x2]]], []) => F_impl_asNumber n x0 x1 x2
  | _ => none
def E_impl_asNumber (n : Nat) (d : List AV → List Go.Eng.Frame → Tr Res) : List AV → List Go.Eng.Frame → Tr Res := cent (A_impl_asNumber (0) (0) (⟨#[]⟩)) (U_impl_asNumber (0) (0) (⟨#[]⟩)) (FH_impl_asNumber n) O_impl_asNumber d
theorem eo_impl_asNumber (n : Nat) {d : List AV → List Go.Eng.Frame → Tr Res} (hd : ∀ ar up r, (d ar up).run = some r → runs KP lib n 61 ar up = some r) : ∀ ar up r, (E_impl_asNumber n d ar up).run = some r → runs KP lib n 61 ar up = some r :=
  cent_ok (fun hs r h => by
    unfold FH_impl_asNumber at h
    split at h
    · exact ⟨A_impl_asNumber _ _ _, U_impl_asNumber _ _ _, rfl, rfl, th_impl_asNumber n _ _ _ r h⟩
    · cases h) hd
/-! ### impl.fault -/
def A_impl_fault (x0 : Int) : List AV := [(.c (.p (.i .i64 x0)))]
def U_impl_fault (x0 : Int) : List Go.Eng.Frame := []
def O_impl_fault (r : Int × Int × ByteArray) : Res := ⟨(.agg [(.p (.i .i64 r.1)), (.p (.i .i64 r.2.1)), (.p (.s r.2.2))]), [], []⟩
abbrev CT_impl_fault (n : Nat) : CTab := mkCT []
abbrev LT_impl_fault (n : Nat) : LTab := mkLT []
def T_impl_fault (n : Nat) (x0 : Int) : Tr (Int × Int × ByteArray) := (.done ((4 : Int), x0, (⟨#[]⟩ : ByteArray)))
def F_impl_fault : Nat → Int → Option (Int × Int × ByteArray)
  | 0, _ => none
  | n + 1, x0 => (T_impl_fault n x0).run
theorem ft_impl_fault (n : Nat) (x0 : Int) : funT (CT_impl_fault n) (LT_impl_fault n) K_impl_fault (A_impl_fault x0) (U_impl_fault x0) = (T_impl_fault n x0).bind fun r => .done (O_impl_fault r) := by kernel_rfl
theorem ct_impl_fault (n : Nat) : CTok (CT_impl_fault n) (runs KP lib n) := mkCT_nil
theorem th_impl_fault : ∀ (n : Nat) (x0 : Int) (r : Int × Int × ByteArray), F_impl_fault n x0 = some r → runs KP lib n 42 (A_impl_fault x0) (U_impl_fault x0) = some (O_impl_fault r)
  | 0, x0, r, h => by cases h
  | n + 1, x0, r, h => fun_step (kf := K_impl_fault) rfl (ct_impl_fault n) (noLoops rfl) (ft_impl_fault n x0) h
def FH_impl_fault (n : Nat) : Cont → Option (Int × Int × ByteArray)
  | ([[[.i x0]]], []) => F_impl_fault n x0
  | _ => none
def E_impl_fault (n : Nat) (d : List AV → List Go.Eng.Frame → Tr Res) : List AV → List Go.Eng.Frame → Tr Res := cent (A_impl_fault (0)) (U_impl_fault (0)) (FH_impl_fault n) O_impl_fault d
theorem eo_impl_fault (n : Nat) {d : List AV → List Go.Eng.Frame → Tr Res} (hd : ∀ ar up r, (d ar up).run = some r → runs KP lib n 42 ar up = some r) : ∀ ar up r, (E_impl_fault n d ar up).run = some r → runs KP lib n 42 ar up = some r :=
  cent_ok (fun hs r h => by
    unfold FH_impl_fault at h
    split at h
    · exact ⟨A_impl_fault _, U_impl_fault _, rfl, rfl, th_impl_fault n _ r h⟩
    · cases h) hd
/-! ### impl.none -/
def A_impl_none (x0 : Int) (x1 : Int) (x2 : ByteArray) : List AV := [(.agg [(.p (.i .i64 x0)), (.p (.i .i64 x1)), (.p (.s x2))])]
def U_impl_none (x0 : Int) (x1 : Int) (x2 : ByteArray) : List Go.Eng.Frame := []
def O_impl_none (r : Int × Int × ByteArray) : Res := ⟨(.agg [(.p (.i .i64 r.1)), (.p (.i .i64 r.2.1)), (.p (.s r.2.2))]), [], []⟩
abbrev CT_impl_none (n : Nat) : CTab := mkCT [(47, E_impl_ValueOk n (noEnt)), (42, E_impl_fault n (noEnt))]
abbrev LT_impl_none (n : Nat) : LTab := mkLT []
def T_impl_none (n : Nat) (x0 : Int) (x1 : Int) (x2 : ByteArray) : Tr (Int × Int × ByteArray) := (.opt (F_impl_ValueOk n x0 x1 x2) fun r53 => (.ask (r53) (.ask ((x0 == (4 : Int))) (.done (x0, x1, x2)) (.opt (F_impl_fault n (2 : Int)) fun r54 => (.done (r54.1, r54.2.1, r54.2.2)))) (.opt (F_impl_fault n (2 : Int)) fun r55 => (.done (r55.1, r55.2.1, r55.2.2)))))
def F_impl_none : Nat → Int → Int → ByteArray → Option (Int × Int × ByteArray)
  | 0, _, _, _ => none
  | n + 1, x0, x1, x2 => (T_impl_none n x0 x1 x2).run
theorem ft_impl_none (n : Nat) (x0 : Int) (x1 : Int) (x2 : ByteArray) : funT (CT_impl_none n) (LT_impl_none n) K_impl_none (A_impl_none x0 x1 x2) (U_impl_none x0 x1 x2) = (T_impl_none n x0 x1 x2).bind fun r => .done (O_impl_none r) := by kernel_rfl
theorem ct_impl_none (n : Nat) : CTok (CT_impl_none n) (runs KP lib n) := mkCT_cons (eo_impl_ValueOk n (noEnt_ok)) (mkCT_cons (eo_impl_fault n (noEnt_ok)) (mkCT_nil))
theorem th_impl_none : ∀ (n : Nat) (x0 : Int) (x1 : Int) (x2 : ByteArray) (r : Int × Int × ByteArray), F_impl_none n x0 x1 x2 = some r → runs KP lib n 62 (A_impl_none x0 x1 x2) (U_impl_none x0 x1 x2) = some (O_impl_none r)
  | 0, x0, x1, x2, r, h => by cases h
  | n + 1, x0, x1, x2, r, h => fun_step (kf := K_impl_none) rfl (ct_impl_none n) (noLoops rfl) (ft_impl_none n x0 x1 x2) h
def FH_impl_none (n : Nat) : Cont → Option (Int × Int × ByteArray)
  | ([[[.i x0], [.i x1], [.s x2]]], []) => F_impl_none n x0 x1 x2
  | _ => none
def E_impl_none (n : Nat) (d : List AV → List Go.Eng.Frame → Tr Res) : List AV → List Go.Eng.Frame → Tr Res := cent (A_impl_none (0) (0) (⟨#[]⟩)) (U_impl_none (0) (0) (⟨#[]⟩)) (FH_impl_none n) O_impl_none d
theorem eo_impl_none (n : Nat) {d : List AV → List Go.Eng.Frame → Tr Res} (hd : ∀ ar up r, (d ar up).run = some r → runs KP lib n 62 ar up = some r) : ∀ ar up r, (E_impl_none n d ar up).run = some r → runs KP lib n 62 ar up = some r :=
  cent_ok (fun hs r h => by
    unfold FH_impl_none at h
    split at h
    · exact ⟨A_impl_none _ _ _, U_impl_none _ _ _, rfl, rfl, th_impl_none n _ _ _ r h⟩
    · cases h) hd
/-! ### impl.number -/
def A_impl_number (x0 : Int) : List AV := [(.c (.p (.i .i64 x0)))]
def U_impl_number (x0 : Int) : List Go.Eng.Frame := []
def O_impl_number (r : Int × Int × ByteArray) : Res := ⟨(.agg [(.p (.i .i64 r.1)), (.p (.i .i64 r.2.1)), (.p (.s r.2.2))]), [], []⟩
abbrev CT_impl_number (n : Nat) : CTab := mkCT []
abbrev LT_impl_number (n : Nat) : LTab := mkLT []
def T_impl_number (n : Nat) (x0 : Int) : Tr (Int × Int × ByteArray) := (.done ((1 : Int), x0, (⟨#[]⟩ : ByteArray)))
def F_impl_number : Nat → Int → Option (Int × Int × ByteArray)
  | 0, _ => none
  | n + 1, x0 => (T_impl_number n x0).run
theorem ft_impl_number (n : Nat) (x0 : Int) : funT (CT_impl_number n) (LT_impl_number n) K_impl_number (A_impl_number x0) (U_impl_number x0) = (T_impl_number n x0).bind fun r => .done (O_impl_number r) := by kernel_rfl
theorem ct_impl_number (n : Nat) : CTok (CT_impl_number n) (runs KP lib n) := mkCT_nil
theorem th_impl_number : ∀ (n : Nat) (x0 : Int) (r : Int × Int × ByteArray), F_impl_number n x0 = some r → runs KP lib n 63 (A_impl_number x0) (U_impl_number x0) = some (O_impl_number r)
  | 0, x0, r, h => by cases h
  | n + 1, x0, r, h => fun_step (kf := K_impl_number) rfl (ct_impl_number n) (noLoops rfl) (ft_impl_number n x0) h
def FH_impl_number (n : Nat) : Cont → Option (Int × Int × ByteArray)
  | ([[[.i x0]]], []) => F_impl_number n x0
  | _ => none
def E_impl_number (n : Nat) (d : List AV → List Go.Eng.Frame → Tr Res) : List AV → List Go.Eng.Frame → Tr Res := cent (A_impl_number (0)) (U_impl_number (0)) (FH_impl_number n) O_impl_number d
theorem eo_impl_number (n : Nat) {d : List AV → List Go.Eng.Frame → Tr Res} (hd : ∀ ar up r, (d ar up).run = some r → runs KP lib n 63 ar up = some r) : ∀ ar up r, (E_impl_number n d ar up).run = some r → runs KP lib n 63 ar up = some r :=
  cent_ok (fun hs r h => by
    unfold FH_impl_number at h
    split at h
    · exact ⟨A_impl_number _, U_impl_number _, rfl, rfl, th_impl_number n _ r h⟩
    · cases h) hd
/-! ### impl.bounded -/
def A_impl_bounded (x0 : Int) : List AV := [(.c (.p (.i .i64 x0)))]
def U_impl_bounded (x0 : Int) : List Go.Eng.Frame := []
def O_impl_bounded (r : Int × Int × ByteArray) : Res := ⟨(.agg [(.p (.i .i64 r.1)), (.p (.i .i64 r.2.1)), (.p (.s r.2.2))]), [], []⟩
abbrev CT_impl_bounded (n : Nat) : CTab := mkCT [(48, E_impl_within n (noEnt)), (42, E_impl_fault n (noEnt)), (63, E_impl_number n (noEnt))]
abbrev LT_impl_bounded (n : Nat) : LTab := mkLT []
def T_impl_bounded (n : Nat) (x0 : Int) : Tr (Int × Int × ByteArray) := (.opt (F_impl_within n x0 (-1000000000000000 : Int) (1000000000000000 : Int)) fun r59 => (.ask ((!r59)) (.opt (F_impl_fault n (4 : Int)) fun r60 => (.done (r60.1, r60.2.1, r60.2.2))) (.opt (F_impl_number n x0) fun r61 => (.done (r61.1, r61.2.1, r61.2.2)))))
def F_impl_bounded : Nat → Int → Option (Int × Int × ByteArray)
  | 0, _ => none
  | n + 1, x0 => (T_impl_bounded n x0).run
theorem ft_impl_bounded (n : Nat) (x0 : Int) : funT (CT_impl_bounded n) (LT_impl_bounded n) K_impl_bounded (A_impl_bounded x0) (U_impl_bounded x0) = (T_impl_bounded n x0).bind fun r => .done (O_impl_bounded r) := by kernel_rfl
theorem ct_impl_bounded (n : Nat) : CTok (CT_impl_bounded n) (runs KP lib n) := mkCT_cons (eo_impl_within n (noEnt_ok)) (mkCT_cons (eo_impl_fault n (noEnt_ok)) (mkCT_cons (eo_impl_number n (noEnt_ok)) (mkCT_nil)))
theorem th_impl_bounded : ∀ (n : Nat) (x0 : Int) (r : Int × Int × ByteArray), F_impl_bounded n x0 = some r → runs KP lib n 39 (A_impl_bounded x0) (U_impl_bounded x0) = some (O_impl_bounded r)
  | 0, x0, r, h => by cases h
  | n + 1, x0, r, h => fun_step (kf := K_impl_bounded) rfl (ct_impl_bounded n) (noLoops rfl) (ft_impl_bounded n x0) h
def FH_impl_bounded (n : Nat) : Cont → Option (Int × Int × ByteArray)
  | ([[[.i x0]]], []) => F_impl_bounded n x0
  | _ => none
def E_impl_bounded (n : Nat) (d : List AV → List Go.Eng.Frame → Tr Res) : List AV → List Go.Eng.Frame → Tr Res := cent (A_impl_bounded (0)) (U_impl_bounded (0)) (FH_impl_bounded n) O_impl_bounded d
theorem eo_impl_bounded (n : Nat) {d : List AV → List Go.Eng.Frame → Tr Res} (hd : ∀ ar up r, (d ar up).run = some r → runs KP lib n 39 ar up = some r) : ∀ ar up r, (E_impl_bounded n d ar up).run = some r → runs KP lib n 39 ar up = some r :=
  cent_ok (fun hs r h => by
    unfold FH_impl_bounded at h
    split at h
    · exact ⟨A_impl_bounded _, U_impl_bounded _, rfl, rfl, th_impl_bounded n _ r h⟩
    · cases h) hd
/-! ### impl.Over$1 -/
def A_impl_Over_1 (x0 : Int) (x1 : Int) : List AV := [(.c (.p (.i .i64 x0))), (.c (.p (.i .i64 x1)))]
def U_impl_Over_1 (x0 : Int) (x1 : Int) : List Go.Eng.Frame := []
def O_impl_Over_1 (r : Int × Int × ByteArray) : Res := ⟨(.agg [(.p (.i .i64 r.1)), (.p (.i .i64 r.2.1)), (.p (.s r.2.2))]), [], []⟩
abbrev CT_impl_Over_1 (n : Nat) : CTab := mkCT [(42, E_impl_fault n (noEnt)), (39, E_impl_bounded n (noEnt))]
abbrev LT_impl_Over_1 (n : Nat) : LTab := mkLT []
def T_impl_Over_1 (n : Nat) (x0 : Int) (x1 : Int) : Tr (Int × Int × ByteArray) := (.ask ((x1 == (0 : Int))) (.opt (F_impl_fault n (1 : Int)) fun r58 => (.done (r58.1, r58.2.1, r58.2.2))) (.ask (decide (x1 = 0)) .fail (.opt (F_impl_bounded n (IntKind.i64.wrap (Int.tdiv x0 x1))) fun r62 => (.done (r62.1, r62.2.1, r62.2.2)))))
def F_impl_Over_1 : Nat → Int → Int → Option (Int × Int × ByteArray)
  | 0, _, _ => none
  | n + 1, x0, x1 => (T_impl_Over_1 n x0 x1).run
theorem ft_impl_Over_1 (n : Nat) (x0 : Int) (x1 : Int) : funT (CT_impl_Over_1 n) (LT_impl_Over_1 n) K_impl_Over_1 (A_impl_Over_1 x0 x1) (U_impl_Over_1 x0 x1) = (T_impl_Over_1 n x0 x1).bind fun r => .done (O_impl_Over_1 r) := by kernel_rfl
theorem ct_impl_Over_1 (n : Nat) : CTok (CT_impl_Over_1 n) (runs KP lib n) := mkCT_cons (eo_impl_fault n (noEnt_ok)) (mkCT_cons (eo_impl_bounded n (noEnt_ok)) (mkCT_nil))
theorem th_impl_Over_1 : ∀ (n : Nat) (x0 : Int) (x1 : Int) (r : Int × Int × ByteArray), F_impl_Over_1 n x0 x1 = some r → runs KP lib n 41 (A_impl_Over_1 x0 x1) (U_impl_Over_1 x0 x1) = some (O_impl_Over_1 r)
  | 0, x0, x1, r, h => by cases h
  | n + 1, x0, x1, r, h => fun_step (kf := K_impl_Over_1) rfl (ct_impl_Over_1 n) (noLoops rfl) (ft_impl_Over_1 n x0 x1) h
def FH_impl_Over_1 (n : Nat) : Cont → Option (Int × Int × ByteArray)
  | ([[[.i x0]], [[.i x1]]], []) => F_impl_Over_1 n x0 x1
  | _ => none
def E_impl_Over_1 (n : Nat) (d : List AV → List Go.Eng.Frame → Tr Res) : List AV → List Go.Eng.Frame → Tr Res := cent (A_impl_Over_1 (0) (0)) (U_impl_Over_1 (0) (0)) (FH_impl_Over_1 n) O_impl_Over_1 d
theorem eo_impl_Over_1 (n : Nat) {d : List AV → List Go.Eng.Frame → Tr Res} (hd : ∀ ar up r, (d ar up).run = some r → runs KP lib n 41 ar up = some r) : ∀ ar up r, (E_impl_Over_1 n d ar up).run = some r → runs KP lib n 41 ar up = some r :=
  cent_ok (fun hs r h => by
    unfold FH_impl_Over_1 at h
    split at h
    · exact ⟨A_impl_Over_1 _ _, U_impl_Over_1 _ _, rfl, rfl, th_impl_Over_1 n _ _ r h⟩
    · cases h) hd
/-! ### impl.reckoned -/
def A_impl_reckoned_of_impl_Over_1 (x0 : Int) (x1 : Int) (x2 : ByteArray) (x3 : Int) (x4 : Int) (x5 : ByteArray) : List AV := [(.agg [(.p (.i .i64 x0)), (.p (.i .i64 x1)), (.p (.s x2))]), (.agg [(.p (.i .i64 x3)), (.p (.i .i64 x4)), (.p (.s x5))]), (.c (.fn 41 []))]
def U_impl_reckoned_of_impl_Over_1 (x0 : Int) (x1 : Int) (x2 : ByteArray) (x3 : Int) (x4 : Int) (x5 : ByteArray) : List Go.Eng.Frame := []
def O_impl_reckoned_of_impl_Over_1 (r : Int × Int × ByteArray) : Res := ⟨(.agg [(.p (.i .i64 r.1)), (.p (.i .i64 r.2.1)), (.p (.s r.2.2))]), [], []⟩
abbrev CT_impl_reckoned_of_impl_Over_1 (n : Nat) : CTab := mkCT [(61, E_impl_asNumber n (noEnt)), (62, E_impl_none n (noEnt)), (41, E_impl_Over_1 n (noEnt))]
abbrev LT_impl_reckoned_of_impl_Over_1 (n : Nat) : LTab := mkLT []
def T_impl_reckoned_of_impl_Over_1 (n : Nat) (x0 : Int) (x1 : Int) (x2 : ByteArray) (x3 : Int) (x4 : Int) (x5 : ByteArray) : Tr (Int × Int × ByteArray) := (.opt (F_impl_asNumber n x0 x1 x2) fun r51 => (.opt (F_impl_asNumber n x3 x4 x5) fun r52 => (.ask ((!r51.2)) (.opt (F_impl_none n x0 x1 x2) fun r56 => (.done (r56.1, r56.2.1, r56.2.2))) (.ask ((!r52.2)) (.opt (F_impl_none n x3 x4 x5) fun r57 => (.done (r57.1, r57.2.1, r57.2.2))) (.opt (F_impl_Over_1 n r51.1 r52.1) fun r63 => (.done (r63.1, r63.2.1, r63.2.2)))))))
def F_impl_reckoned_of_impl_Over_1 : Nat → Int → Int → ByteArray → Int → Int → ByteArray → Option (Int × Int × ByteArray)
  | 0, _, _, _, _, _, _ => none
  | n + 1, x0, x1, x2, x3, x4, x5 => (T_impl_reckoned_of_impl_Over_1 n x0 x1 x2 x3 x4 x5).run
theorem ft_impl_reckoned_of_impl_Over_1 (n : Nat) (x0 : Int) (x1 : Int) (x2 : ByteArray) (x3 : Int) (x4 : Int) (x5 : ByteArray) : funT (CT_impl_reckoned_of_impl_Over_1 n) (LT_impl_reckoned_of_impl_Over_1 n) K_impl_reckoned (A_impl_reckoned_of_impl_Over_1 x0 x1 x2 x3 x4 x5) (U_impl_reckoned_of_impl_Over_1 x0 x1 x2 x3 x4 x5) = (T_impl_reckoned_of_impl_Over_1 n x0 x1 x2 x3 x4 x5).bind fun r => .done (O_impl_reckoned_of_impl_Over_1 r) := by kernel_rfl
theorem ct_impl_reckoned_of_impl_Over_1 (n : Nat) : CTok (CT_impl_reckoned_of_impl_Over_1 n) (runs KP lib n) := mkCT_cons (eo_impl_asNumber n (noEnt_ok)) (mkCT_cons (eo_impl_none n (noEnt_ok)) (mkCT_cons (eo_impl_Over_1 n (noEnt_ok)) (mkCT_nil)))
theorem th_impl_reckoned_of_impl_Over_1 : ∀ (n : Nat) (x0 : Int) (x1 : Int) (x2 : ByteArray) (x3 : Int) (x4 : Int) (x5 : ByteArray) (r : Int × Int × ByteArray), F_impl_reckoned_of_impl_Over_1 n x0 x1 x2 x3 x4 x5 = some r → runs KP lib n 37 (A_impl_reckoned_of_impl_Over_1 x0 x1 x2 x3 x4 x5) (U_impl_reckoned_of_impl_Over_1 x0 x1 x2 x3 x4 x5) = some (O_impl_reckoned_of_impl_Over_1 r)
  | 0, x0, x1, x2, x3, x4, x5, r, h => by cases h
  | n + 1, x0, x1, x2, x3, x4, x5, r, h => fun_step (kf := K_impl_reckoned) rfl (ct_impl_reckoned_of_impl_Over_1 n) (noLoops rfl) (ft_impl_reckoned_of_impl_Over_1 n x0 x1 x2 x3 x4 x5) h
def FH_impl_reckoned_of_impl_Over_1 (n : Nat) : Cont → Option (Int × Int × ByteArray)
  | ([[[.i x0], [.i x1], [.s x2]], [[.i x3], [.i x4], [.s x5]], [[]]], []) => F_impl_reckoned_of_impl_Over_1 n x0 x1 x2 x3 x4 x5
  | _ => none
def E_impl_reckoned_of_impl_Over_1 (n : Nat) (d : List AV → List Go.Eng.Frame → Tr Res) : List AV → List Go.Eng.Frame → Tr Res := cent (A_impl_reckoned_of_impl_Over_1 (0) (0) (⟨#[]⟩) (0) (0) (⟨#[]⟩)) (U_impl_reckoned_of_impl_Over_1 (0) (0) (⟨#[]⟩) (0) (0) (⟨#[]⟩)) (FH_impl_reckoned_of_impl_Over_1 n) O_impl_reckoned_of_impl_Over_1 d
theorem eo_impl_reckoned_of_impl_Over_1 (n : Nat) {d : List AV → List Go.Eng.Frame → Tr Res} (hd : ∀ ar up r, (d ar up).run = some r → runs KP lib n 37 ar up = some r) : ∀ ar up r, (E_impl_reckoned_of_impl_Over_1 n d ar up).run = some r → runs KP lib n 37 ar up = some r :=
  cent_ok (fun hs r h => by
    unfold FH_impl_reckoned_of_impl_Over_1 at h
    split at h
    · exact ⟨A_impl_reckoned_of_impl_Over_1 _ _ _ _ _ _, U_impl_reckoned_of_impl_Over_1 _ _ _ _ _ _, rfl, rfl, th_impl_reckoned_of_impl_Over_1 n _ _ _ _ _ _ r h⟩
    · cases h) hd
/-! ### impl.Over -/
def A_impl_Over (x0 : Int) (x1 : Int) (x2 : ByteArray) (x3 : Int) (x4 : Int) (x5 : ByteArray) : List AV := [(.agg [(.p (.i .i64 x0)), (.p (.i .i64 x1)), (.p (.s x2))]), (.agg [(.p (.i .i64 x3)), (.p (.i .i64 x4)), (.p (.s x5))])]
def U_impl_Over (x0 : Int) (x1 : Int) (x2 : ByteArray) (x3 : Int) (x4 : Int) (x5 : ByteArray) : List Go.Eng.Frame := []
def O_impl_Over (r : Int × Int × ByteArray) : Res := ⟨(.agg [(.p (.i .i64 r.1)), (.p (.i .i64 r.2.1)), (.p (.s r.2.2))]), [], []⟩
abbrev CT_impl_Over (n : Nat) : CTab := mkCT [(37, E_impl_reckoned_of_impl_Over_1 n (noEnt))]
abbrev LT_impl_Over (n : Nat) : LTab := mkLT []
def T_impl_Over (n : Nat) (x0 : Int) (x1 : Int) (x2 : ByteArray) (x3 : Int) (x4 : Int) (x5 : ByteArray) : Tr (Int × Int × ByteArray) := (.opt (F_impl_reckoned_of_impl_Over_1 n x0 x1 x2 x3 x4 x5) fun r64 => (.done (r64.1, r64.2.1, r64.2.2)))
def F_impl_Over : Nat → Int → Int → ByteArray → Int → Int → ByteArray → Option (Int × Int × ByteArray)
  | 0, _, _, _, _, _, _ => none
  | n + 1, x0, x1, x2, x3, x4, x5 => (T_impl_Over n x0 x1 x2 x3 x4 x5).run
theorem ft_impl_Over (n : Nat) (x0 : Int) (x1 : Int) (x2 : ByteArray) (x3 : Int) (x4 : Int) (x5 : ByteArray) : funT (CT_impl_Over n) (LT_impl_Over n) K_impl_Over (A_impl_Over x0 x1 x2 x3 x4 x5) (U_impl_Over x0 x1 x2 x3 x4 x5) = (T_impl_Over n x0 x1 x2 x3 x4 x5).bind fun r => .done (O_impl_Over r) := by kernel_rfl
theorem ct_impl_Over (n : Nat) : CTok (CT_impl_Over n) (runs KP lib n) := mkCT_cons (eo_impl_reckoned_of_impl_Over_1 n (noEnt_ok)) (mkCT_nil)
theorem th_impl_Over : ∀ (n : Nat) (x0 : Int) (x1 : Int) (x2 : ByteArray) (x3 : Int) (x4 : Int) (x5 : ByteArray) (r : Int × Int × ByteArray), F_impl_Over n x0 x1 x2 x3 x4 x5 = some r → runs KP lib n 17 (A_impl_Over x0 x1 x2 x3 x4 x5) (U_impl_Over x0 x1 x2 x3 x4 x5) = some (O_impl_Over r)
  | 0, x0, x1, x2, x3, x4, x5, r, h => by cases h
  | n + 1, x0, x1, x2, x3, x4, x5, r, h => fun_step (kf := K_impl_Over) rfl (ct_impl_Over n) (noLoops rfl) (ft_impl_Over n x0 x1 x2 x3 x4 x5) h
def FH_impl_Over (n : Nat) : Cont → Option (Int × Int × ByteArray)
  | ([[[.i x0], [.i x1], [.s x2]], [[.i x3], [.i x4], [.s x5]]], []) => F_impl_Over n x0 x1 x2 x3 x4 x5
  | _ => none
def E_impl_Over (n : Nat) (d : List AV → List Go.Eng.Frame → Tr Res) : List AV → List Go.Eng.Frame → Tr Res := cent (A_impl_Over (0) (0) (⟨#[]⟩) (0) (0) (⟨#[]⟩)) (U_impl_Over (0) (0) (⟨#[]⟩) (0) (0) (⟨#[]⟩)) (FH_impl_Over n) O_impl_Over d
theorem eo_impl_Over (n : Nat) {d : List AV → List Go.Eng.Frame → Tr Res} (hd : ∀ ar up r, (d ar up).run = some r → runs KP lib n 17 ar up = some r) : ∀ ar up r, (E_impl_Over n d ar up).run = some r → runs KP lib n 17 ar up = some r :=
  cent_ok (fun hs r h => by
    unfold FH_impl_Over at h
    split at h
    · exact ⟨A_impl_Over _ _ _ _ _ _, U_impl_Over _ _ _ _ _ _, rfl, rfl, th_impl_Over n _ _ _ _ _ _ r h⟩
    · cases h) hd
/-! ### spec.l1In -/
def A_spec_l1In (x0 : Int) (x1 : Int) (x2 : Int) : List AV := [(.c (.p (.i .i64 x0))), (.c (.p (.i .i64 x1))), (.c (.p (.i .i64 x2)))]
def U_spec_l1In (x0 : Int) (x1 : Int) (x2 : Int) : List Go.Eng.Frame := []
def O_spec_l1In (r : Bool) : Res := ⟨(.c (.p (.b r))), [], []⟩
abbrev CT_spec_l1In (n : Nat) : CTab := mkCT []
abbrev LT_spec_l1In (n : Nat) : LTab := mkLT []
def T_spec_l1In (n : Nat) (x0 : Int) (x1 : Int) (x2 : Int) : Tr (Bool) := (.ask ((decide (x0 ≥ x1))) (.done (decide (x0 ≤ x2))) (.done false))
def F_spec_l1In : Nat → Int → Int → Int → Option (Bool)
  | 0, _, _, _ => none
  | n + 1, x0, x1, x2 => (T_spec_l1In n x0 x1 x2).run
theorem ft_spec_l1In (n : Nat) (x0 : Int) (x1 : Int) (x2 : Int) : funT (CT_spec_l1In n) (LT_spec_l1In n) K_spec_l1In (A_spec_l1In x0 x1 x2) (U_spec_l1In x0 x1 x2) = (T_spec_l1In n x0 x1 x2).bind fun r => .done (O_spec_l1In r) := by kernel_rfl
theorem ct_spec_l1In (n : Nat) : CTok (CT_spec_l1In n) (runs KP lib n) := mkCT_nil
theorem th_spec_l1In : ∀ (n : Nat) (x0 : Int) (x1 : Int) (x2 : Int) (r : Bool), F_spec_l1In n x0 x1 x2 = some r → runs KP lib n 44 (A_spec_l1In x0 x1 x2) (U_spec_l1In x0 x1 x2) = some (O_spec_l1In r)
  | 0, x0, x1, x2, r, h => by cases h
  | n + 1, x0, x1, x2, r, h => fun_step (kf := K_spec_l1In) rfl (ct_spec_l1In n) (noLoops rfl) (ft_spec_l1In n x0 x1 x2) h
def FH_spec_l1In (n : Nat) : Cont → Option (Bool)
  | ([[[.i x0]], [[.i x1]], [[.i x2]]], []) => F_spec_l1In n x0 x1 x2
  | _ => none
def E_spec_l1In (n : Nat) (d : List AV → List Go.Eng.Frame → Tr Res) : List AV → List Go.Eng.Frame → Tr Res := cent (A_spec_l1In (0) (0) (0)) (U_spec_l1In (0) (0) (0)) (FH_spec_l1In n) O_spec_l1In d
theorem eo_spec_l1In (n : Nat) {d : List AV → List Go.Eng.Frame → Tr Res} (hd : ∀ ar up r, (d ar up).run = some r → runs KP lib n 44 ar up = some r) : ∀ ar up r, (E_spec_l1In n d ar up).run = some r → runs KP lib n 44 ar up = some r :=
  cent_ok (fun hs r h => by
    unfold FH_spec_l1In at h
    split at h
    · exact ⟨A_spec_l1In _ _ _, U_spec_l1In _ _ _, rfl, rfl, th_spec_l1In n _ _ _ r h⟩
    · cases h) hd
/-! ### spec.l2Plain -/
def A_spec_l2Plain (x0 : ByteArray) : List AV := [(.c (.p (.s x0)))]
def U_spec_l2Plain (x0 : ByteArray) : List Go.Eng.Frame := []
def O_spec_l2Plain (r : Bool) : Res := ⟨(.c (.p (.b r))), [], []⟩
abbrev CT_spec_l2Plain (n : Nat) : CTab := mkCT []
def S_spec_l2Plain_13 (v : ByteArray × Int) : St := ⟨[(0, (.c (.p (.s v.1)))), (3, (.c (.p (.i .i64 v.2))))], [], []⟩
def B_spec_l2Plain_13 (n : Nat) (v : ByteArray × Int) : Tr ((ByteArray × Int) ⊕ ((Bool) ⊕ (ByteArray))) := (.ask ((decide (v.2 < (v.1.size : Int)))) (.ask (decide (0 ≤ v.2)) (.opt (v.1.toList[(v.2).toNat]?) fun c67 => (.ask ((decide ((c67.toNat : Int) < (32 : Int)))) (.done (.inr (.inl (false)))) (.ask (decide (0 ≤ v.2)) (.opt (v.1.toList[(v.2).toNat]?) fun c68 => (.ask ((decide ((c68.toNat : Int) > (126 : Int)))) (.done (.inr (.inl (false)))) (.done (.inl (v.1, (IntKind.i64.wrap (v.2 + (1 : Int)))))))) .fail))) .fail) (.done (.inr (.inr (v.1)))))
def D_spec_l2Plain_13 : ((Bool) ⊕ (ByteArray)) → Ex × St := fun | .inl r => (.ret, ⟨[(2, (.c (.p (.b r))))], [], []⟩) | .inr r => (fun r => ((.exit 0), ⟨[(0, (.c (.p (.s r))))], [], []⟩)) r
def DT_spec_l2Plain_13 : ((Bool) ⊕ (ByteArray)) → Tr (Ex × St) := fun r => .alt r (fun r => .done (.ret, ⟨[(2, (.c (.p (.b r))))], [], []⟩)) (fun r => .done ((.exit 0), ⟨[(0, (.c (.p (.s r))))], [], []⟩))
def VH_spec_l2Plain_13 : Cont3 → Option (ByteArray × Int)
  | ([[[.s w0]], [[.i w1]]], [], []) => some (w0, w1)
  | _ => none
abbrev LE_spec_l2Plain_13 (n : Nat) : St → Tr (Ex × St) := lent (S_spec_l2Plain_13 (⟨#[]⟩, 0)) VH_spec_l2Plain_13 (B_spec_l2Plain_13 n) DT_spec_l2Plain_13 n
abbrev LT_spec_l2Plain (n : Nat) : LTab := mkLT [(13, LE_spec_l2Plain_13 n)]
def T_spec_l2Plain (n : Nat) (x0 : ByteArray) : Tr (Bool) := (.opt (loopF (B_spec_l2Plain_13 n) n (x0, (0 : Int))) fun r69 => (.alt r69 (fun r70 => (.done r70)) (fun r71 => (.done (decide ((r71.size : Int) ≤ (200 : Int)))))))
def F_spec_l2Plain : Nat → ByteArray → Option (Bool)
  | 0, _ => none
  | n + 1, x0 => (T_spec_l2Plain n x0).run
theorem ft_spec_l2Plain (n : Nat) (x0 : ByteArray) : funT (CT_spec_l2Plain n) (LT_spec_l2Plain n) K_spec_l2Plain (A_spec_l2Plain x0) (U_spec_l2Plain x0) = (T_spec_l2Plain n x0).bind fun r => .done (O_spec_l2Plain r) := by kernel_rfl
theorem ct_spec_l2Plain (n : Nat) : CTok (CT_spec_l2Plain n) (runs KP lib n) := mkCT_nil
theorem lt_spec_l2Plain_13 (n : Nat) (v : ByteArray × Int) : (evalCT (CT_spec_l2Plain n) (mkLT []) K_spec_l2Plain_L13 (S_spec_l2Plain_13 v) []).bind (ltail [0, 3] [(.ret, [2]), ((.exit 0), [0])]) = (B_spec_l2Plain_13 n v).bind (lenc S_spec_l2Plain_13 D_spec_l2Plain_13) := by
  obtain ⟨w0, w1⟩ := v
  kernel_rfl
theorem le_spec_l2Plain_13 (n : Nat) : LEok (runs KP lib n) n (13, [0, 3], [(.ret, [2]), ((.exit 0), [0])], K_spec_l2Plain_L13) (LE_spec_l2Plain_13 n) := fun st e s h =>
  lent_ok (ct_spec_l2Plain n) (noLoops rfl) (lt_spec_l2Plain_13 n) (fun r => by
    rcases r with r | r <;> (intro h; cases h)) (fun r y h => by
    rcases r with r | r <;> (cases h; rfl)) (fun hs v h => by
    unfold VH_spec_l2Plain_13 at h
    split at h <;> cases h
    rfl) h
theorem lo_spec_l2Plain (n : Nat) : LTok (LT_spec_l2Plain n) (runs KP lib n) n K_spec_l2Plain.body := mkLT_ok (by
  intro x hx
  have hx : x ∈ ([(13, [0, 3], [(.ret, [2]), ((.exit 0), [0])], K_spec_l2Plain_L13)] : List (Nat × List Nat × List (Ex × List Nat) × KCode)) := hx
  simp only [List.mem_cons, List.not_mem_nil, or_false] at hx
  rcases hx with rfl
  · exact ⟨LE_spec_l2Plain_13 n, fun st => rfl, le_spec_l2Plain_13 n⟩)
theorem th_spec_l2Plain : ∀ (n : Nat) (x0 : ByteArray) (r : Bool), F_spec_l2Plain n x0 = some r → runs KP lib n 57 (A_spec_l2Plain x0) (U_spec_l2Plain x0) = some (O_spec_l2Plain r)
  | 0, x0, r, h => by cases h
  | n + 1, x0, r, h => fun_step (kf := K_spec_l2Plain) rfl (ct_spec_l2Plain n) (lo_spec_l2Plain n) (ft_spec_l2Plain n x0) h
def FH_spec_l2Plain (n : Nat) : Cont → Option (Bool)
  | ([[[.s x0]]], []) => F_spec_l2Plain n x0
  | _ => none
def E_spec_l2Plain (n : Nat) (d : List AV → List Go.Eng.Frame → Tr Res) : List AV → List Go.Eng.Frame → Tr Res := cent (A_spec_l2Plain (⟨#[]⟩)) (U_spec_l2Plain (⟨#[]⟩)) (FH_spec_l2Plain n) O_spec_l2Plain d
theorem eo_spec_l2Plain (n : Nat) {d : List AV → List Go.Eng.Frame → Tr Res} (hd : ∀ ar up r, (d ar up).run = some r → runs KP lib n 57 ar up = some r) : ∀ ar up r, (E_spec_l2Plain n d ar up).run = some r → runs KP lib n 57 ar up = some r :=
  cent_ok (fun hs r h => by
    unfold FH_spec_l2Plain at h
    split at h
    · exact ⟨A_spec_l2Plain _, U_spec_l2Plain _, rfl, rfl, th_spec_l2Plain n _ r h⟩
    · cases h) hd
/-! ### spec.ValueOk -/
def A_spec_ValueOk (x0 : Int) (x1 : Int) (x2 : ByteArray) : List AV := [(.agg [(.p (.i .i64 x0)), (.p (.i .i64 x1)), (.p (.s x2))])]
def U_spec_ValueOk (x0 : Int) (x1 : Int) (x2 : ByteArray) : List Go.Eng.Frame := []
def O_spec_ValueOk (r : Bool) : Res := ⟨(.c (.p (.b r))), [], []⟩
abbrev CT_spec_ValueOk (n : Nat) : CTab := mkCT [(44, E_spec_l1In n (noEnt)), (57, E_spec_l2Plain n (noEnt))]
abbrev LT_spec_ValueOk (n : Nat) : LTab := mkLT []
def T_spec_ValueOk (n : Nat) (x0 : Int) (x1 : Int) (x2 : ByteArray) : Tr (Bool) := (.ask ((x0 == (0 : Int))) (.ask ((x1 == (0 : Int))) (.done (x2.toList == (⟨#[]⟩ : ByteArray).toList)) (.done false)) (.ask ((x0 == (1 : Int))) (.opt (F_spec_l1In n x1 (-1000000000000000 : Int) (1000000000000000 : Int)) fun r66 => (.ask (r66) (.done (x2.toList == (⟨#[]⟩ : ByteArray).toList)) (.done false))) (.ask ((x0 == (2 : Int))) (.ask ((x1 == (0 : Int))) (.opt (F_spec_l2Plain n x2) fun r72 => (.done r72)) (.done false)) (.ask ((x0 == (3 : Int))) (.opt (F_spec_l1In n x1 (0 : Int) (1 : Int)) fun r73 => (.ask (r73) (.done (x2.toList == (⟨#[]⟩ : ByteArray).toList)) (.done false))) (.ask ((x0 == (4 : Int))) (.opt (F_spec_l1In n x1 (1 : Int) (5 : Int)) fun r74 => (.ask (r74) (.done (x2.toList == (⟨#[]⟩ : ByteArray).toList)) (.done false))) (.done false))))))
def F_spec_ValueOk : Nat → Int → Int → ByteArray → Option (Bool)
  | 0, _, _, _ => none
  | n + 1, x0, x1, x2 => (T_spec_ValueOk n x0 x1 x2).run
theorem ft_spec_ValueOk (n : Nat) (x0 : Int) (x1 : Int) (x2 : ByteArray) : funT (CT_spec_ValueOk n) (LT_spec_ValueOk n) K_spec_ValueOk (A_spec_ValueOk x0 x1 x2) (U_spec_ValueOk x0 x1 x2) = (T_spec_ValueOk n x0 x1 x2).bind fun r => .done (O_spec_ValueOk r) := by kernel_rfl
theorem ct_spec_ValueOk (n : Nat) : CTok (CT_spec_ValueOk n) (runs KP lib n) := mkCT_cons (eo_spec_l1In n (noEnt_ok)) (mkCT_cons (eo_spec_l2Plain n (noEnt_ok)) (mkCT_nil))
theorem th_spec_ValueOk : ∀ (n : Nat) (x0 : Int) (x1 : Int) (x2 : ByteArray) (r : Bool), F_spec_ValueOk n x0 x1 x2 = some r → runs KP lib n 28 (A_spec_ValueOk x0 x1 x2) (U_spec_ValueOk x0 x1 x2) = some (O_spec_ValueOk r)
  | 0, x0, x1, x2, r, h => by cases h
  | n + 1, x0, x1, x2, r, h => fun_step (kf := K_spec_ValueOk) rfl (ct_spec_ValueOk n) (noLoops rfl) (ft_spec_ValueOk n x0 x1 x2) h
def FH_spec_ValueOk (n : Nat) : Cont → Option (Bool)
  | ([[[.i x0], [.i x1], [.s x2]]], []) => F_spec_ValueOk n x0 x1 x2
  | _ => none
def E_spec_ValueOk (n : Nat) (d : List AV → List Go.Eng.Frame → Tr Res) : List AV → List Go.Eng.Frame → Tr Res := cent (A_spec_ValueOk (0) (0) (⟨#[]⟩)) (U_spec_ValueOk (0) (0) (⟨#[]⟩)) (FH_spec_ValueOk n) O_spec_ValueOk d
theorem eo_spec_ValueOk (n : Nat) {d : List AV → List Go.Eng.Frame → Tr Res} (hd : ∀ ar up r, (d ar up).run = some r → runs KP lib n 28 ar up = some r) : ∀ ar up r, (E_spec_ValueOk n d ar up).run = some r → runs KP lib n 28 ar up = some r :=
  cent_ok (fun hs r h => by
    unfold FH_spec_ValueOk at h
    split at h
    · exact ⟨A_spec_ValueOk _ _ _, U_spec_ValueOk _ _ _, rfl, rfl, th_spec_ValueOk n _ _ _ r h⟩
    · cases h) hd
/-! ### spec.l2Error -/
def A_spec_l2Error (x0 : Int) : List AV := [(.c (.p (.i .i64 x0)))]
def U_spec_l2Error (x0 : Int) : List Go.Eng.Frame := []
def O_spec_l2Error (r : Int × Int × ByteArray) : Res := ⟨(.agg [(.p (.i .i64 r.1)), (.p (.i .i64 r.2.1)), (.p (.s r.2.2))]), [], []⟩
abbrev CT_spec_l2Error (n : Nat) : CTab := mkCT []
abbrev LT_spec_l2Error (n : Nat) : LTab := mkLT []
def T_spec_l2Error (n : Nat) (x0 : Int) : Tr (Int × Int × ByteArray) := (.done ((4 : Int), x0, (⟨#[]⟩ : ByteArray)))
def F_spec_l2Error : Nat → Int → Option (Int × Int × ByteArray)
  | 0, _ => none
  | n + 1, x0 => (T_spec_l2Error n x0).run
theorem ft_spec_l2Error (n : Nat) (x0 : Int) : funT (CT_spec_l2Error n) (LT_spec_l2Error n) K_spec_l2Error (A_spec_l2Error x0) (U_spec_l2Error x0) = (T_spec_l2Error n x0).bind fun r => .done (O_spec_l2Error r) := by kernel_rfl
theorem ct_spec_l2Error (n : Nat) : CTok (CT_spec_l2Error n) (runs KP lib n) := mkCT_nil
theorem th_spec_l2Error : ∀ (n : Nat) (x0 : Int) (r : Int × Int × ByteArray), F_spec_l2Error n x0 = some r → runs KP lib n 40 (A_spec_l2Error x0) (U_spec_l2Error x0) = some (O_spec_l2Error r)
  | 0, x0, r, h => by cases h
  | n + 1, x0, r, h => fun_step (kf := K_spec_l2Error) rfl (ct_spec_l2Error n) (noLoops rfl) (ft_spec_l2Error n x0) h
def FH_spec_l2Error (n : Nat) : Cont → Option (Int × Int × ByteArray)
  | ([[[.i x0]]], []) => F_spec_l2Error n x0
  | _ => none
def E_spec_l2Error (n : Nat) (d : List AV → List Go.Eng.Frame → Tr Res) : List AV → List Go.Eng.Frame → Tr Res := cent (A_spec_l2Error (0)) (U_spec_l2Error (0)) (FH_spec_l2Error n) O_spec_l2Error d
theorem eo_spec_l2Error (n : Nat) {d : List AV → List Go.Eng.Frame → Tr Res} (hd : ∀ ar up r, (d ar up).run = some r → runs KP lib n 40 ar up = some r) : ∀ ar up r, (E_spec_l2Error n d ar up).run = some r → runs KP lib n 40 ar up = some r :=
  cent_ok (fun hs r h => by
    unfold FH_spec_l2Error at h
    split at h
    · exact ⟨A_spec_l2Error _, U_spec_l2Error _, rfl, rfl, th_spec_l2Error n _ r h⟩
    · cases h) hd
/-! ### spec.l2Num -/
def A_spec_l2Num (x0 : Int) (x1 : Int) (x2 : ByteArray) : List AV := [(.agg [(.p (.i .i64 x0)), (.p (.i .i64 x1)), (.p (.s x2))])]
def U_spec_l2Num (x0 : Int) (x1 : Int) (x2 : ByteArray) : List Go.Eng.Frame := []
def O_spec_l2Num (r : Int × Int × Int × ByteArray) : Res := ⟨(.tup [(false, [(.p (.i .i64 r.1))]), (true, [(.p (.i .i64 r.2.1)), (.p (.i .i64 r.2.2.1)), (.p (.s r.2.2.2))])]), [], []⟩
abbrev CT_spec_l2Num (n : Nat) : CTab := mkCT [(28, E_spec_ValueOk n (noEnt)), (40, E_spec_l2Error n (noEnt))]
abbrev LT_spec_l2Num (n : Nat) : LTab := mkLT []
def T_spec_l2Num (n : Nat) (x0 : Int) (x1 : Int) (x2 : ByteArray) : Tr (Int × Int × Int × ByteArray) := (.opt (F_spec_ValueOk n x0 x1 x2) fun r75 => (.ask ((!r75)) (.opt (F_spec_l2Error n (2 : Int)) fun r76 => (.done ((0 : Int), r76.1, r76.2.1, r76.2.2))) (.ask ((x0 == (0 : Int))) (.done (x1, (0 : Int), (0 : Int), (⟨#[]⟩ : ByteArray))) (.ask ((x0 == (1 : Int))) (.done (x1, (0 : Int), (0 : Int), (⟨#[]⟩ : ByteArray))) (.ask ((x0 == (4 : Int))) (.done ((0 : Int), x0, x1, x2)) (.opt (F_spec_l2Error n (2 : Int)) fun r77 => (.done ((0 : Int), r77.1, r77.2.1, r77.2.2))))))))
def F_spec_l2Num : Nat → Int → Int → ByteArray → Option (Int × Int × Int × ByteArray)
  | 0, _, _, _ => none
  | n + 1, x0, x1, x2 => (T_spec_l2Num n x0 x1 x2).run
theorem ft_spec_l2Num (n : Nat) (x0 : Int) (x1 : Int) (x2 : ByteArray) : funT (CT_spec_l2Num n) (LT_spec_l2Num n) K_spec_l2Num (A_spec_l2Num x0 x1 x2) (U_spec_l2Num x0 x1 x2) = (T_spec_l2Num n x0 x1 x2).bind fun r => .done (O_spec_l2Num r) := by kernel_rfl
theorem ct_spec_l2Num (n : Nat) : CTok (CT_spec_l2Num n) (runs KP lib n) := mkCT_cons (eo_spec_ValueOk n (noEnt_ok)) (mkCT_cons (eo_spec_l2Error n (noEnt_ok)) (mkCT_nil))
theorem th_spec_l2Num : ∀ (n : Nat) (x0 : Int) (x1 : Int) (x2 : ByteArray) (r : Int × Int × Int × ByteArray), F_spec_l2Num n x0 x1 x2 = some r → runs KP lib n 59 (A_spec_l2Num x0 x1 x2) (U_spec_l2Num x0 x1 x2) = some (O_spec_l2Num r)
  | 0, x0, x1, x2, r, h => by cases h
  | n + 1, x0, x1, x2, r, h => fun_step (kf := K_spec_l2Num) rfl (ct_spec_l2Num n) (noLoops rfl) (ft_spec_l2Num n x0 x1 x2) h
def FH_spec_l2Num (n : Nat) : Cont → Option (Int × Int × Int × ByteArray)
  | ([[[.i x0], [.i x1], [.s x2]]], []) => F_spec_l2Num n x0 x1 x2
  | _ => none
def E_spec_l2Num (n : Nat) (d : List AV → List Go.Eng.Frame → Tr Res) : List AV → List Go.Eng.Frame → Tr Res := cent (A_spec_l2Num (0) (0) (⟨#[]⟩)) (U_spec_l2Num (0) (0) (⟨#[]⟩)) (FH_spec_l2Num n) O_spec_l2Num d
theorem eo_spec_l2Num (n : Nat) {d : List AV → List Go.Eng.Frame → Tr Res} (hd : ∀ ar up r, (d ar up).run = some r → runs KP lib n 59 ar up = some r) : ∀ ar up r, (E_spec_l2Num n d ar up).run = some r → runs KP lib n 59 ar up = some r :=
  cent_ok (fun hs r h => by
    unfold FH_spec_l2Num at h
    split at h
    · exact ⟨A_spec_l2Num _ _ _, U_spec_l2Num _ _ _, rfl, rfl, th_spec_l2Num n _ _ _ r h⟩
    · cases h) hd
/-! ### spec.l2Two -/
def A_spec_l2Two (x0 : Int) (x1 : Int) (x2 : ByteArray) (x3 : Int) (x4 : Int) (x5 : ByteArray) : List AV := [(.agg [(.p (.i .i64 x0)), (.p (.i .i64 x1)), (.p (.s x2))]), (.agg [(.p (.i .i64 x3)), (.p (.i .i64 x4)), (.p (.s x5))])]
def U_spec_l2Two (x0 : Int) (x1 : Int) (x2 : ByteArray) (x3 : Int) (x4 : Int) (x5 : ByteArray) : List Go.Eng.Frame := []
def O_spec_l2Two (r : Int × Int × Int × Int × ByteArray) : Res := ⟨(.tup [(false, [(.p (.i .i64 r.1))]), (false, [(.p (.i .i64 r.2.1))]), (true, [(.p (.i .i64 r.2.2.1)), (.p (.i .i64 r.2.2.2.1)), (.p (.s r.2.2.2.2))])]), [], []⟩
abbrev CT_spec_l2Two (n : Nat) : CTab := mkCT [(59, E_spec_l2Num n (noEnt))]
abbrev LT_spec_l2Two (n : Nat) : LTab := mkLT []
def T_spec_l2Two (n : Nat) (x0 : Int) (x1 : Int) (x2 : ByteArray) (x3 : Int) (x4 : Int) (x5 : ByteArray) : Tr (Int × Int × Int × Int × ByteArray) := (.opt (F_spec_l2Num n x0 x1 x2) fun r78 => (.ask ((r78.2.1 != (0 : Int))) (.done ((0 : Int), (0 : Int), r78.2.1, r78.2.2.1, r78.2.2.2)) (.opt (F_spec_l2Num n x3 x4 x5) fun r79 => (.done (r78.1, r79.1, r79.2.1, r79.2.2.1, r79.2.2.2)))))
def F_spec_l2Two : Nat → Int → Int → ByteArray → Int → Int → ByteArray → Option (Int × Int × Int × Int × ByteArray)
  | 0, _, _, _, _, _, _ => none
  | n + 1, x0, x1, x2, x3, x4, x5 => (T_spec_l2Two n x0 x1 x2 x3 x4 x5).run
theorem ft_spec_l2Two (n : Nat) (x0 : Int) (x1 : Int) (x2 : ByteArray) (x3 : Int) (x4 : Int) (x5 : ByteArray) : funT (CT_spec_l2Two n) (LT_spec_l2Two n) K_spec_l2Two (A_spec_l2Two x0 x1 x2 x3 x4 x5) (U_spec_l2Two x0 x1 x2 x3 x4 x5) = (T_spec_l2Two n x0 x1 x2 x3 x4 x5).bind fun r => .done (O_spec_l2Two r) := by kernel_rfl
theorem ct_spec_l2Two (n : Nat) : CTok (CT_spec_l2Two n) (runs KP lib n) := mkCT_cons (eo_spec_l2Num n (noEnt_ok)) (mkCT_nil)
theorem th_spec_l2Two : ∀ (n : Nat) (x0 : Int) (x1 : Int) (x2 : ByteArray) (x3 : Int) (x4 : Int) (x5 : ByteArray) (r : Int × Int × Int × Int × ByteArray), F_spec_l2Two n x0 x1 x2 x3 x4 x5 = some r → runs KP lib n 35 (A_spec_l2Two x0 x1 x2 x3 x4 x5) (U_spec_l2Two x0 x1 x2 x3 x4 x5) = some (O_spec_l2Two r)
  | 0, x0, x1, x2, x3, x4, x5, r, h => by cases h
  | n + 1, x0, x1, x2, x3, x4, x5, r, h => fun_step (kf := K_spec_l2Two) rfl (ct_spec_l2Two n) (noLoops rfl) (ft_spec_l2Two n x0 x1 x2 x3 x4 x5) h
def FH_spec_l2Two (n : Nat) : Cont → Option (Int × Int × Int × Int × ByteArray)
  | ([[[.i x0], [.i x1], [.s x2]], [[.i x3], [.i x4], [.s x5]]], []) => F_spec_l2Two n x0 x1 x2 x3 x4 x5
  | _ => none
def E_spec_l2Two (n : Nat) (d : List AV → List Go.Eng.Frame → Tr Res) : List AV → List Go.Eng.Frame → Tr Res := cent (A_spec_l2Two (0) (0) (⟨#[]⟩) (0) (0) (⟨#[]⟩)) (U_spec_l2Two (0) (0) (⟨#[]⟩) (0) (0) (⟨#[]⟩)) (FH_spec_l2Two n) O_spec_l2Two d
theorem eo_spec_l2Two (n : Nat) {d : List AV → List Go.Eng.Frame → Tr Res} (hd : ∀ ar up r, (d ar up).run = some r → runs KP lib n 35 ar up = some r) : ∀ ar up r, (E_spec_l2Two n d ar up).run = some r → runs KP lib n 35 ar up = some r :=
  cent_ok (fun hs r h => by
    unfold FH_spec_l2Two at h
    split at h
    · exact ⟨A_spec_l2Two _ _ _ _ _ _, U_spec_l2Two _ _ _ _ _ _, rfl, rfl, th_spec_l2Two n _ _ _ _ _ _ r h⟩
    · cases h) hd
/-! ### spec.l2Int -/
def A_spec_l2Int (x0 : Int) : List AV := [(.c (.p (.i .i64 x0)))]
def U_spec_l2Int (x0 : Int) : List Go.Eng.Frame := []
def O_spec_l2Int (r : Int × Int × ByteArray) : Res := ⟨(.agg [(.p (.i .i64 r.1)), (.p (.i .i64 r.2.1)), (.p (.s r.2.2))]), [], []⟩
abbrev CT_spec_l2Int (n : Nat) : CTab := mkCT [(44, E_spec_l1In n (noEnt)), (40, E_spec_l2Error n (noEnt))]
abbrev LT_spec_l2Int (n : Nat) : LTab := mkLT []
def T_spec_l2Int (n : Nat) (x0 : Int) : Tr (Int × Int × ByteArray) := (.opt (F_spec_l1In n x0 (-1000000000000000 : Int) (1000000000000000 : Int)) fun r82 => (.ask ((!r82)) (.opt (F_spec_l2Error n (4 : Int)) fun r83 => (.done (r83.1, r83.2.1, r83.2.2))) (.done ((1 : Int), x0, (⟨#[]⟩ : ByteArray)))))
def F_spec_l2Int : Nat → Int → Option (Int × Int × ByteArray)
  | 0, _ => none
  | n + 1, x0 => (T_spec_l2Int n x0).run
theorem ft_spec_l2Int (n : Nat) (x0 : Int) : funT (CT_spec_l2Int n) (LT_spec_l2Int n) K_spec_l2Int (A_spec_l2Int x0) (U_spec_l2Int x0) = (T_spec_l2Int n x0).bind fun r => .done (O_spec_l2Int r) := by kernel_rfl
theorem ct_spec_l2Int (n : Nat) : CTok (CT_spec_l2Int n) (runs KP lib n) := mkCT_cons (eo_spec_l1In n (noEnt_ok)) (mkCT_cons (eo_spec_l2Error n (noEnt_ok)) (mkCT_nil))
theorem th_spec_l2Int : ∀ (n : Nat) (x0 : Int) (r : Int × Int × ByteArray), F_spec_l2Int n x0 = some r → runs KP lib n 36 (A_spec_l2Int x0) (U_spec_l2Int x0) = some (O_spec_l2Int r)
  | 0, x0, r, h => by cases h
  | n + 1, x0, r, h => fun_step (kf := K_spec_l2Int) rfl (ct_spec_l2Int n) (noLoops rfl) (ft_spec_l2Int n x0) h
def FH_spec_l2Int (n : Nat) : Cont → Option (Int × Int × ByteArray)
  | ([[[.i x0]]], []) => F_spec_l2Int n x0
  | _ => none
def E_spec_l2Int (n : Nat) (d : List AV → List Go.Eng.Frame → Tr Res) : List AV → List Go.Eng.Frame → Tr Res := cent (A_spec_l2Int (0)) (U_spec_l2Int (0)) (FH_spec_l2Int n) O_spec_l2Int d
theorem eo_spec_l2Int (n : Nat) {d : List AV → List Go.Eng.Frame → Tr Res} (hd : ∀ ar up r, (d ar up).run = some r → runs KP lib n 36 ar up = some r) : ∀ ar up r, (E_spec_l2Int n d ar up).run = some r → runs KP lib n 36 ar up = some r :=
  cent_ok (fun hs r h => by
    unfold FH_spec_l2Int at h
    split at h
    · exact ⟨A_spec_l2Int _, U_spec_l2Int _, rfl, rfl, th_spec_l2Int n _ r h⟩
    · cases h) hd
/-! ### spec.Over -/
def A_spec_Over (x0 : Int) (x1 : Int) (x2 : ByteArray) (x3 : Int) (x4 : Int) (x5 : ByteArray) : List AV := [(.agg [(.p (.i .i64 x0)), (.p (.i .i64 x1)), (.p (.s x2))]), (.agg [(.p (.i .i64 x3)), (.p (.i .i64 x4)), (.p (.s x5))])]
def U_spec_Over (x0 : Int) (x1 : Int) (x2 : ByteArray) (x3 : Int) (x4 : Int) (x5 : ByteArray) : List Go.Eng.Frame := []
def O_spec_Over (r : Int × Int × ByteArray) : Res := ⟨(.agg [(.p (.i .i64 r.1)), (.p (.i .i64 r.2.1)), (.p (.s r.2.2))]), [], []⟩
abbrev CT_spec_Over (n : Nat) : CTab := mkCT [(35, E_spec_l2Two n (noEnt)), (40, E_spec_l2Error n (noEnt)), (36, E_spec_l2Int n (noEnt))]
abbrev LT_spec_Over (n : Nat) : LTab := mkLT []
def T_spec_Over (n : Nat) (x0 : Int) (x1 : Int) (x2 : ByteArray) (x3 : Int) (x4 : Int) (x5 : ByteArray) : Tr (Int × Int × ByteArray) := (.opt (F_spec_l2Two n x0 x1 x2 x3 x4 x5) fun r80 => (.ask ((r80.2.2.1 != (0 : Int))) (.done (r80.2.2.1, r80.2.2.2.1, r80.2.2.2.2)) (.ask ((r80.2.1 == (0 : Int))) (.opt (F_spec_l2Error n (1 : Int)) fun r81 => (.done (r81.1, r81.2.1, r81.2.2))) (.ask (decide (r80.2.1 = 0)) .fail (.opt (F_spec_l2Int n (IntKind.i64.wrap (Int.tdiv r80.1 r80.2.1))) fun r84 => (.done (r84.1, r84.2.1, r84.2.2)))))))
def F_spec_Over : Nat → Int → Int → ByteArray → Int → Int → ByteArray → Option (Int × Int × ByteArray)
  | 0, _, _, _, _, _, _ => none
  | n + 1, x0, x1, x2, x3, x4, x5 => (T_spec_Over n x0 x1 x2 x3 x4 x5).run
theorem ft_spec_Over (n : Nat) (x0 : Int) (x1 : Int) (x2 : ByteArray) (x3 : Int) (x4 : Int) (x5 : ByteArray) : funT (CT_spec_Over n) (LT_spec_Over n) K_spec_Over (A_spec_Over x0 x1 x2 x3 x4 x5) (U_spec_Over x0 x1 x2 x3 x4 x5) = (T_spec_Over n x0 x1 x2 x3 x4 x5).bind fun r => .done (O_spec_Over r) := by kernel_rfl
theorem ct_spec_Over (n : Nat) : CTok (CT_spec_Over n) (runs KP lib n) := mkCT_cons (eo_spec_l2Two n (noEnt_ok)) (mkCT_cons (eo_spec_l2Error n (noEnt_ok)) (mkCT_cons (eo_spec_l2Int n (noEnt_ok)) (mkCT_nil)))
theorem th_spec_Over : ∀ (n : Nat) (x0 : Int) (x1 : Int) (x2 : ByteArray) (x3 : Int) (x4 : Int) (x5 : ByteArray) (r : Int × Int × ByteArray), F_spec_Over n x0 x1 x2 x3 x4 x5 = some r → runs KP lib n 16 (A_spec_Over x0 x1 x2 x3 x4 x5) (U_spec_Over x0 x1 x2 x3 x4 x5) = some (O_spec_Over r)
  | 0, x0, x1, x2, x3, x4, x5, r, h => by cases h
  | n + 1, x0, x1, x2, x3, x4, x5, r, h => fun_step (kf := K_spec_Over) rfl (ct_spec_Over n) (noLoops rfl) (ft_spec_Over n x0 x1 x2 x3 x4 x5) h
def FH_spec_Over (n : Nat) : Cont → Option (Int × Int × ByteArray)
  | ([[[.i x0], [.i x1], [.s x2]], [[.i x3], [.i x4], [.s x5]]], []) => F_spec_Over n x0 x1 x2 x3 x4 x5
  | _ => none
def E_spec_Over (n : Nat) (d : List AV → List Go.Eng.Frame → Tr Res) : List AV → List Go.Eng.Frame → Tr Res := cent (A_spec_Over (0) (0) (⟨#[]⟩) (0) (0) (⟨#[]⟩)) (U_spec_Over (0) (0) (⟨#[]⟩) (0) (0) (⟨#[]⟩)) (FH_spec_Over n) O_spec_Over d
theorem eo_spec_Over (n : Nat) {d : List AV → List Go.Eng.Frame → Tr Res} (hd : ∀ ar up r, (d ar up).run = some r → runs KP lib n 16 ar up = some r) : ∀ ar up r, (E_spec_Over n d ar up).run = some r → runs KP lib n 16 ar up = some r :=
  cent_ok (fun hs r h => by
    unfold FH_spec_Over at h
    split at h
    · exact ⟨A_spec_Over _ _ _ _ _ _, U_spec_Over _ _ _ _ _ _, rfl, rfl, th_spec_Over n _ _ _ _ _ _ r h⟩
    · cases h) hd
/-! ### impl.Times$1 -/
def A_impl_Times_1 (x0 : Int) (x1 : Int) : List AV := [(.c (.p (.i .i64 x0))), (.c (.p (.i .i64 x1)))]
def U_impl_Times_1 (x0 : Int) (x1 : Int) : List Go.Eng.Frame := []
def O_impl_Times_1 (r : Int × Int × ByteArray) : Res := ⟨(.agg [(.p (.i .i64 r.1)), (.p (.i .i64 r.2.1)), (.p (.s r.2.2))]), [], []⟩
abbrev CT_impl_Times_1 (n : Nat) : CTab := mkCT [(42, E_impl_fault n (noEnt)), (39, E_impl_bounded n (noEnt))]
abbrev LT_impl_Times_1 (n : Nat) : LTab := mkLT []
def T_impl_Times_1 (n : Nat) (x0 : Int) (x1 : Int) : Tr (Int × Int × ByteArray) := (.ask ((x1 != (0 : Int))) (.ask (decide ((if (IntKind.i64.wrap (0 - x1)) > x1 then (IntKind.i64.wrap (0 - x1)) else x1) = 0)) .fail (.ask ((decide ((if (IntKind.i64.wrap (0 - x0)) > x0 then (IntKind.i64.wrap (0 - x0)) else x0) > (IntKind.i64.wrap (Int.tdiv (1000000000000000 : Int) (if (IntKind.i64.wrap (0 - x1)) > x1 then (IntKind.i64.wrap (0 - x1)) else x1)))))) (.opt (F_impl_fault n (4 : Int)) fun r91 => (.done (r91.1, r91.2.1, r91.2.2))) (.opt (F_impl_bounded n (IntKind.i64.wrap (x0 * x1))) fun r92 => (.done (r92.1, r92.2.1, r92.2.2))))) (.opt (F_impl_bounded n (IntKind.i64.wrap (x0 * x1))) fun r93 => (.done (r93.1, r93.2.1, r93.2.2))))
def F_impl_Times_1 : Nat → Int → Int → Option (Int × Int × ByteArray)
  | 0, _, _ => none
  | n + 1, x0, x1 => (T_impl_Times_1 n x0 x1).run
theorem ft_impl_Times_1 (n : Nat) (x0 : Int) (x1 : Int) : funT (CT_impl_Times_1 n) (LT_impl_Times_1 n) K_impl_Times_1 (A_impl_Times_1 x0 x1) (U_impl_Times_1 x0 x1) = (T_impl_Times_1 n x0 x1).bind fun r => .done (O_impl_Times_1 r) := by kernel_rfl
theorem ct_impl_Times_1 (n : Nat) : CTok (CT_impl_Times_1 n) (runs KP lib n) := mkCT_cons (eo_impl_fault n (noEnt_ok)) (mkCT_cons (eo_impl_bounded n (noEnt_ok)) (mkCT_nil))
theorem th_impl_Times_1 : ∀ (n : Nat) (x0 : Int) (x1 : Int) (r : Int × Int × ByteArray), F_impl_Times_1 n x0 x1 = some r → runs KP lib n 43 (A_impl_Times_1 x0 x1) (U_impl_Times_1 x0 x1) = some (O_impl_Times_1 r)
  | 0, x0, x1, r, h => by cases h
  | n + 1, x0, x1, r, h => fun_step (kf := K_impl_Times_1) rfl (ct_impl_Times_1 n) (noLoops rfl) (ft_impl_Times_1 n x0 x1) h
def FH_impl_Times_1 (n : Nat) : Cont → Option (Int × Int × ByteArray)
  | ([[[.i x0]], [[.i x1]]], []) => F_impl_Times_1 n x0 x1
  | _ => none
def E_impl_Times_1 (n : Nat) (d : List AV → List Go.Eng.Frame → Tr Res) : List AV → List Go.Eng.Frame → Tr Res := cent (A_impl_Times_1 (0) (0)) (U_impl_Times_1 (0) (0)) (FH_impl_Times_1 n) O_impl_Times_1 d
theorem eo_impl_Times_1 (n : Nat) {d : List AV → List Go.Eng.Frame → Tr Res} (hd : ∀ ar up r, (d ar up).run = some r → runs KP lib n 43 ar up = some r) : ∀ ar up r, (E_impl_Times_1 n d ar up).run = some r → runs KP lib n 43 ar up = some r :=
  cent_ok (fun hs r h => by
    unfold FH_impl_Times_1 at h
    split at h
    · exact ⟨A_impl_Times_1 _ _, U_impl_Times_1 _ _, rfl, rfl, th_impl_Times_1 n _ _ r h⟩
    · cases h) hd
/-! ### impl.reckoned -/
def A_impl_reckoned_of_impl_Times_1 (x0 : Int) (x1 : Int) (x2 : ByteArray) (x3 : Int) (x4 : Int) (x5 : ByteArray) : List AV := [(.agg [(.p (.i .i64 x0)), (.p (.i .i64 x1)), (.p (.s x2))]), (.agg [(.p (.i .i64 x3)), (.p (.i .i64 x4)), (.p (.s x5))]), (.c (.fn 43 []))]
def U_impl_reckoned_of_impl_Times_1 (x0 : Int) (x1 : Int) (x2 : ByteArray) (x3 : Int) (x4 : Int) (x5 : ByteArray) : List Go.Eng.Frame := []
def O_impl_reckoned_of_impl_Times_1 (r : Int × Int × ByteArray) : Res := ⟨(.agg [(.p (.i .i64 r.1)), (.p (.i .i64 r.2.1)), (.p (.s r.2.2))]), [], []⟩
abbrev CT_impl_reckoned_of_impl_Times_1 (n : Nat) : CTab := mkCT [(61, E_impl_asNumber n (noEnt)), (62, E_impl_none n (noEnt)), (43, E_impl_Times_1 n (noEnt))]
abbrev LT_impl_reckoned_of_impl_Times_1 (n : Nat) : LTab := mkLT []
def T_impl_reckoned_of_impl_Times_1 (n : Nat) (x0 : Int) (x1 : Int) (x2 : ByteArray) (x3 : Int) (x4 : Int) (x5 : ByteArray) : Tr (Int × Int × ByteArray) := (.opt (F_impl_asNumber n x0 x1 x2) fun r87 => (.opt (F_impl_asNumber n x3 x4 x5) fun r88 => (.ask ((!r87.2)) (.opt (F_impl_none n x0 x1 x2) fun r89 => (.done (r89.1, r89.2.1, r89.2.2))) (.ask ((!r88.2)) (.opt (F_impl_none n x3 x4 x5) fun r90 => (.done (r90.1, r90.2.1, r90.2.2))) (.opt (F_impl_Times_1 n r87.1 r88.1) fun r94 => (.done (r94.1, r94.2.1, r94.2.2)))))))
def F_impl_reckoned_of_impl_Times_1 : Nat → Int → Int → ByteArray → Int → Int → ByteArray → Option (Int × Int × ByteArray)
  | 0, _, _, _, _, _, _ => none
  | n + 1, x0, x1, x2, x3, x4, x5 => (T_impl_reckoned_of_impl_Times_1 n x0 x1 x2 x3 x4 x5).run
theorem ft_impl_reckoned_of_impl_Times_1 (n : Nat) (x0 : Int) (x1 : Int) (x2 : ByteArray) (x3 : Int) (x4 : Int) (x5 : ByteArray) : funT (CT_impl_reckoned_of_impl_Times_1 n) (LT_impl_reckoned_of_impl_Times_1 n) K_impl_reckoned (A_impl_reckoned_of_impl_Times_1 x0 x1 x2 x3 x4 x5) (U_impl_reckoned_of_impl_Times_1 x0 x1 x2 x3 x4 x5) = (T_impl_reckoned_of_impl_Times_1 n x0 x1 x2 x3 x4 x5).bind fun r => .done (O_impl_reckoned_of_impl_Times_1 r) := by kernel_rfl
theorem ct_impl_reckoned_of_impl_Times_1 (n : Nat) : CTok (CT_impl_reckoned_of_impl_Times_1 n) (runs KP lib n) := mkCT_cons (eo_impl_asNumber n (noEnt_ok)) (mkCT_cons (eo_impl_none n (noEnt_ok)) (mkCT_cons (eo_impl_Times_1 n (noEnt_ok)) (mkCT_nil)))
theorem th_impl_reckoned_of_impl_Times_1 : ∀ (n : Nat) (x0 : Int) (x1 : Int) (x2 : ByteArray) (x3 : Int) (x4 : Int) (x5 : ByteArray) (r : Int × Int × ByteArray), F_impl_reckoned_of_impl_Times_1 n x0 x1 x2 x3 x4 x5 = some r → runs KP lib n 37 (A_impl_reckoned_of_impl_Times_1 x0 x1 x2 x3 x4 x5) (U_impl_reckoned_of_impl_Times_1 x0 x1 x2 x3 x4 x5) = some (O_impl_reckoned_of_impl_Times_1 r)
  | 0, x0, x1, x2, x3, x4, x5, r, h => by cases h
  | n + 1, x0, x1, x2, x3, x4, x5, r, h => fun_step (kf := K_impl_reckoned) rfl (ct_impl_reckoned_of_impl_Times_1 n) (noLoops rfl) (ft_impl_reckoned_of_impl_Times_1 n x0 x1 x2 x3 x4 x5) h
def FH_impl_reckoned_of_impl_Times_1 (n : Nat) : Cont → Option (Int × Int × ByteArray)
  | ([[[.i x0], [.i x1], [.s x2]], [[.i x3], [.i x4], [.s x5]], [[]]], []) => F_impl_reckoned_of_impl_Times_1 n x0 x1 x2 x3 x4 x5
  | _ => none
def E_impl_reckoned_of_impl_Times_1 (n : Nat) (d : List AV → List Go.Eng.Frame → Tr Res) : List AV → List Go.Eng.Frame → Tr Res := cent (A_impl_reckoned_of_impl_Times_1 (0) (0) (⟨#[]⟩) (0) (0) (⟨#[]⟩)) (U_impl_reckoned_of_impl_Times_1 (0) (0) (⟨#[]⟩) (0) (0) (⟨#[]⟩)) (FH_impl_reckoned_of_impl_Times_1 n) O_impl_reckoned_of_impl_Times_1 d
theorem eo_impl_reckoned_of_impl_Times_1 (n : Nat) {d : List AV → List Go.Eng.Frame → Tr Res} (hd : ∀ ar up r, (d ar up).run = some r → runs KP lib n 37 ar up = some r) : ∀ ar up r, (E_impl_reckoned_of_impl_Times_1 n d ar up).run = some r → runs KP lib n 37 ar up = some r :=
  cent_ok (fun hs r h => by
    unfold FH_impl_reckoned_of_impl_Times_1 at h
    split at h
    · exact ⟨A_impl_reckoned_of_impl_Times_1 _ _ _ _ _ _, U_impl_reckoned_of_impl_Times_1 _ _ _ _ _ _, rfl, rfl, th_impl_reckoned_of_impl_Times_1 n _ _ _ _ _ _ r h⟩
    · cases h) hd
/-! ### impl.Times -/
def A_impl_Times (x0 : Int) (x1 : Int) (x2 : ByteArray) (x3 : Int) (x4 : Int) (x5 : ByteArray) : List AV := [(.agg [(.p (.i .i64 x0)), (.p (.i .i64 x1)), (.p (.s x2))]), (.agg [(.p (.i .i64 x3)), (.p (.i .i64 x4)), (.p (.s x5))])]
def U_impl_Times (x0 : Int) (x1 : Int) (x2 : ByteArray) (x3 : Int) (x4 : Int) (x5 : ByteArray) : List Go.Eng.Frame := []
def O_impl_Times (r : Int × Int × ByteArray) : Res := ⟨(.agg [(.p (.i .i64 r.1)), (.p (.i .i64 r.2.1)), (.p (.s r.2.2))]), [], []⟩
abbrev CT_impl_Times (n : Nat) : CTab := mkCT [(37, E_impl_reckoned_of_impl_Times_1 n (noEnt))]
abbrev LT_impl_Times (n : Nat) : LTab := mkLT []
def T_impl_Times (n : Nat) (x0 : Int) (x1 : Int) (x2 : ByteArray) (x3 : Int) (x4 : Int) (x5 : ByteArray) : Tr (Int × Int × ByteArray) := (.opt (F_impl_reckoned_of_impl_Times_1 n x0 x1 x2 x3 x4 x5) fun r95 => (.done (r95.1, r95.2.1, r95.2.2)))
def F_impl_Times : Nat → Int → Int → ByteArray → Int → Int → ByteArray → Option (Int × Int × ByteArray)
  | 0, _, _, _, _, _, _ => none
  | n + 1, x0, x1, x2, x3, x4, x5 => (T_impl_Times n x0 x1 x2 x3 x4 x5).run
theorem ft_impl_Times (n : Nat) (x0 : Int) (x1 : Int) (x2 : ByteArray) (x3 : Int) (x4 : Int) (x5 : ByteArray) : funT (CT_impl_Times n) (LT_impl_Times n) K_impl_Times (A_impl_Times x0 x1 x2 x3 x4 x5) (U_impl_Times x0 x1 x2 x3 x4 x5) = (T_impl_Times n x0 x1 x2 x3 x4 x5).bind fun r => .done (O_impl_Times r) := by kernel_rfl
theorem ct_impl_Times (n : Nat) : CTok (CT_impl_Times n) (runs KP lib n) := mkCT_cons (eo_impl_reckoned_of_impl_Times_1 n (noEnt_ok)) (mkCT_nil)
theorem th_impl_Times : ∀ (n : Nat) (x0 : Int) (x1 : Int) (x2 : ByteArray) (x3 : Int) (x4 : Int) (x5 : ByteArray) (r : Int × Int × ByteArray), F_impl_Times n x0 x1 x2 x3 x4 x5 = some r → runs KP lib n 19 (A_impl_Times x0 x1 x2 x3 x4 x5) (U_impl_Times x0 x1 x2 x3 x4 x5) = some (O_impl_Times r)
  | 0, x0, x1, x2, x3, x4, x5, r, h => by cases h
  | n + 1, x0, x1, x2, x3, x4, x5, r, h => fun_step (kf := K_impl_Times) rfl (ct_impl_Times n) (noLoops rfl) (ft_impl_Times n x0 x1 x2 x3 x4 x5) h
def FH_impl_Times (n : Nat) : Cont → Option (Int × Int × ByteArray)
  | ([[[.i x0], [.i x1], [.s x2]], [[.i x3], [.i x4], [.s x5]]], []) => F_impl_Times n x0 x1 x2 x3 x4 x5
  | _ => none
def E_impl_Times (n : Nat) (d : List AV → List Go.Eng.Frame → Tr Res) : List AV → List Go.Eng.Frame → Tr Res := cent (A_impl_Times (0) (0) (⟨#[]⟩) (0) (0) (⟨#[]⟩)) (U_impl_Times (0) (0) (⟨#[]⟩) (0) (0) (⟨#[]⟩)) (FH_impl_Times n) O_impl_Times d
theorem eo_impl_Times (n : Nat) {d : List AV → List Go.Eng.Frame → Tr Res} (hd : ∀ ar up r, (d ar up).run = some r → runs KP lib n 19 ar up = some r) : ∀ ar up r, (E_impl_Times n d ar up).run = some r → runs KP lib n 19 ar up = some r :=
  cent_ok (fun hs r h => by
    unfold FH_impl_Times at h
    split at h
    · exact ⟨A_impl_Times _ _ _ _ _ _, U_impl_Times _ _ _ _ _ _, rfl, rfl, th_impl_Times n _ _ _ _ _ _ r h⟩
    · cases h) hd
/-! ### impl.Less$1 -/
def A_impl_Less_1 (x0 : Int) (x1 : Int) : List AV := [(.c (.p (.i .i64 x0))), (.c (.p (.i .i64 x1)))]
def U_impl_Less_1 (x0 : Int) (x1 : Int) : List Go.Eng.Frame := []
def O_impl_Less_1 (r : Int × Int × ByteArray) : Res := ⟨(.agg [(.p (.i .i64 r.1)), (.p (.i .i64 r.2.1)), (.p (.s r.2.2))]), [], []⟩
abbrev CT_impl_Less_1 (n : Nat) : CTab := mkCT [(39, E_impl_bounded n (noEnt))]
abbrev LT_impl_Less_1 (n : Nat) : LTab := mkLT []
def T_impl_Less_1 (n : Nat) (x0 : Int) (x1 : Int) : Tr (Int × Int × ByteArray) := (.opt (F_impl_bounded n (IntKind.i64.wrap (x0 - x1))) fun r101 => (.done (r101.1, r101.2.1, r101.2.2)))
def F_impl_Less_1 : Nat → Int → Int → Option (Int × Int × ByteArray)
  | 0, _, _ => none
  | n + 1, x0, x1 => (T_impl_Less_1 n x0 x1).run
theorem ft_impl_Less_1 (n : Nat) (x0 : Int) (x1 : Int) : funT (CT_impl_Less_1 n) (LT_impl_Less_1 n) K_impl_Less_1 (A_impl_Less_1 x0 x1) (U_impl_Less_1 x0 x1) = (T_impl_Less_1 n x0 x1).bind fun r => .done (O_impl_Less_1 r) := by kernel_rfl
theorem ct_impl_Less_1 (n : Nat) : CTok (CT_impl_Less_1 n) (runs KP lib n) := mkCT_cons (eo_impl_bounded n (noEnt_ok)) (mkCT_nil)
theorem th_impl_Less_1 : ∀ (n : Nat) (x0 : Int) (x1 : Int) (r : Int × Int × ByteArray), F_impl_Less_1 n x0 x1 = some r → runs KP lib n 38 (A_impl_Less_1 x0 x1) (U_impl_Less_1 x0 x1) = some (O_impl_Less_1 r)
  | 0, x0, x1, r, h => by cases h
  | n + 1, x0, x1, r, h => fun_step (kf := K_impl_Less_1) rfl (ct_impl_Less_1 n) (noLoops rfl) (ft_impl_Less_1 n x0 x1) h
def FH_impl_Less_1 (n : Nat) : Cont → Option (Int × Int × ByteArray)
  | ([[[.i x0]], [[.i x1]]], []) => F_impl_Less_1 n x0 x1
  | _ => none
def E_impl_Less_1 (n : Nat) (d : List AV → List Go.Eng.Frame → Tr Res) : List AV → List Go.Eng.Frame → Tr Res := cent (A_impl_Less_1 (0) (0)) (U_impl_Less_1 (0) (0)) (FH_impl_Less_1 n) O_impl_Less_1 d
theorem eo_impl_Less_1 (n : Nat) {d : List AV → List Go.Eng.Frame → Tr Res} (hd : ∀ ar up r, (d ar up).run = some r → runs KP lib n 38 ar up = some r) : ∀ ar up r, (E_impl_Less_1 n d ar up).run = some r → runs KP lib n 38 ar up = some r :=
  cent_ok (fun hs r h => by
    unfold FH_impl_Less_1 at h
    split at h
    · exact ⟨A_impl_Less_1 _ _, U_impl_Less_1 _ _, rfl, rfl, th_impl_Less_1 n _ _ r h⟩
    · cases h) hd
/-! ### impl.reckoned -/
def A_impl_reckoned_of_impl_Less_1 (x0 : Int) (x1 : Int) (x2 : ByteArray) (x3 : Int) (x4 : Int) (x5 : ByteArray) : List AV := [(.agg [(.p (.i .i64 x0)), (.p (.i .i64 x1)), (.p (.s x2))]), (.agg [(.p (.i .i64 x3)), (.p (.i .i64 x4)), (.p (.s x5))]), (.c (.fn 38 []))]
def U_impl_reckoned_of_impl_Less_1 (x0 : Int) (x1 : Int) (x2 : ByteArray) (x3 : Int) (x4 : Int) (x5 : ByteArray) : List Go.Eng.Frame := []
def O_impl_reckoned_of_impl_Less_1 (r : Int × Int × ByteArray) : Res := ⟨(.agg [(.p (.i .i64 r.1)), (.p (.i .i64 r.2.1)), (.p (.s r.2.2))]), [], []⟩
abbrev CT_impl_reckoned_of_impl_Less_1 (n : Nat) : CTab := mkCT [(61, E_impl_asNumber n (noEnt)), (62, E_impl_none n (noEnt)), (38, E_impl_Less_1 n (noEnt))]
abbrev LT_impl_reckoned_of_impl_Less_1 (n : Nat) : LTab := mkLT []
def T_impl_reckoned_of_impl_Less_1 (n : Nat) (x0 : Int) (x1 : Int) (x2 : ByteArray) (x3 : Int) (x4 : Int) (x5 : ByteArray) : Tr (Int × Int × ByteArray) := (.opt (F_impl_asNumber n x0 x1 x2) fun r97 => (.opt (F_impl_asNumber n x3 x4 x5) fun r98 => (.ask ((!r97.2)) (.opt (F_impl_none n x0 x1 x2) fun r99 => (.done (r99.1, r99.2.1, r99.2.2))) (.ask ((!r98.2)) (.opt (F_impl_none n x3 x4 x5) fun r100 => (.done (r100.1, r100.2.1, r100.2.2))) (.opt (F_impl_Less_1 n r97.1 r98.1) fun r102 => (.done (r102.1, r102.2.1, r102.2.2)))))))
def F_impl_reckoned_of_impl_Less_1 : Nat → Int → Int → ByteArray → Int → Int → ByteArray → Option (Int × Int × ByteArray)
  | 0, _, _, _, _, _, _ => none
  | n + 1, x0, x1, x2, x3, x4, x5 => (T_impl_reckoned_of_impl_Less_1 n x0 x1 x2 x3 x4 x5).run
theorem ft_impl_reckoned_of_impl_Less_1 (n : Nat) (x0 : Int) (x1 : Int) (x2 : ByteArray) (x3 : Int) (x4 : Int) (x5 : ByteArray) : funT (CT_impl_reckoned_of_impl_Less_1 n) (LT_impl_reckoned_of_impl_Less_1 n) K_impl_reckoned (A_impl_reckoned_of_impl_Less_1 x0 x1 x2 x3 x4 x5) (U_impl_reckoned_of_impl_Less_1 x0 x1 x2 x3 x4 x5) = (T_impl_reckoned_of_impl_Less_1 n x0 x1 x2 x3 x4 x5).bind fun r => .done (O_impl_reckoned_of_impl_Less_1 r) := by kernel_rfl
theorem ct_impl_reckoned_of_impl_Less_1 (n : Nat) : CTok (CT_impl_reckoned_of_impl_Less_1 n) (runs KP lib n) := mkCT_cons (eo_impl_asNumber n (noEnt_ok)) (mkCT_cons (eo_impl_none n (noEnt_ok)) (mkCT_cons (eo_impl_Less_1 n (noEnt_ok)) (mkCT_nil)))
theorem th_impl_reckoned_of_impl_Less_1 : ∀ (n : Nat) (x0 : Int) (x1 : Int) (x2 : ByteArray) (x3 : Int) (x4 : Int) (x5 : ByteArray) (r : Int × Int × ByteArray), F_impl_reckoned_of_impl_Less_1 n x0 x1 x2 x3 x4 x5 = some r → runs KP lib n 37 (A_impl_reckoned_of_impl_Less_1 x0 x1 x2 x3 x4 x5) (U_impl_reckoned_of_impl_Less_1 x0 x1 x2 x3 x4 x5) = some (O_impl_reckoned_of_impl_Less_1 r)
  | 0, x0, x1, x2, x3, x4, x5, r, h => by cases h
  | n + 1, x0, x1, x2, x3, x4, x5, r, h => fun_step (kf := K_impl_reckoned) rfl (ct_impl_reckoned_of_impl_Less_1 n) (noLoops rfl) (ft_impl_reckoned_of_impl_Less_1 n x0 x1 x2 x3 x4 x5) h
def FH_impl_reckoned_of_impl_Less_1 (n : Nat) : Cont → Option (Int × Int × ByteArray)
  | ([[[.i x0], [.i x1], [.s x2]], [[.i x3], [.i x4], [.s x5]], [[]]], []) => F_impl_reckoned_of_impl_Less_1 n x0 x1 x2 x3 x4 x5
  | _ => none
def E_impl_reckoned_of_impl_Less_1 (n : Nat) (d : List AV → List Go.Eng.Frame → Tr Res) : List AV → List Go.Eng.Frame → Tr Res := cent (A_impl_reckoned_of_impl_Less_1 (0) (0) (⟨#[]⟩) (0) (0) (⟨#[]⟩)) (U_impl_reckoned_of_impl_Less_1 (0) (0) (⟨#[]⟩) (0) (0) (⟨#[]⟩)) (FH_impl_reckoned_of_impl_Less_1 n) O_impl_reckoned_of_impl_Less_1 d
theorem eo_impl_reckoned_of_impl_Less_1 (n : Nat) {d : List AV → List Go.Eng.Frame → Tr Res} (hd : ∀ ar up r, (d ar up).run = some r → runs KP lib n 37 ar up = some r) : ∀ ar up r, (E_impl_reckoned_of_impl_Less_1 n d ar up).run = some r → runs KP lib n 37 ar up = some r :=
  cent_ok (fun hs r h => by
    unfold FH_impl_reckoned_of_impl_Less_1 at h
    split at h
    · exact ⟨A_impl_reckoned_of_impl_Less_1 _ _ _ _ _ _, U_impl_reckoned_of_impl_Less_1 _ _ _ _ _ _, rfl, rfl, th_impl_reckoned_of_impl_Less_1 n _ _ _ _ _ _ r h⟩
    · cases h) hd
/-! ### impl.Less -/
def A_impl_Less (x0 : Int) (x1 : Int) (x2 : ByteArray) (x3 : Int) (x4 : Int) (x5 : ByteArray) : List AV := [(.agg [(.p (.i .i64 x0)), (.p (.i .i64 x1)), (.p (.s x2))]), (.agg [(.p (.i .i64 x3)), (.p (.i .i64 x4)), (.p (.s x5))])]
def U_impl_Less (x0 : Int) (x1 : Int) (x2 : ByteArray) (x3 : Int) (x4 : Int) (x5 : ByteArray) : List Go.Eng.Frame := []
def O_impl_Less (r : Int × Int × ByteArray) : Res := ⟨(.agg [(.p (.i .i64 r.1)), (.p (.i .i64 r.2.1)), (.p (.s r.2.2))]), [], []⟩
abbrev CT_impl_Less (n : Nat) : CTab := mkCT [(37, E_impl_reckoned_of_impl_Less_1 n (noEnt))]
abbrev LT_impl_Less (n : Nat) : LTab := mkLT []
def T_impl_Less (n : Nat) (x0 : Int) (x1 : Int) (x2 : ByteArray) (x3 : Int) (x4 : Int) (x5 : ByteArray) : Tr (Int × Int × ByteArray) := (.opt (F_impl_reckoned_of_impl_Less_1 n x0 x1 x2 x3 x4 x5) fun r103 => (.done (r103.1, r103.2.1, r103.2.2)))
def F_impl_Less : Nat → Int → Int → ByteArray → Int → Int → ByteArray → Option (Int × Int × ByteArray)
  | 0, _, _, _, _, _, _ => none
  | n + 1, x0, x1, x2, x3, x4, x5 => (T_impl_Less n x0 x1 x2 x3 x4 x5).run
theorem ft_impl_Less (n : Nat) (x0 : Int) (x1 : Int) (x2 : ByteArray) (x3 : Int) (x4 : Int) (x5 : ByteArray) : funT (CT_impl_Less n) (LT_impl_Less n) K_impl_Less (A_impl_Less x0 x1 x2 x3 x4 x5) (U_impl_Less x0 x1 x2 x3 x4 x5) = (T_impl_Less n x0 x1 x2 x3 x4 x5).bind fun r => .done (O_impl_Less r) := by kernel_rfl
theorem ct_impl_Less (n : Nat) : CTok (CT_impl_Less n) (runs KP lib n) := mkCT_cons (eo_impl_reckoned_of_impl_Less_1 n (noEnt_ok)) (mkCT_nil)
theorem th_impl_Less : ∀ (n : Nat) (x0 : Int) (x1 : Int) (x2 : ByteArray) (x3 : Int) (x4 : Int) (x5 : ByteArray) (r : Int × Int × ByteArray), F_impl_Less n x0 x1 x2 x3 x4 x5 = some r → runs KP lib n 14 (A_impl_Less x0 x1 x2 x3 x4 x5) (U_impl_Less x0 x1 x2 x3 x4 x5) = some (O_impl_Less r)
  | 0, x0, x1, x2, x3, x4, x5, r, h => by cases h
  | n + 1, x0, x1, x2, x3, x4, x5, r, h => fun_step (kf := K_impl_Less) rfl (ct_impl_Less n) (noLoops rfl) (ft_impl_Less n x0 x1 x2 x3 x4 x5) h
def FH_impl_Less (n : Nat) : Cont → Option (Int × Int × ByteArray)
  | ([[[.i x0], [.i x1], [.s x2]], [[.i x3], [.i x4], [.s x5]]], []) => F_impl_Less n x0 x1 x2 x3 x4 x5
  | _ => none
def E_impl_Less (n : Nat) (d : List AV → List Go.Eng.Frame → Tr Res) : List AV → List Go.Eng.Frame → Tr Res := cent (A_impl_Less (0) (0) (⟨#[]⟩) (0) (0) (⟨#[]⟩)) (U_impl_Less (0) (0) (⟨#[]⟩) (0) (0) (⟨#[]⟩)) (FH_impl_Less n) O_impl_Less d
theorem eo_impl_Less (n : Nat) {d : List AV → List Go.Eng.Frame → Tr Res} (hd : ∀ ar up r, (d ar up).run = some r → runs KP lib n 14 ar up = some r) : ∀ ar up r, (E_impl_Less n d ar up).run = some r → runs KP lib n 14 ar up = some r :=
  cent_ok (fun hs r h => by
    unfold FH_impl_Less at h
    split at h
    · exact ⟨A_impl_Less _ _ _ _ _ _, U_impl_Less _ _ _ _ _ _, rfl, rfl, th_impl_Less n _ _ _ _ _ _ r h⟩
    · cases h) hd
/-! ### laws.FnOver -/
def A_laws_FnOver (x0 : List (List PV)) : List AV := [(.c (.p (.ls x0)))]
def U_laws_FnOver (x0 : List (List PV)) : List Go.Eng.Frame := []
def O_laws_FnOver (r : Bool) : Res := ⟨(.c (.p (.b r))), [], []⟩
abbrev CT_laws_FnOver (n : Nat) : CTab := mkCT [(22, E_laws_big n (noEnt)), (27, E_spec_DrawOver n (noEnt)), (17, E_impl_Over n (noEnt)), (16, E_spec_Over n (noEnt)), (28, E_spec_ValueOk n (noEnt)), (19, E_impl_Times n (noEnt)), (14, E_impl_Less n (noEnt))]
abbrev LT_laws_FnOver (n : Nat) : LTab := mkLT []
def T_laws_FnOver (n : Nat) (x0 : List (List PV)) : Tr (Bool) := (.opt (F_laws_big n x0) fun r1 => (.ask (r1) (.done true) (.opt (F_spec_DrawOver n x0) fun r40 => (.opt (F_impl_Over n r40.1 r40.2.1 r40.2.2.1 r40.2.2.2.1 r40.2.2.2.2.1 r40.2.2.2.2.2) fun r65 => (.opt (F_spec_Over n r40.1 r40.2.1 r40.2.2.1 r40.2.2.2.1 r40.2.2.2.2.1 r40.2.2.2.2.2) fun r85 => (.ask ((!((r65.1 == r85.1) && ((r65.2.1 == r85.2.1) && ((r65.2.2.toList == r85.2.2.toList) && true))))) (.done false) (.ask ((r40.1 == (1 : Int))) (.ask (((r40.2.2.2.1 == (0 : Int)) && ((r40.2.2.2.2.1 == (0 : Int)) && ((r40.2.2.2.2.2.toList == (⟨#[]⟩ : ByteArray).toList) && true)))) (.opt (F_spec_ValueOk n r40.1 r40.2.1 r40.2.2.1) fun r86 => (.ask (r86) (.done ((r65.1 == (4 : Int)) && ((r65.2.1 == (1 : Int)) && ((r65.2.2.toList == (⟨#[]⟩ : ByteArray).toList) && true)))) (.ask ((r65.1 != (1 : Int))) (.done true) (.ask ((r40.2.2.2.1 != (1 : Int))) (.done true) (.opt (F_impl_Times n r65.1 r65.2.1 r65.2.2 r40.2.2.2.1 r40.2.2.2.2.1 r40.2.2.2.2.2) fun r96 => (.opt (F_impl_Less n r40.1 r40.2.1 r40.2.2.1 r96.1 r96.2.1 r96.2.2) fun r104 => (.ask ((r104.1 == (1 : Int))) (.ask ((decide (r104.2.1 < (IntKind.i64.wrap (r40.2.2.2.2.1 + (IntKind.i64.wrap ((2 : Int) * (if (IntKind.i64.wrap (0 - r40.2.2.2.2.1)) > (0 : Int) then (IntKind.i64.wrap (0 - r40.2.2.2.2.1)) else (0 : Int))))))))) (.done (decide ((IntKind.i64.wrap (0 - r104.2.1)) < (IntKind.i64.wrap (r40.2.2.2.2.1 + (IntKind.i64.wrap ((2 : Int) * (if (IntKind.i64.wrap (0 - r40.2.2.2.2.1)) > (0 : Int) then (IntKind.i64.wrap (0 - r40.2.2.2.2.1)) else (0 : Int))))))))) (.done false)) (.done false)))))))) (.ask ((r65.1 != (1 : Int))) (.done true) (.ask ((r40.2.2.2.1 != (1 : Int))) (.done true) (.opt (F_impl_Times n r65.1 r65.2.1 r65.2.2 r40.2.2.2.1 r40.2.2.2.2.1 r40.2.2.2.2.2) fun r105 => (.opt (F_impl_Less n r40.1 r40.2.1 r40.2.2.1 r105.1 r105.2.1 r105.2.2) fun r106 => (.ask ((r106.1 == (1 : Int))) (.ask ((decide (r106.2.1 < (IntKind.i64.wrap (r40.2.2.2.2.1 + (IntKind.i64.wrap ((2 : Int) * (if (IntKind.i64.wrap (0 - r40.2.2.2.2.1)) > (0 : Int) then (IntKind.i64.wrap (0 - r40.2.2.2.2.1)) else (0 : Int))))))))) (.done (decide ((IntKind.i64.wrap (0 - r106.2.1)) < (IntKind.i64.wrap (r40.2.2.2.2.1 + (IntKind.i64.wrap ((2 : Int) * (if (IntKind.i64.wrap (0 - r40.2.2.2.2.1)) > (0 : Int) then (IntKind.i64.wrap (0 - r40.2.2.2.2.1)) else (0 : Int))))))))) (.done false)) (.done false))))))) (.ask ((r65.1 != (1 : Int))) (.done true) (.ask ((r40.2.2.2.1 != (1 : Int))) (.done true) (.opt (F_impl_Times n r65.1 r65.2.1 r65.2.2 r40.2.2.2.1 r40.2.2.2.2.1 r40.2.2.2.2.2) fun r107 => (.opt (F_impl_Less n r40.1 r40.2.1 r40.2.2.1 r107.1 r107.2.1 r107.2.2) fun r108 => (.ask ((r108.1 == (1 : Int))) (.ask ((decide (r108.2.1 < (IntKind.i64.wrap (r40.2.2.2.2.1 + (IntKind.i64.wrap ((2 : Int) * (if (IntKind.i64.wrap (0 - r40.2.2.2.2.1)) > (0 : Int) then (IntKind.i64.wrap (0 - r40.2.2.2.2.1)) else (0 : Int))))))))) (.done (decide ((IntKind.i64.wrap (0 - r108.2.1)) < (IntKind.i64.wrap (r40.2.2.2.2.1 + (IntKind.i64.wrap ((2 : Int) * (if (IntKind.i64.wrap (0 - r40.2.2.2.2.1)) > (0 : Int) then (IntKind.i64.wrap (0 - r40.2.2.2.2.1)) else (0 : Int))))))))) (.done false)) (.done false)))))))))))))
def F_laws_FnOver : Nat → List (List PV) → Option (Bool)
  | 0, _ => none
  | n + 1, x0 => (T_laws_FnOver n x0).run
theorem ft_laws_FnOver (n : Nat) (x0 : List (List PV)) : funT (CT_laws_FnOver n) (LT_laws_FnOver n) K_laws_FnOver (A_laws_FnOver x0) (U_laws_FnOver x0) = (T_laws_FnOver n x0).bind fun r => .done (O_laws_FnOver r) := by kernel_rfl
theorem ct_laws_FnOver (n : Nat) : CTok (CT_laws_FnOver n) (runs KP lib n) := mkCT_cons (eo_laws_big n (noEnt_ok)) (mkCT_cons (eo_spec_DrawOver n (noEnt_ok)) (mkCT_cons (eo_impl_Over n (noEnt_ok)) (mkCT_cons (eo_spec_Over n (noEnt_ok)) (mkCT_cons (eo_spec_ValueOk n (noEnt_ok)) (mkCT_cons (eo_impl_Times n (noEnt_ok)) (mkCT_cons (eo_impl_Less n (noEnt_ok)) (mkCT_nil)))))))
theorem th_laws_FnOver : ∀ (n : Nat) (x0 : List (List PV)) (r : Bool), F_laws_FnOver n x0 = some r → runs KP lib n 8 (A_laws_FnOver x0) (U_laws_FnOver x0) = some (O_laws_FnOver r)
  | 0, x0, r, h => by cases h
  | n + 1, x0, r, h => fun_step (kf := K_laws_FnOver) rfl (ct_laws_FnOver n) (noLoops rfl) (ft_laws_FnOver n x0) h
def FH_laws_FnOver (n : Nat) : Cont → Option (Bool)
  | ([[[.r x0]]], []) => F_laws_FnOver n x0
  | _ => none
def E_laws_FnOver (n : Nat) (d : List AV → List Go.Eng.Frame → Tr Res) : List AV → List Go.Eng.Frame → Tr Res := cent (A_laws_FnOver ([])) (U_laws_FnOver ([])) (FH_laws_FnOver n) O_laws_FnOver d
theorem eo_laws_FnOver (n : Nat) {d : List AV → List Go.Eng.Frame → Tr Res} (hd : ∀ ar up r, (d ar up).run = some r → runs KP lib n 8 ar up = some r) : ∀ ar up r, (E_laws_FnOver n d ar up).run = some r → runs KP lib n 8 ar up = some r :=
  cent_ok (fun hs r h => by
    unfold FH_laws_FnOver at h
    split at h
    · exact ⟨A_laws_FnOver _, U_laws_FnOver _, rfl, rfl, th_laws_FnOver n _ r h⟩
    · cases h) hd
end Go.Proofs.Ytaannlnlddbgdaa.KFnOver
