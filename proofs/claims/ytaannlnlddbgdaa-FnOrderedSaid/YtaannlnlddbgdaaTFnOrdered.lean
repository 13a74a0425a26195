/-
  The trees of what FnOrdered calls: plain functions, and that the engine reckons just these. No condition.
-/
import Derived.Test.YtaannlnlddbgdaaKFnOrdered
import Derived.Test.YtaannlnlddbgdaaE31
import Derived.KernelRfl
namespace Go.Proofs.Ytaannlnlddbgdaa.KFnOrdered
open Go.Eng
set_option linter.unusedVariables false
set_option maxRecDepth 100000
def lib : FuncId → List AV → Option AV := fun _ _ => none
/-! ### laws.big -/
def A_laws_big (x0 : List (List PV)) : List AV := [(.c (.p (.ls x0)))]
def U_laws_big (x0 : List (List PV)) : List Go.Eng.Frame := []
def O_laws_big (r : Bool) : Res := ⟨(.c (.p (.b r))), [], []⟩
abbrev CT_laws_big (n : Nat) : CTab := mkCT []
abbrev LT_laws_big (n : Nat) : LTab := mkLT []
def T_laws_big (n : Nat) (x0 : List (List PV)) : Tr (Bool) := (.done (decide ((x0.length : Int) > (1048576 : Int))))
def F_laws_big : Nat → List (List PV) → Option (Bool)
  | 0, _ => none
  | n + 1, x0 => (T_laws_big n x0).run
theorem ft_laws_big (n : Nat) (x0 : List (List PV)) : funT (CT_laws_big n) (LT_laws_big n) K_laws_big (A_laws_big x0) (U_laws_big x0) = (T_laws_big n x0).bind fun r => .done (O_laws_big r) := by kernel_rfl
theorem ct_laws_big (n : Nat) : CTok (CT_laws_big n) (runs KP lib n) := mkCT_nil
theorem th_laws_big : ∀ (n : Nat) (x0 : List (List PV)) (r : Bool), F_laws_big n x0 = some r → runs KP lib n 22 (A_laws_big x0) (U_laws_big x0) = some (O_laws_big r)
  | 0, x0, r, h => by cases h
  | n + 1, x0, r, h => fun_step (kf := K_laws_big) rfl (ct_laws_big n) (noLoops rfl) (ft_laws_big n x0) h
def FH_laws_big (n : Nat) : Cont → Option (Bool)
  | ([[[.r x0]]], []) => F_laws_big n x0
  | _ => none
def E_laws_big (n : Nat) (d : List AV → List Go.Eng.Frame → Tr Res) : List AV → List Go.Eng.Frame → Tr Res := cent (A_laws_big ([])) (U_laws_big ([])) (FH_laws_big n) O_laws_big d
theorem eo_laws_big (n : Nat) {d : List AV → List Go.Eng.Frame → Tr Res} (hd : ∀ ar up r, (d ar up).run = some r → runs KP lib n 22 ar up = some r) : ∀ ar up r, (E_laws_big n d ar up).run = some r → runs KP lib n 22 ar up = some r :=
  cent_ok (fun hs r h => by
    unfold FH_laws_big at h
    split at h
    · exact ⟨A_laws_big _, U_laws_big _, rfl, rfl, th_laws_big n _ r h⟩
    · cases h) hd
/-! ### spec.l1Open -/
def A_spec_l1Open (x0 : List (List PV)) : List AV := [(.c (.p (.ls x0)))]
def U_spec_l1Open (x0 : List (List PV)) : List Go.Eng.Frame := []
def O_spec_l1Open (r : (List (List PV)) × Int) : Res := ⟨(.c (.ptr 0 0 0 0 0)), [], [⟨0, 2, 66, (.box [(.p (.ls r.1)), (.p (.i .i64 r.2))])⟩]⟩
abbrev CT_spec_l1Open (n : Nat) : CTab := mkCT []
abbrev LT_spec_l1Open (n : Nat) : LTab := mkLT []
def T_spec_l1Open (n : Nat) (x0 : List (List PV)) : Tr ((List (List PV)) × Int) := (.done (x0, (0 : Int)))
def F_spec_l1Open : Nat → List (List PV) → Option ((List (List PV)) × Int)
  | 0, _ => none
  | n + 1, x0 => (T_spec_l1Open n x0).run
theorem ft_spec_l1Open (n : Nat) (x0 : List (List PV)) : funT (CT_spec_l1Open n) (LT_spec_l1Open n) K_spec_l1Open (A_spec_l1Open x0) (U_spec_l1Open x0) = (T_spec_l1Open n x0).bind fun r => .done (O_spec_l1Open r) := by kernel_rfl
theorem ct_spec_l1Open (n : Nat) : CTok (CT_spec_l1Open n) (runs KP lib n) := mkCT_nil
theorem th_spec_l1Open : ∀ (n : Nat) (x0 : List (List PV)) (r : (List (List PV)) × Int), F_spec_l1Open n x0 = some r → runs KP lib n 50 (A_spec_l1Open x0) (U_spec_l1Open x0) = some (O_spec_l1Open r)
  | 0, x0, r, h => by cases h
  | n + 1, x0, r, h => fun_step (kf := K_spec_l1Open) rfl (ct_spec_l1Open n) (noLoops rfl) (ft_spec_l1Open n x0) h
def FH_spec_l1Open (n : Nat) : Cont → Option ((List (List PV)) × Int)
  | ([[[.r x0]]], []) => F_spec_l1Open n x0
  | _ => none
def E_spec_l1Open (n : Nat) (d : List AV → List Go.Eng.Frame → Tr Res) : List AV → List Go.Eng.Frame → Tr Res := cent (A_spec_l1Open ([])) (U_spec_l1Open ([])) (FH_spec_l1Open n) O_spec_l1Open d
theorem eo_spec_l1Open (n : Nat) {d : List AV → List Go.Eng.Frame → Tr Res} (hd : ∀ ar up r, (d ar up).run = some r → runs KP lib n 50 ar up = some r) : ∀ ar up r, (E_spec_l1Open n d ar up).run = some r → runs KP lib n 50 ar up = some r :=
  cent_ok (fun hs r h => by
    unfold FH_spec_l1Open at h
    split at h
    · exact ⟨A_spec_l1Open _, U_spec_l1Open _, rfl, rfl, th_spec_l1Open n _ r h⟩
    · cases h) hd
/-! ### (*spec.l1Rd).next -/
def A_spec_l1Rd_next (x0 : List (List PV)) (x1 : Int) : List AV := [(.c (.ptr 0 0 0 0 0))]
def U_spec_l1Rd_next (x0 : List (List PV)) (x1 : Int) : List Go.Eng.Frame := [[(0, ⟨0, 2, 66, (.box [(.p (.ls x0)), (.p (.i .i64 x1))])⟩)]]
def O_spec_l1Rd_next (r : Int × (List (List PV)) × Int) : Res := ⟨(.c (.p (.i .i64 r.1))), [[(0, ⟨0, 2, 66, (.box [(.p (.ls r.2.1)), (.p (.i .i64 r.2.2))])⟩)]], []⟩
abbrev CT_spec_l1Rd_next (n : Nat) : CTab := mkCT []
abbrev LT_spec_l1Rd_next (n : Nat) : LTab := mkLT []
def T_spec_l1Rd_next (n : Nat) (x0 : List (List PV)) (x1 : Int) : Tr (Int × (List (List PV)) × Int) := (.ask ((decide (x1 ≥ (x0.length : Int)))) (.done ((0 : Int), x0, x1)) (.ask (decide (0 ≤ (IntKind.i64.wrap ((IntKind.i64.wrap (x1 + (1 : Int))) - (1 : Int))) ∧ (IntKind.i64.wrap ((IntKind.i64.wrap (x1 + (1 : Int))) - (1 : Int))) < x0.length)) (.opt (x0[((IntKind.i64.wrap ((IntKind.i64.wrap (x1 + (1 : Int))) - (1 : Int)))).toNat]?) fun e3 => (.ask (decide (e3.length = 1)) (.opt (cellI .u8 e3 0) fun y4 => (.done ((IntKind.i64.wrap y4), x0, (IntKind.i64.wrap (x1 + (1 : Int)))))) .fail)) .fail))
def F_spec_l1Rd_next : Nat → List (List PV) → Int → Option (Int × (List (List PV)) × Int)
  | 0, _, _ => none
  | n + 1, x0, x1 => (T_spec_l1Rd_next n x0 x1).run
theorem ft_spec_l1Rd_next (n : Nat) (x0 : List (List PV)) (x1 : Int) : funT (CT_spec_l1Rd_next n) (LT_spec_l1Rd_next n) K_spec_l1Rd_next (A_spec_l1Rd_next x0 x1) (U_spec_l1Rd_next x0 x1) = (T_spec_l1Rd_next n x0 x1).bind fun r => .done (O_spec_l1Rd_next r) := by kernel_rfl
theorem ct_spec_l1Rd_next (n : Nat) : CTok (CT_spec_l1Rd_next n) (runs KP lib n) := mkCT_nil
theorem th_spec_l1Rd_next : ∀ (n : Nat) (x0 : List (List PV)) (x1 : Int) (r : Int × (List (List PV)) × Int), F_spec_l1Rd_next n x0 x1 = some r → runs KP lib n 70 (A_spec_l1Rd_next x0 x1) (U_spec_l1Rd_next x0 x1) = some (O_spec_l1Rd_next r)
  | 0, x0, x1, r, h => by cases h
  | n + 1, x0, x1, r, h => fun_step (kf := K_spec_l1Rd_next) rfl (ct_spec_l1Rd_next n) (noLoops rfl) (ft_spec_l1Rd_next n x0 x1) h
def FH_spec_l1Rd_next (n : Nat) : Cont → Option (Int × (List (List PV)) × Int)
  | ([[[]]], [[[[.r x0], [.i x1]]]]) => F_spec_l1Rd_next n x0 x1
  | _ => none
def E_spec_l1Rd_next (n : Nat) (d : List AV → List Go.Eng.Frame → Tr Res) : List AV → List Go.Eng.Frame → Tr Res := cent (A_spec_l1Rd_next ([]) (0)) (U_spec_l1Rd_next ([]) (0)) (FH_spec_l1Rd_next n) O_spec_l1Rd_next d
theorem eo_spec_l1Rd_next (n : Nat) {d : List AV → List Go.Eng.Frame → Tr Res} (hd : ∀ ar up r, (d ar up).run = some r → runs KP lib n 70 ar up = some r) : ∀ ar up r, (E_spec_l1Rd_next n d ar up).run = some r → runs KP lib n 70 ar up = some r :=
  cent_ok (fun hs r h => by
    unfold FH_spec_l1Rd_next at h
    split at h
    · exact ⟨A_spec_l1Rd_next _ _, U_spec_l1Rd_next _ _, rfl, rfl, th_spec_l1Rd_next n _ _ r h⟩
    · cases h) hd
/-! ### (*spec.l1Rd).below -/
def A_spec_l1Rd_below (x0 : Int) (x1 : List (List PV)) (x2 : Int) : List AV := [(.c (.ptr 0 0 0 0 0)), (.c (.p (.i .i64 x0)))]
def U_spec_l1Rd_below (x0 : Int) (x1 : List (List PV)) (x2 : Int) : List Go.Eng.Frame := [[(0, ⟨0, 2, 66, (.box [(.p (.ls x1)), (.p (.i .i64 x2))])⟩)]]
def O_spec_l1Rd_below (r : Int × (List (List PV)) × Int) : Res := ⟨(.c (.p (.i .i64 r.1))), [[(0, ⟨0, 2, 66, (.box [(.p (.ls r.2.1)), (.p (.i .i64 r.2.2))])⟩)]], []⟩
abbrev CT_spec_l1Rd_below (n : Nat) : CTab := mkCT [(70, E_spec_l1Rd_next n (noEnt))]
abbrev LT_spec_l1Rd_below (n : Nat) : LTab := mkLT []
def T_spec_l1Rd_below (n : Nat) (x0 : Int) (x1 : List (List PV)) (x2 : Int) : Tr (Int × (List (List PV)) × Int) := (.ask ((decide (x0 ≤ (1 : Int)))) (.done ((0 : Int), x1, x2)) (.ask ((decide (x0 ≤ (256 : Int)))) (.opt (F_spec_l1Rd_next n x1 x2) fun r5 => (.ask (decide (x0 = 0)) .fail (.done ((Int.tmod r5.1 x0), r5.2.1, r5.2.2)))) (.opt (F_spec_l1Rd_next n x1 x2) fun r6 => (.opt (F_spec_l1Rd_next n r6.2.1 r6.2.2) fun r7 => (.ask (decide (x0 = 0)) .fail (.done ((Int.tmod (IntKind.i64.wrap ((IntKind.i64.wrap (r6.1 * (256 : Int))) + r7.1)) x0), r7.2.1, r7.2.2)))))))
def F_spec_l1Rd_below : Nat → Int → List (List PV) → Int → Option (Int × (List (List PV)) × Int)
  | 0, _, _, _ => none
  | n + 1, x0, x1, x2 => (T_spec_l1Rd_below n x0 x1 x2).run
theorem ft_spec_l1Rd_below (n : Nat) (x0 : Int) (x1 : List (List PV)) (x2 : Int) : funT (CT_spec_l1Rd_below n) (LT_spec_l1Rd_below n) K_spec_l1Rd_below (A_spec_l1Rd_below x0 x1 x2) (U_spec_l1Rd_below x0 x1 x2) = (T_spec_l1Rd_below n x0 x1 x2).bind fun r => .done (O_spec_l1Rd_below r) := by kernel_rfl
theorem ct_spec_l1Rd_below (n : Nat) : CTok (CT_spec_l1Rd_below n) (runs KP lib n) := mkCT_cons (eo_spec_l1Rd_next n (noEnt_ok)) (mkCT_nil)
theorem th_spec_l1Rd_below : ∀ (n : Nat) (x0 : Int) (x1 : List (List PV)) (x2 : Int) (r : Int × (List (List PV)) × Int), F_spec_l1Rd_below n x0 x1 x2 = some r → runs KP lib n 65 (A_spec_l1Rd_below x0 x1 x2) (U_spec_l1Rd_below x0 x1 x2) = some (O_spec_l1Rd_below r)
  | 0, x0, x1, x2, r, h => by cases h
  | n + 1, x0, x1, x2, r, h => fun_step (kf := K_spec_l1Rd_below) rfl (ct_spec_l1Rd_below n) (noLoops rfl) (ft_spec_l1Rd_below n x0 x1 x2) h
def FH_spec_l1Rd_below (n : Nat) : Cont → Option (Int × (List (List PV)) × Int)
  | ([[[]], [[.i x0]]], [[[[.r x1], [.i x2]]]]) => F_spec_l1Rd_below n x0 x1 x2
  | _ => none
def E_spec_l1Rd_below (n : Nat) (d : List AV → List Go.Eng.Frame → Tr Res) : List AV → List Go.Eng.Frame → Tr Res := cent (A_spec_l1Rd_below (0) ([]) (0)) (U_spec_l1Rd_below (0) ([]) (0)) (FH_spec_l1Rd_below n) O_spec_l1Rd_below d
theorem eo_spec_l1Rd_below (n : Nat) {d : List AV → List Go.Eng.Frame → Tr Res} (hd : ∀ ar up r, (d ar up).run = some r → runs KP lib n 65 ar up = some r) : ∀ ar up r, (E_spec_l1Rd_below n d ar up).run = some r → runs KP lib n 65 ar up = some r :=
  cent_ok (fun hs r h => by
    unfold FH_spec_l1Rd_below at h
    split at h
    · exact ⟨A_spec_l1Rd_below _ _ _, U_spec_l1Rd_below _ _ _, rfl, rfl, th_spec_l1Rd_below n _ _ _ r h⟩
    · cases h) hd
/-! ### (*spec.l1Rd).once -/
def A_spec_l1Rd_once (x0 : Int) (x1 : List (List PV)) (x2 : Int) : List AV := [(.c (.ptr 0 0 0 0 0)), (.c (.p (.i .i64 x0)))]
def U_spec_l1Rd_once (x0 : Int) (x1 : List (List PV)) (x2 : Int) : List Go.Eng.Frame := [[(0, ⟨0, 2, 66, (.box [(.p (.ls x1)), (.p (.i .i64 x2))])⟩)]]
def O_spec_l1Rd_once (r : Bool × (List (List PV)) × Int) : Res := ⟨(.c (.p (.b r.1))), [[(0, ⟨0, 2, 66, (.box [(.p (.ls r.2.1)), (.p (.i .i64 r.2.2))])⟩)]], []⟩
abbrev CT_spec_l1Rd_once (n : Nat) : CTab := mkCT [(65, E_spec_l1Rd_below n (noEnt))]
abbrev LT_spec_l1Rd_once (n : Nat) : LTab := mkLT []
def T_spec_l1Rd_once (n : Nat) (x0 : Int) (x1 : List (List PV)) (x2 : Int) : Tr (Bool × (List (List PV)) × Int) := (.opt (F_spec_l1Rd_below n x0 x1 x2) fun r9 => (.done ((r9.1 == (IntKind.i64.wrap (x0 - (1 : Int)))), r9.2.1, r9.2.2)))
def F_spec_l1Rd_once : Nat → Int → List (List PV) → Int → Option (Bool × (List (List PV)) × Int)
  | 0, _, _, _ => none
  | n + 1, x0, x1, x2 => (T_spec_l1Rd_once n x0 x1 x2).run
theorem ft_spec_l1Rd_once (n : Nat) (x0 : Int) (x1 : List (List PV)) (x2 : Int) : funT (CT_spec_l1Rd_once n) (LT_spec_l1Rd_once n) K_spec_l1Rd_once (A_spec_l1Rd_once x0 x1 x2) (U_spec_l1Rd_once x0 x1 x2) = (T_spec_l1Rd_once n x0 x1 x2).bind fun r => .done (O_spec_l1Rd_once r) := by kernel_rfl
theorem ct_spec_l1Rd_once (n : Nat) : CTok (CT_spec_l1Rd_once n) (runs KP lib n) := mkCT_cons (eo_spec_l1Rd_below n (noEnt_ok)) (mkCT_nil)
theorem th_spec_l1Rd_once : ∀ (n : Nat) (x0 : Int) (x1 : List (List PV)) (x2 : Int) (r : Bool × (List (List PV)) × Int), F_spec_l1Rd_once n x0 x1 x2 = some r → runs KP lib n 52 (A_spec_l1Rd_once x0 x1 x2) (U_spec_l1Rd_once x0 x1 x2) = some (O_spec_l1Rd_once r)
  | 0, x0, x1, x2, r, h => by cases h
  | n + 1, x0, x1, x2, r, h => fun_step (kf := K_spec_l1Rd_once) rfl (ct_spec_l1Rd_once n) (noLoops rfl) (ft_spec_l1Rd_once n x0 x1 x2) h
def FH_spec_l1Rd_once (n : Nat) : Cont → Option (Bool × (List (List PV)) × Int)
  | ([[[]], [[.i x0]]], [[[[.r x1], [.i x2]]]]) => F_spec_l1Rd_once n x0 x1 x2
  | _ => none
def E_spec_l1Rd_once (n : Nat) (d : List AV → List Go.Eng.Frame → Tr Res) : List AV → List Go.Eng.Frame → Tr Res := cent (A_spec_l1Rd_once (0) ([]) (0)) (U_spec_l1Rd_once (0) ([]) (0)) (FH_spec_l1Rd_once n) O_spec_l1Rd_once d
theorem eo_spec_l1Rd_once (n : Nat) {d : List AV → List Go.Eng.Frame → Tr Res} (hd : ∀ ar up r, (d ar up).run = some r → runs KP lib n 52 ar up = some r) : ∀ ar up r, (E_spec_l1Rd_once n d ar up).run = some r → runs KP lib n 52 ar up = some r :=
  cent_ok (fun hs r h => by
    unfold FH_spec_l1Rd_once at h
    split at h
    · exact ⟨A_spec_l1Rd_once _ _ _, U_spec_l1Rd_once _ _ _, rfl, rfl, th_spec_l1Rd_once n _ _ _ r h⟩
    · cases h) hd
/-! ### (*spec.l1Rd).num -/
def A_spec_l1Rd_num (x0 : List (List PV)) (x1 : Int) : List AV := [(.c (.ptr 0 0 0 0 0))]
def U_spec_l1Rd_num (x0 : List (List PV)) (x1 : Int) : List Go.Eng.Frame := [[(0, ⟨0, 2, 66, (.box [(.p (.ls x0)), (.p (.i .i64 x1))])⟩)]]
def O_spec_l1Rd_num (r : Int × (List (List PV)) × Int) : Res := ⟨(.c (.p (.i .i64 r.1))), [[(0, ⟨0, 2, 66, (.box [(.p (.ls r.2.1)), (.p (.i .i64 r.2.2))])⟩)]], []⟩
abbrev CT_spec_l1Rd_num (n : Nat) : CTab := mkCT [(52, E_spec_l1Rd_once n (noEnt)), (65, E_spec_l1Rd_below n (noEnt))]
abbrev LT_spec_l1Rd_num (n : Nat) : LTab := mkLT []
def T_spec_l1Rd_num (n : Nat) (x0 : List (List PV)) (x1 : Int) : Tr (Int × (List (List PV)) × Int) := (.opt (F_spec_l1Rd_once n (5 : Int) x0 x1) fun r10 => (.ask (r10.1) (.opt (F_spec_l1Rd_below n (5 : Int) r10.2.1 r10.2.2) fun r11 => (.ask (decide (5 = ([[(.i .i64 (1000000000000000 : Int))], [(.i .i64 (-1000000000000000 : Int))], [(.i .i64 (999999999999999 : Int))], [(.i .i64 (31622776 : Int))], [(.i .i64 (-31622777 : Int))]] : List (List PV)).length ∧ 0 ≤ r11.1 ∧ r11.1 < ((5 : Nat) : Int))) (.opt (([[(.i .i64 (1000000000000000 : Int))], [(.i .i64 (-1000000000000000 : Int))], [(.i .i64 (999999999999999 : Int))], [(.i .i64 (31622776 : Int))], [(.i .i64 (-31622777 : Int))]] : List (List PV))[(r11.1).toNat]?) fun e12 => (.opt (cellI .i64 e12 0) fun y13 => (.done (y13, r11.2.1, r11.2.2)))) .fail)) (.opt (F_spec_l1Rd_below n (40 : Int) r10.2.1 r10.2.2) fun r14 => (.done ((IntKind.i64.wrap (r14.1 - (20 : Int))), r14.2.1, r14.2.2)))))
def F_spec_l1Rd_num : Nat → List (List PV) → Int → Option (Int × (List (List PV)) × Int)
  | 0, _, _ => none
  | n + 1, x0, x1 => (T_spec_l1Rd_num n x0 x1).run
theorem ft_spec_l1Rd_num (n : Nat) (x0 : List (List PV)) (x1 : Int) : funT (CT_spec_l1Rd_num n) (LT_spec_l1Rd_num n) K_spec_l1Rd_num (A_spec_l1Rd_num x0 x1) (U_spec_l1Rd_num x0 x1) = (T_spec_l1Rd_num n x0 x1).bind fun r => .done (O_spec_l1Rd_num r) := by kernel_rfl
theorem ct_spec_l1Rd_num (n : Nat) : CTok (CT_spec_l1Rd_num n) (runs KP lib n) := mkCT_cons (eo_spec_l1Rd_once n (noEnt_ok)) (mkCT_cons (eo_spec_l1Rd_below n (noEnt_ok)) (mkCT_nil))
theorem th_spec_l1Rd_num : ∀ (n : Nat) (x0 : List (List PV)) (x1 : Int) (r : Int × (List (List PV)) × Int), F_spec_l1Rd_num n x0 x1 = some r → runs KP lib n 66 (A_spec_l1Rd_num x0 x1) (U_spec_l1Rd_num x0 x1) = some (O_spec_l1Rd_num r)
  | 0, x0, x1, r, h => by cases h
  | n + 1, x0, x1, r, h => fun_step (kf := K_spec_l1Rd_num) rfl (ct_spec_l1Rd_num n) (noLoops rfl) (ft_spec_l1Rd_num n x0 x1) h
def FH_spec_l1Rd_num (n : Nat) : Cont → Option (Int × (List (List PV)) × Int)
  | ([[[]]], [[[[.r x0], [.i x1]]]]) => F_spec_l1Rd_num n x0 x1
  | _ => none
def E_spec_l1Rd_num (n : Nat) (d : List AV → List Go.Eng.Frame → Tr Res) : List AV → List Go.Eng.Frame → Tr Res := cent (A_spec_l1Rd_num ([]) (0)) (U_spec_l1Rd_num ([]) (0)) (FH_spec_l1Rd_num n) O_spec_l1Rd_num d
theorem eo_spec_l1Rd_num (n : Nat) {d : List AV → List Go.Eng.Frame → Tr Res} (hd : ∀ ar up r, (d ar up).run = some r → runs KP lib n 66 ar up = some r) : ∀ ar up r, (E_spec_l1Rd_num n d ar up).run = some r → runs KP lib n 66 ar up = some r :=
  cent_ok (fun hs r h => by
    unfold FH_spec_l1Rd_num at h
    split at h
    · exact ⟨A_spec_l1Rd_num _ _, U_spec_l1Rd_num _ _, rfl, rfl, th_spec_l1Rd_num n _ _ r h⟩
    · cases h) hd
/-! ### (*spec.l1Rd).word -/
def A_spec_l1Rd_word (x0 : List (List PV)) (x1 : Int) : List AV := [(.c (.ptr 0 0 0 0 0))]
def U_spec_l1Rd_word (x0 : List (List PV)) (x1 : Int) : List Go.Eng.Frame := [[(0, ⟨0, 2, 66, (.box [(.p (.ls x0)), (.p (.i .i64 x1))])⟩)]]
def O_spec_l1Rd_word (r : Int × (List (List PV)) × Int) : Res := ⟨(.c (.p (.i .u64 r.1))), [[(0, ⟨0, 2, 66, (.box [(.p (.ls r.2.1)), (.p (.i .i64 r.2.2))])⟩)]], []⟩
abbrev CT_spec_l1Rd_word (n : Nat) : CTab := mkCT [(70, E_spec_l1Rd_next n (noEnt))]
def S_spec_l1Rd_word_29 (v : Int × Int × (List (List PV)) × Int) : St := ⟨[(0, (.c (.ptr 0 0 0 0 0))), (3, (.c (.p (.i .u64 v.1)))), (4, (.c (.p (.i .i64 v.2.1))))], [], [[(0, ⟨0, 2, 66, (.box [(.p (.ls v.2.2.1)), (.p (.i .i64 v.2.2.2))])⟩)]]⟩
def B_spec_l1Rd_word_29 (n : Nat) (v : Int × Int × (List (List PV)) × Int) : Tr ((Int × Int × (List (List PV)) × Int) ⊕ ((Int × (List (List PV)) × Int))) := (.ask ((decide (v.2.1 < (8 : Int)))) (.opt (F_spec_l1Rd_next n v.2.2.1 v.2.2.2) fun r29 => (.done (.inl ((IntKind.u64.wrap ((BitVec.ofInt IntKind.u64.bits (IntKind.u64.wrap (v.1 * (2 : Int) ^ (8 : Nat))) ||| BitVec.ofInt IntKind.u64.bits (IntKind.u64.wrap r29.1)).toNat : Int)), (IntKind.i64.wrap (v.2.1 + (1 : Int))), r29.2.1, r29.2.2)))) (.done (.inr ((v.1, v.2.2.1, v.2.2.2)))))
def D_spec_l1Rd_word_29 : (Int × (List (List PV)) × Int) → Ex × St := fun r => ((.exit 0), ⟨[(3, (.c (.p (.i .u64 r.1))))], [], [[(0, ⟨0, 2, 66, (.box [(.p (.ls r.2.1)), (.p (.i .i64 r.2.2))])⟩)]]⟩)
def DT_spec_l1Rd_word_29 : (Int × (List (List PV)) × Int) → Tr (Ex × St) := fun r => .done ((.exit 0), ⟨[(3, (.c (.p (.i .u64 r.1))))], [], [[(0, ⟨0, 2, 66, (.box [(.p (.ls r.2.1)), (.p (.i .i64 r.2.2))])⟩)]]⟩)
def VH_spec_l1Rd_word_29 : Cont3 → Option (Int × Int × (List (List PV)) × Int)
  | ([[[]], [[.i w0]], [[.i w1]]], [], [[[[.r w2], [.i w3]]]]) => some (w0, w1, w2, w3)
  | _ => none
abbrev LE_spec_l1Rd_word_29 (n : Nat) : St → Tr (Ex × St) := lent (S_spec_l1Rd_word_29 (0, 0, [], 0)) VH_spec_l1Rd_word_29 (B_spec_l1Rd_word_29 n) DT_spec_l1Rd_word_29 n
abbrev LT_spec_l1Rd_word (n : Nat) : LTab := mkLT [(29, LE_spec_l1Rd_word_29 n)]
def T_spec_l1Rd_word (n : Nat) (x0 : List (List PV)) (x1 : Int) : Tr (Int × (List (List PV)) × Int) := (.opt (loopF (B_spec_l1Rd_word_29 n) n ((0 : Int), (0 : Int), x0, x1)) fun r30 => (.done (r30.1, r30.2.1, r30.2.2)))
def F_spec_l1Rd_word : Nat → List (List PV) → Int → Option (Int × (List (List PV)) × Int)
  | 0, _, _ => none
  | n + 1, x0, x1 => (T_spec_l1Rd_word n x0 x1).run
theorem ft_spec_l1Rd_word (n : Nat) (x0 : List (List PV)) (x1 : Int) : funT (CT_spec_l1Rd_word n) (LT_spec_l1Rd_word n) K_spec_l1Rd_word (A_spec_l1Rd_word x0 x1) (U_spec_l1Rd_word x0 x1) = (T_spec_l1Rd_word n x0 x1).bind fun r => .done (O_spec_l1Rd_word r) := by kernel_rfl
theorem ct_spec_l1Rd_word (n : Nat) : CTok (CT_spec_l1Rd_word n) (runs KP lib n) := mkCT_cons (eo_spec_l1Rd_next n (noEnt_ok)) (mkCT_nil)
theorem lt_spec_l1Rd_word_29 (n : Nat) (v : Int × Int × (List (List PV)) × Int) : (evalCT (CT_spec_l1Rd_word n) (mkLT []) K_spec_l1Rd_word_L29 (S_spec_l1Rd_word_29 v) []).bind (ltail [0, 3, 4] [(.ret, [2]), ((.exit 0), [3])]) = (B_spec_l1Rd_word_29 n v).bind (lenc S_spec_l1Rd_word_29 D_spec_l1Rd_word_29) := by
  obtain ⟨w0, w1, w2, w3⟩ := v
  kernel_rfl
theorem le_spec_l1Rd_word_29 (n : Nat) : LEok (runs KP lib n) n (29, [0, 3, 4], [(.ret, [2]), ((.exit 0), [3])], K_spec_l1Rd_word_L29) (LE_spec_l1Rd_word_29 n) := fun st e s h =>
  lent_ok (ct_spec_l1Rd_word n) (noLoops rfl) (lt_spec_l1Rd_word_29 n) (fun r h => by cases h) (fun r y h => by cases h; rfl) (fun hs v h => by
    unfold VH_spec_l1Rd_word_29 at h
    split at h <;> cases h
    rfl) h
theorem lo_spec_l1Rd_word (n : Nat) : LTok (LT_spec_l1Rd_word n) (runs KP lib n) n K_spec_l1Rd_word.body := mkLT_ok (by
  intro x hx
  have hx : x ∈ ([(29, [0, 3, 4], [(.ret, [2]), ((.exit 0), [3])], K_spec_l1Rd_word_L29)] : List (Nat × List Nat × List (Ex × List Nat) × KCode)) := hx
  simp only [List.mem_cons, List.not_mem_nil, or_false] at hx
  rcases hx with rfl
  · exact ⟨LE_spec_l1Rd_word_29 n, fun st => rfl, le_spec_l1Rd_word_29 n⟩)
theorem th_spec_l1Rd_word : ∀ (n : Nat) (x0 : List (List PV)) (x1 : Int) (r : Int × (List (List PV)) × Int), F_spec_l1Rd_word n x0 x1 = some r → runs KP lib n 71 (A_spec_l1Rd_word x0 x1) (U_spec_l1Rd_word x0 x1) = some (O_spec_l1Rd_word r)
  | 0, x0, x1, r, h => by cases h
  | n + 1, x0, x1, r, h => fun_step (kf := K_spec_l1Rd_word) rfl (ct_spec_l1Rd_word n) (lo_spec_l1Rd_word n) (ft_spec_l1Rd_word n x0 x1) h
def FH_spec_l1Rd_word (n : Nat) : Cont → Option (Int × (List (List PV)) × Int)
  | ([[[]]], [[[[.r x0], [.i x1]]]]) => F_spec_l1Rd_word n x0 x1
  | _ => none
def E_spec_l1Rd_word (n : Nat) (d : List AV → List Go.Eng.Frame → Tr Res) : List AV → List Go.Eng.Frame → Tr Res := cent (A_spec_l1Rd_word ([]) (0)) (U_spec_l1Rd_word ([]) (0)) (FH_spec_l1Rd_word n) O_spec_l1Rd_word d
theorem eo_spec_l1Rd_word (n : Nat) {d : List AV → List Go.Eng.Frame → Tr Res} (hd : ∀ ar up r, (d ar up).run = some r → runs KP lib n 71 ar up = some r) : ∀ ar up r, (E_spec_l1Rd_word n d ar up).run = some r → runs KP lib n 71 ar up = some r :=
  cent_ok (fun hs r h => by
    unfold FH_spec_l1Rd_word at h
    split at h
    · exact ⟨A_spec_l1Rd_word _ _, U_spec_l1Rd_word _ _, rfl, rfl, th_spec_l1Rd_word n _ _ r h⟩
    · cases h) hd
/-! ### (*spec.l1Rd).near -/
def A_spec_l1Rd_near (x0 : Int) (x1 : Int) (x2 : List (List PV)) (x3 : Int) : List AV := [(.c (.ptr 0 0 0 0 0)), (.c (.p (.i .i64 x0))), (.c (.p (.i .i64 x1)))]
def U_spec_l1Rd_near (x0 : Int) (x1 : Int) (x2 : List (List PV)) (x3 : Int) : List Go.Eng.Frame := [[(0, ⟨0, 2, 66, (.box [(.p (.ls x2)), (.p (.i .i64 x3))])⟩)]]
def O_spec_l1Rd_near (r : Int × (List (List PV)) × Int) : Res := ⟨(.c (.p (.i .i64 r.1))), [[(0, ⟨0, 2, 66, (.box [(.p (.ls r.2.1)), (.p (.i .i64 r.2.2))])⟩)]], []⟩
abbrev CT_spec_l1Rd_near (n : Nat) : CTab := mkCT [(65, E_spec_l1Rd_below n (noEnt)), (71, E_spec_l1Rd_word n (noEnt))]
abbrev LT_spec_l1Rd_near (n : Nat) : LTab := mkLT []
def T_spec_l1Rd_near (n : Nat) (x0 : Int) (x1 : Int) (x2 : List (List PV)) (x3 : Int) : Tr (Int × (List (List PV)) × Int) := (.opt (F_spec_l1Rd_below n (8 : Int) x2 x3) fun r28 => (.ask ((r28.1 == (0 : Int))) (.done (x0, r28.2.1, r28.2.2)) (.ask ((r28.1 == (1 : Int))) (.done (x1, r28.2.1, r28.2.2)) (.ask ((decide (x1 < x0))) (.done (x0, r28.2.1, r28.2.2)) (.opt (F_spec_l1Rd_word n r28.2.1 r28.2.2) fun r31 => (.ask (decide ((IntKind.u64.wrap (IntKind.i64.wrap ((IntKind.i64.wrap (x1 - x0)) + (1 : Int)))) = 0)) .fail (.done ((IntKind.i64.wrap (x0 + (IntKind.i64.wrap (Int.tmod (Int.fdiv r31.1 ((2 : Int) ^ (1 : Nat))) (IntKind.u64.wrap (IntKind.i64.wrap ((IntKind.i64.wrap (x1 - x0)) + (1 : Int)))))))), r31.2.1, r31.2.2))))))))
def F_spec_l1Rd_near : Nat → Int → Int → List (List PV) → Int → Option (Int × (List (List PV)) × Int)
  | 0, _, _, _, _ => none
  | n + 1, x0, x1, x2, x3 => (T_spec_l1Rd_near n x0 x1 x2 x3).run
theorem ft_spec_l1Rd_near (n : Nat) (x0 : Int) (x1 : Int) (x2 : List (List PV)) (x3 : Int) : funT (CT_spec_l1Rd_near n) (LT_spec_l1Rd_near n) K_spec_l1Rd_near (A_spec_l1Rd_near x0 x1 x2 x3) (U_spec_l1Rd_near x0 x1 x2 x3) = (T_spec_l1Rd_near n x0 x1 x2 x3).bind fun r => .done (O_spec_l1Rd_near r) := by kernel_rfl
theorem ct_spec_l1Rd_near (n : Nat) : CTok (CT_spec_l1Rd_near n) (runs KP lib n) := mkCT_cons (eo_spec_l1Rd_below n (noEnt_ok)) (mkCT_cons (eo_spec_l1Rd_word n (noEnt_ok)) (mkCT_nil))
theorem th_spec_l1Rd_near : ∀ (n : Nat) (x0 : Int) (x1 : Int) (x2 : List (List PV)) (x3 : Int) (r : Int × (List (List PV)) × Int), F_spec_l1Rd_near n x0 x1 x2 x3 = some r → runs KP lib n 69 (A_spec_l1Rd_near x0 x1 x2 x3) (U_spec_l1Rd_near x0 x1 x2 x3) = some (O_spec_l1Rd_near r)
  | 0, x0, x1, x2, x3, r, h => by cases h
  | n + 1, x0, x1, x2, x3, r, h => fun_step (kf := K_spec_l1Rd_near) rfl (ct_spec_l1Rd_near n) (noLoops rfl) (ft_spec_l1Rd_near n x0 x1 x2 x3) h
def FH_spec_l1Rd_near (n : Nat) : Cont → Option (Int × (List (List PV)) × Int)
  | ([[[]], [[.i x0]], [[.i x1]]], [[[[.r x2], [.i x3]]]]) => F_spec_l1Rd_near n x0 x1 x2 x3
  | _ => none
def E_spec_l1Rd_near (n : Nat) (d : List AV → List Go.Eng.Frame → Tr Res) : List AV → List Go.Eng.Frame → Tr Res := cent (A_spec_l1Rd_near (0) (0) ([]) (0)) (U_spec_l1Rd_near (0) (0) ([]) (0)) (FH_spec_l1Rd_near n) O_spec_l1Rd_near d
theorem eo_spec_l1Rd_near (n : Nat) {d : List AV → List Go.Eng.Frame → Tr Res} (hd : ∀ ar up r, (d ar up).run = some r → runs KP lib n 69 ar up = some r) : ∀ ar up r, (E_spec_l1Rd_near n d ar up).run = some r → runs KP lib n 69 ar up = some r :=
  cent_ok (fun hs r h => by
    unfold FH_spec_l1Rd_near at h
    split at h
    · exact ⟨A_spec_l1Rd_near _ _ _ _, U_spec_l1Rd_near _ _ _ _, rfl, rfl, th_spec_l1Rd_near n _ _ _ _ r h⟩
    · cases h) hd
/-! ### (*spec.l1Rd).off -/
def A_spec_l1Rd_off (x0 : Int) (x1 : Int) (x2 : List (List PV)) (x3 : Int) : List AV := [(.c (.ptr 0 0 0 0 0)), (.c (.p (.i .i64 x0))), (.c (.p (.i .i64 x1)))]
def U_spec_l1Rd_off (x0 : Int) (x1 : Int) (x2 : List (List PV)) (x3 : Int) : List Go.Eng.Frame := [[(0, ⟨0, 2, 66, (.box [(.p (.ls x2)), (.p (.i .i64 x3))])⟩)]]
def O_spec_l1Rd_off (r : Int × (List (List PV)) × Int) : Res := ⟨(.c (.p (.i .i64 r.1))), [[(0, ⟨0, 2, 66, (.box [(.p (.ls r.2.1)), (.p (.i .i64 r.2.2))])⟩)]], []⟩
abbrev CT_spec_l1Rd_off (n : Nat) : CTab := mkCT [(52, E_spec_l1Rd_once n (noEnt)), (65, E_spec_l1Rd_below n (noEnt)), (69, E_spec_l1Rd_near n (noEnt))]
abbrev LT_spec_l1Rd_off (n : Nat) : LTab := mkLT []
def T_spec_l1Rd_off (n : Nat) (x0 : Int) (x1 : Int) (x2 : List (List PV)) (x3 : Int) : Tr (Int × (List (List PV)) × Int) := (.opt (F_spec_l1Rd_once n (24 : Int) x2 x3) fun r24 => (.ask (r24.1) (.opt (F_spec_l1Rd_below n (4 : Int) r24.2.1 r24.2.2) fun r25 => (.ask (decide (4 = ([[(.i .i64 (IntKind.i64.wrap (x0 - (1 : Int))))], [(.i .i64 (IntKind.i64.wrap (x1 + (1 : Int))))], [(.i .i64 (-9223372036854775808 : Int))], [(.i .i64 (9223372036854775807 : Int))]] : List (List PV)).length ∧ 0 ≤ r25.1 ∧ r25.1 < ((4 : Nat) : Int))) (.opt (([[(.i .i64 (IntKind.i64.wrap (x0 - (1 : Int))))], [(.i .i64 (IntKind.i64.wrap (x1 + (1 : Int))))], [(.i .i64 (-9223372036854775808 : Int))], [(.i .i64 (9223372036854775807 : Int))]] : List (List PV))[(r25.1).toNat]?) fun e26 => (.opt (cellI .i64 e26 0) fun y27 => (.done (y27, r25.2.1, r25.2.2)))) .fail)) (.opt (F_spec_l1Rd_near n x0 x1 r24.2.1 r24.2.2) fun r32 => (.done (r32.1, r32.2.1, r32.2.2)))))
def F_spec_l1Rd_off : Nat → Int → Int → List (List PV) → Int → Option (Int × (List (List PV)) × Int)
  | 0, _, _, _, _ => none
  | n + 1, x0, x1, x2, x3 => (T_spec_l1Rd_off n x0 x1 x2 x3).run
theorem ft_spec_l1Rd_off (n : Nat) (x0 : Int) (x1 : Int) (x2 : List (List PV)) (x3 : Int) : funT (CT_spec_l1Rd_off n) (LT_spec_l1Rd_off n) K_spec_l1Rd_off (A_spec_l1Rd_off x0 x1 x2 x3) (U_spec_l1Rd_off x0 x1 x2 x3) = (T_spec_l1Rd_off n x0 x1 x2 x3).bind fun r => .done (O_spec_l1Rd_off r) := by kernel_rfl
theorem ct_spec_l1Rd_off (n : Nat) : CTok (CT_spec_l1Rd_off n) (runs KP lib n) := mkCT_cons (eo_spec_l1Rd_once n (noEnt_ok)) (mkCT_cons (eo_spec_l1Rd_below n (noEnt_ok)) (mkCT_cons (eo_spec_l1Rd_near n (noEnt_ok)) (mkCT_nil)))
theorem th_spec_l1Rd_off : ∀ (n : Nat) (x0 : Int) (x1 : Int) (x2 : List (List PV)) (x3 : Int) (r : Int × (List (List PV)) × Int), F_spec_l1Rd_off n x0 x1 x2 x3 = some r → runs KP lib n 60 (A_spec_l1Rd_off x0 x1 x2 x3) (U_spec_l1Rd_off x0 x1 x2 x3) = some (O_spec_l1Rd_off r)
  | 0, x0, x1, x2, x3, r, h => by cases h
  | n + 1, x0, x1, x2, x3, r, h => fun_step (kf := K_spec_l1Rd_off) rfl (ct_spec_l1Rd_off n) (noLoops rfl) (ft_spec_l1Rd_off n x0 x1 x2 x3) h
def FH_spec_l1Rd_off (n : Nat) : Cont → Option (Int × (List (List PV)) × Int)
  | ([[[]], [[.i x0]], [[.i x1]]], [[[[.r x2], [.i x3]]]]) => F_spec_l1Rd_off n x0 x1 x2 x3
  | _ => none
def E_spec_l1Rd_off (n : Nat) (d : List AV → List Go.Eng.Frame → Tr Res) : List AV → List Go.Eng.Frame → Tr Res := cent (A_spec_l1Rd_off (0) (0) ([]) (0)) (U_spec_l1Rd_off (0) (0) ([]) (0)) (FH_spec_l1Rd_off n) O_spec_l1Rd_off d
theorem eo_spec_l1Rd_off (n : Nat) {d : List AV → List Go.Eng.Frame → Tr Res} (hd : ∀ ar up r, (d ar up).run = some r → runs KP lib n 60 ar up = some r) : ∀ ar up r, (E_spec_l1Rd_off n d ar up).run = some r → runs KP lib n 60 ar up = some r :=
  cent_ok (fun hs r h => by
    unfold FH_spec_l1Rd_off at h
    split at h
    · exact ⟨A_spec_l1Rd_off _ _ _ _, U_spec_l1Rd_off _ _ _ _, rfl, rfl, th_spec_l1Rd_off n _ _ _ _ r h⟩
    · cases h) hd
/-! ### (*spec.l1Rd).value -/
def A_spec_l1Rd_value (x0 : List (List PV)) (x1 : Int) : List AV := [(.c (.ptr 0 0 0 0 0))]
def U_spec_l1Rd_value (x0 : List (List PV)) (x1 : Int) : List Go.Eng.Frame := [[(0, ⟨0, 2, 66, (.box [(.p (.ls x0)), (.p (.i .i64 x1))])⟩)]]
def O_spec_l1Rd_value (r : Int × Int × ByteArray × (List (List PV)) × Int) : Res := ⟨(.agg [(.p (.i .i64 r.1)), (.p (.i .i64 r.2.1)), (.p (.s r.2.2.1))]), [[(0, ⟨0, 2, 66, (.box [(.p (.ls r.2.2.2.1)), (.p (.i .i64 r.2.2.2.2))])⟩)]], []⟩
abbrev CT_spec_l1Rd_value (n : Nat) : CTab := mkCT [(65, E_spec_l1Rd_below n (noEnt)), (66, E_spec_l1Rd_num n (noEnt)), (52, E_spec_l1Rd_once n (noEnt)), (60, E_spec_l1Rd_off n (noEnt))]
abbrev LT_spec_l1Rd_value (n : Nat) : LTab := mkLT []
def T_spec_l1Rd_value (n : Nat) (x0 : List (List PV)) (x1 : Int) : Tr (Int × Int × ByteArray × (List (List PV)) × Int) := (.opt (F_spec_l1Rd_below n (8 : Int) x0 x1) fun r8 => (.ask ((r8.1 == (0 : Int))) (.done ((0 : Int), (0 : Int), (⟨#[]⟩ : ByteArray), r8.2.1, r8.2.2)) (.ask ((r8.1 == (1 : Int))) (.opt (F_spec_l1Rd_num n r8.2.1 r8.2.2) fun r15 => (.done ((1 : Int), r15.1, (⟨#[]⟩ : ByteArray), r15.2.1, r15.2.2))) (.ask ((r8.1 == (2 : Int))) (.opt (F_spec_l1Rd_num n r8.2.1 r8.2.2) fun r16 => (.done ((1 : Int), r16.1, (⟨#[]⟩ : ByteArray), r16.2.1, r16.2.2))) (.ask ((r8.1 == (3 : Int))) (.opt (F_spec_l1Rd_num n r8.2.1 r8.2.2) fun r17 => (.done ((1 : Int), r17.1, (⟨#[]⟩ : ByteArray), r17.2.1, r17.2.2))) (.ask ((r8.1 == (4 : Int))) (.opt (F_spec_l1Rd_below n (6 : Int) r8.2.1 r8.2.2) fun r18 => (.ask (decide (6 = ([[(.s (⟨#[]⟩ : ByteArray))], [(.s (⟨#[97]⟩ : ByteArray))], [(.s (⟨#[97, 98]⟩ : ByteArray))], [(.s (⟨#[49]⟩ : ByteArray))], [(.s (⟨#[39]⟩ : ByteArray))], [(.s (⟨#[34, 113, 34]⟩ : ByteArray))]] : List (List PV)).length ∧ 0 ≤ r18.1 ∧ r18.1 < ((6 : Nat) : Int))) (.opt (([[(.s (⟨#[]⟩ : ByteArray))], [(.s (⟨#[97]⟩ : ByteArray))], [(.s (⟨#[97, 98]⟩ : ByteArray))], [(.s (⟨#[49]⟩ : ByteArray))], [(.s (⟨#[39]⟩ : ByteArray))], [(.s (⟨#[34, 113, 34]⟩ : ByteArray))]] : List (List PV))[(r18.1).toNat]?) fun e19 => (.opt (cellS e19 0) fun y20 => (.done ((2 : Int), (0 : Int), y20, r18.2.1, r18.2.2)))) .fail)) (.ask ((r8.1 == (5 : Int))) (.opt (F_spec_l1Rd_below n (2 : Int) r8.2.1 r8.2.2) fun r21 => (.done ((3 : Int), r21.1, (⟨#[]⟩ : ByteArray), r21.2.1, r21.2.2))) (.ask ((r8.1 == (6 : Int))) (.opt (F_spec_l1Rd_below n (5 : Int) r8.2.1 r8.2.2) fun r22 => (.done ((4 : Int), (IntKind.i64.wrap ((1 : Int) + r22.1)), (⟨#[]⟩ : ByteArray), r22.2.1, r22.2.2))) (.opt (F_spec_l1Rd_once n (4 : Int) r8.2.1 r8.2.2) fun r23 => (.ask (r23.1) (.opt (F_spec_l1Rd_off n (0 : Int) (4 : Int) r23.2.1 r23.2.2) fun r33 => (.opt (F_spec_l1Rd_off n (0 : Int) (5 : Int) r33.2.1 r33.2.2) fun r34 => (.done (r33.1, r34.1, (⟨#[]⟩ : ByteArray), r34.2.1, r34.2.2)))) (.opt (F_spec_l1Rd_below n (5 : Int) r23.2.1 r23.2.2) fun r35 => (.done ((1 : Int), r35.1, (⟨#[]⟩ : ByteArray), r35.2.1, r35.2.2)))))))))))))
def F_spec_l1Rd_value : Nat → List (List PV) → Int → Option (Int × Int × ByteArray × (List (List PV)) × Int)
  | 0, _, _ => none
  | n + 1, x0, x1 => (T_spec_l1Rd_value n x0 x1).run
theorem ft_spec_l1Rd_value (n : Nat) (x0 : List (List PV)) (x1 : Int) : funT (CT_spec_l1Rd_value n) (LT_spec_l1Rd_value n) K_spec_l1Rd_value (A_spec_l1Rd_value x0 x1) (U_spec_l1Rd_value x0 x1) = (T_spec_l1Rd_value n x0 x1).bind fun r => .done (O_spec_l1Rd_value r) := by kernel_rfl
theorem ct_spec_l1Rd_value (n : Nat) : CTok (CT_spec_l1Rd_value n) (runs KP lib n) := mkCT_cons (eo_spec_l1Rd_below n (noEnt_ok)) (mkCT_cons (eo_spec_l1Rd_num n (noEnt_ok)) (mkCT_cons (eo_spec_l1Rd_once n (noEnt_ok)) (mkCT_cons (eo_spec_l1Rd_off n (noEnt_ok)) (mkCT_nil))))
theorem th_spec_l1Rd_value : ∀ (n : Nat) (x0 : List (List PV)) (x1 : Int) (r : Int × Int × ByteArray × (List (List PV)) × Int), F_spec_l1Rd_value n x0 x1 = some r → runs KP lib n 51 (A_spec_l1Rd_value x0 x1) (U_spec_l1Rd_value x0 x1) = some (O_spec_l1Rd_value r)
  | 0, x0, x1, r, h => by cases h
  | n + 1, x0, x1, r, h => fun_step (kf := K_spec_l1Rd_value) rfl (ct_spec_l1Rd_value n) (noLoops rfl) (ft_spec_l1Rd_value n x0 x1) h
def FH_spec_l1Rd_value (n : Nat) : Cont → Option (Int × Int × ByteArray × (List (List PV)) × Int)
  | ([[[]]], [[[[.r x0], [.i x1]]]]) => F_spec_l1Rd_value n x0 x1
  | _ => none
def E_spec_l1Rd_value (n : Nat) (d : List AV → List Go.Eng.Frame → Tr Res) : List AV → List Go.Eng.Frame → Tr Res := cent (A_spec_l1Rd_value ([]) (0)) (U_spec_l1Rd_value ([]) (0)) (FH_spec_l1Rd_value n) O_spec_l1Rd_value d
theorem eo_spec_l1Rd_value (n : Nat) {d : List AV → List Go.Eng.Frame → Tr Res} (hd : ∀ ar up r, (d ar up).run = some r → runs KP lib n 51 ar up = some r) : ∀ ar up r, (E_spec_l1Rd_value n d ar up).run = some r → runs KP lib n 51 ar up = some r :=
  cent_ok (fun hs r h => by
    unfold FH_spec_l1Rd_value at h
    split at h
    · exact ⟨A_spec_l1Rd_value _ _, U_spec_l1Rd_value _ _, rfl, rfl, th_spec_l1Rd_value n _ _ r h⟩
    · cases h) hd
/-! ### spec.DrawOrder -/
def A_spec_DrawOrder (x0 : List (List PV)) : List AV := [(.c (.p (.ls x0)))]
def U_spec_DrawOrder (x0 : List (List PV)) : List Go.Eng.Frame := []
def O_spec_DrawOrder (r : Int × Int × ByteArray × Int × Int × ByteArray) : Res := ⟨(.tup [(true, [(.p (.i .i64 r.1)), (.p (.i .i64 r.2.1)), (.p (.s r.2.2.1))]), (true, [(.p (.i .i64 r.2.2.2.1)), (.p (.i .i64 r.2.2.2.2.1)), (.p (.s r.2.2.2.2.2))])]), [], []⟩
abbrev CT_spec_DrawOrder (n : Nat) : CTab := mkCT [(50, E_spec_l1Open n (noEnt)), (51, E_spec_l1Rd_value n (noEnt)), (52, E_spec_l1Rd_once n (noEnt))]
abbrev LT_spec_DrawOrder (n : Nat) : LTab := mkLT []
def T_spec_DrawOrder (n : Nat) (x0 : List (List PV)) : Tr (Int × Int × ByteArray × Int × Int × ByteArray) := (.opt (F_spec_l1Open n x0) fun r2 => (.opt (F_spec_l1Rd_value n r2.1 r2.2) fun r36 => (.opt (F_spec_l1Rd_once n (5 : Int) r36.2.2.2.1 r36.2.2.2.2) fun r37 => (.ask (r37.1) (.done (r36.1, r36.2.1, r36.2.2.1, r36.1, r36.2.1, r36.2.2.1)) (.opt (F_spec_l1Rd_value n r37.2.1 r37.2.2) fun r38 => (.done (r36.1, r36.2.1, r36.2.2.1, r38.1, r38.2.1, r38.2.2.1)))))))
def F_spec_DrawOrder : Nat → List (List PV) → Option (Int × Int × ByteArray × Int × Int × ByteArray)
  | 0, _ => none
  | n + 1, x0 => (T_spec_DrawOrder n x0).run
theorem ft_spec_DrawOrder (n : Nat) (x0 : List (List PV)) : funT (CT_spec_DrawOrder n) (LT_spec_DrawOrder n) K_spec_DrawOrder (A_spec_DrawOrder x0) (U_spec_DrawOrder x0) = (T_spec_DrawOrder n x0).bind fun r => .done (O_spec_DrawOrder r) := by kernel_rfl
theorem ct_spec_DrawOrder (n : Nat) : CTok (CT_spec_DrawOrder n) (runs KP lib n) := mkCT_cons (eo_spec_l1Open n (noEnt_ok)) (mkCT_cons (eo_spec_l1Rd_value n (noEnt_ok)) (mkCT_cons (eo_spec_l1Rd_once n (noEnt_ok)) (mkCT_nil)))
theorem th_spec_DrawOrder : ∀ (n : Nat) (x0 : List (List PV)) (r : Int × Int × ByteArray × Int × Int × ByteArray), F_spec_DrawOrder n x0 = some r → runs KP lib n 23 (A_spec_DrawOrder x0) (U_spec_DrawOrder x0) = some (O_spec_DrawOrder r)
  | 0, x0, r, h => by cases h
  | n + 1, x0, r, h => fun_step (kf := K_spec_DrawOrder) rfl (ct_spec_DrawOrder n) (noLoops rfl) (ft_spec_DrawOrder n x0) h
def FH_spec_DrawOrder (n : Nat) : Cont → Option (Int × Int × ByteArray × Int × Int × ByteArray)
  | ([[[.r x0]]], []) => F_spec_DrawOrder n x0
  | _ => none
def E_spec_DrawOrder (n : Nat) (d : List AV → List Go.Eng.Frame → Tr Res) : List AV → List Go.Eng.Frame → Tr Res := cent (A_spec_DrawOrder ([])) (U_spec_DrawOrder ([])) (FH_spec_DrawOrder n) O_spec_DrawOrder d
theorem eo_spec_DrawOrder (n : Nat) {d : List AV → List Go.Eng.Frame → Tr Res} (hd : ∀ ar up r, (d ar up).run = some r → runs KP lib n 23 ar up = some r) : ∀ ar up r, (E_spec_DrawOrder n d ar up).run = some r → runs KP lib n 23 ar up = some r :=
  cent_ok (fun hs r h => by
    unfold FH_spec_DrawOrder at h
    split at h
    · exact ⟨A_spec_DrawOrder _, U_spec_DrawOrder _, rfl, rfl, th_spec_DrawOrder n _ r h⟩
    · cases h) hd
/-! ### spec.DrawValueText -/
def A_spec_DrawValueText (x0 : List (List PV)) : List AV := [(.c (.p (.ls x0)))]
def U_spec_DrawValueText (x0 : List (List PV)) : List Go.Eng.Frame := []
def O_spec_DrawValueText (r : Int × Int × ByteArray) : Res := ⟨(.agg [(.p (.i .i64 r.1)), (.p (.i .i64 r.2.1)), (.p (.s r.2.2))]), [], []⟩
abbrev CT_spec_DrawValueText (n : Nat) : CTab := mkCT [(50, E_spec_l1Open n (noEnt)), (51, E_spec_l1Rd_value n (noEnt))]
abbrev LT_spec_DrawValueText (n : Nat) : LTab := mkLT []
def T_spec_DrawValueText (n : Nat) (x0 : List (List PV)) : Tr (Int × Int × ByteArray) := (.opt (F_spec_l1Open n x0) fun r40 => (.opt (F_spec_l1Rd_value n r40.1 r40.2) fun r41 => (.done (r41.1, r41.2.1, r41.2.2.1))))
def F_spec_DrawValueText : Nat → List (List PV) → Option (Int × Int × ByteArray)
  | 0, _ => none
  | n + 1, x0 => (T_spec_DrawValueText n x0).run
theorem ft_spec_DrawValueText (n : Nat) (x0 : List (List PV)) : funT (CT_spec_DrawValueText n) (LT_spec_DrawValueText n) K_spec_DrawValueText (A_spec_DrawValueText x0) (U_spec_DrawValueText x0) = (T_spec_DrawValueText n x0).bind fun r => .done (O_spec_DrawValueText r) := by kernel_rfl
theorem ct_spec_DrawValueText (n : Nat) : CTok (CT_spec_DrawValueText n) (runs KP lib n) := mkCT_cons (eo_spec_l1Open n (noEnt_ok)) (mkCT_cons (eo_spec_l1Rd_value n (noEnt_ok)) (mkCT_nil))
theorem th_spec_DrawValueText : ∀ (n : Nat) (x0 : List (List PV)) (r : Int × Int × ByteArray), F_spec_DrawValueText n x0 = some r → runs KP lib n 24 (A_spec_DrawValueText x0) (U_spec_DrawValueText x0) = some (O_spec_DrawValueText r)
  | 0, x0, r, h => by cases h
  | n + 1, x0, r, h => fun_step (kf := K_spec_DrawValueText) rfl (ct_spec_DrawValueText n) (noLoops rfl) (ft_spec_DrawValueText n x0) h
def FH_spec_DrawValueText (n : Nat) : Cont → Option (Int × Int × ByteArray)
  | ([[[.r x0]]], []) => F_spec_DrawValueText n x0
  | _ => none
def E_spec_DrawValueText (n : Nat) (d : List AV → List Go.Eng.Frame → Tr Res) : List AV → List Go.Eng.Frame → Tr Res := cent (A_spec_DrawValueText ([])) (U_spec_DrawValueText ([])) (FH_spec_DrawValueText n) O_spec_DrawValueText d
theorem eo_spec_DrawValueText (n : Nat) {d : List AV → List Go.Eng.Frame → Tr Res} (hd : ∀ ar up r, (d ar up).run = some r → runs KP lib n 24 ar up = some r) : ∀ ar up r, (E_spec_DrawValueText n d ar up).run = some r → runs KP lib n 24 ar up = some r :=
  cent_ok (fun hs r h => by
    unfold FH_spec_DrawValueText at h
    split at h
    · exact ⟨A_spec_DrawValueText _, U_spec_DrawValueText _, rfl, rfl, th_spec_DrawValueText n _ r h⟩
    · cases h) hd
/-! ### cmp.isNaN[int64] -/
def A_cmp_isNaN_int64 (x0 : Int) : List AV := [(.c (.p (.i .i64 x0)))]
def U_cmp_isNaN_int64 (x0 : Int) : List Go.Eng.Frame := []
def O_cmp_isNaN_int64 (r : Bool) : Res := ⟨(.c (.p (.b r))), [], []⟩
abbrev CT_cmp_isNaN_int64 (n : Nat) : CTab := mkCT []
abbrev LT_cmp_isNaN_int64 (n : Nat) : LTab := mkLT []
def T_cmp_isNaN_int64 (n : Nat) (x0 : Int) : Tr (Bool) := (.done (x0 != x0))
def F_cmp_isNaN_int64 : Nat → Int → Option (Bool)
  | 0, _ => none
  | n + 1, x0 => (T_cmp_isNaN_int64 n x0).run
theorem ft_cmp_isNaN_int64 (n : Nat) (x0 : Int) : funT (CT_cmp_isNaN_int64 n) (LT_cmp_isNaN_int64 n) K_cmp_isNaN_int64 (A_cmp_isNaN_int64 x0) (U_cmp_isNaN_int64 x0) = (T_cmp_isNaN_int64 n x0).bind fun r => .done (O_cmp_isNaN_int64 r) := by kernel_rfl
theorem ct_cmp_isNaN_int64 (n : Nat) : CTok (CT_cmp_isNaN_int64 n) (runs KP lib n) := mkCT_nil
theorem th_cmp_isNaN_int64 : ∀ (n : Nat) (x0 : Int) (r : Bool), F_cmp_isNaN_int64 n x0 = some r → runs KP lib n 67 (A_cmp_isNaN_int64 x0) (U_cmp_isNaN_int64 x0) = some (O_cmp_isNaN_int64 r)
  | 0, x0, r, h => by cases h
  | n + 1, x0, r, h => fun_step (kf := K_cmp_isNaN_int64) rfl (ct_cmp_isNaN_int64 n) (noLoops rfl) (ft_cmp_isNaN_int64 n x0) h
def FH_cmp_isNaN_int64 (n : Nat) : Cont → Option (Bool)
  | ([[[.i x0]]], []) => F_cmp_isNaN_int64 n x0
  | _ => none
def E_cmp_isNaN_int64 (n : Nat) (d : List AV → List Go.Eng.Frame → Tr Res) : List AV → List Go.Eng.Frame → Tr Res := cent (A_cmp_isNaN_int64 (0)) (U_cmp_isNaN_int64 (0)) (FH_cmp_isNaN_int64 n) O_cmp_isNaN_int64 d
theorem eo_cmp_isNaN_int64 (n : Nat) {d : List AV → List Go.Eng.Frame → Tr Res} (hd : ∀ ar up r, (d ar up).run = some r → runs KP lib n 67 ar up = some r) : ∀ ar up r, (E_cmp_isNaN_int64 n d ar up).run = some r → runs KP lib n 67 ar up = some r :=
  cent_ok (fun hs r h => by
    unfold FH_cmp_isNaN_int64 at h
    split at h
    · exact ⟨A_cmp_isNaN_int64 _, U_cmp_isNaN_int64 _, rfl, rfl, th_cmp_isNaN_int64 n _ r h⟩
    · cases h) hd
/-! ### cmp.Compare[int64] -/
def A_cmp_Compare_int64 (x0 : Int) (x1 : Int) : List AV := [(.c (.p (.i .i64 x0))), (.c (.p (.i .i64 x1)))]
def U_cmp_Compare_int64 (x0 : Int) (x1 : Int) : List Go.Eng.Frame := []
def O_cmp_Compare_int64 (r : Int) : Res := ⟨(.c (.p (.i .i64 r))), [], []⟩
abbrev CT_cmp_Compare_int64 (n : Nat) : CTab := mkCT [(67, E_cmp_isNaN_int64 n (noEnt))]
abbrev LT_cmp_Compare_int64 (n : Nat) : LTab := mkLT []
def T_cmp_Compare_int64 (n : Nat) (x0 : Int) (x1 : Int) : Tr (Int) := (.opt (F_cmp_isNaN_int64 n x0) fun r43 => (.opt (F_cmp_isNaN_int64 n x1) fun r44 => (.ask (r43) (.ask (r44) (.done (0 : Int)) (.done (-1 : Int))) (.ask (r44) (.done (1 : Int)) (.ask ((decide (x0 < x1))) (.done (-1 : Int)) (.ask ((decide (x0 > x1))) (.done (1 : Int)) (.done (0 : Int))))))))
def F_cmp_Compare_int64 : Nat → Int → Int → Option (Int)
  | 0, _, _ => none
  | n + 1, x0, x1 => (T_cmp_Compare_int64 n x0 x1).run
theorem ft_cmp_Compare_int64 (n : Nat) (x0 : Int) (x1 : Int) : funT (CT_cmp_Compare_int64 n) (LT_cmp_Compare_int64 n) K_cmp_Compare_int64 (A_cmp_Compare_int64 x0 x1) (U_cmp_Compare_int64 x0 x1) = (T_cmp_Compare_int64 n x0 x1).bind fun r => .done (O_cmp_Compare_int64 r) := by kernel_rfl
theorem ct_cmp_Compare_int64 (n : Nat) : CTok (CT_cmp_Compare_int64 n) (runs KP lib n) := mkCT_cons (eo_cmp_isNaN_int64 n (noEnt_ok)) (mkCT_nil)
theorem th_cmp_Compare_int64 : ∀ (n : Nat) (x0 : Int) (x1 : Int) (r : Int), F_cmp_Compare_int64 n x0 x1 = some r → runs KP lib n 54 (A_cmp_Compare_int64 x0 x1) (U_cmp_Compare_int64 x0 x1) = some (O_cmp_Compare_int64 r)
  | 0, x0, x1, r, h => by cases h
  | n + 1, x0, x1, r, h => fun_step (kf := K_cmp_Compare_int64) rfl (ct_cmp_Compare_int64 n) (noLoops rfl) (ft_cmp_Compare_int64 n x0 x1) h
def FH_cmp_Compare_int64 (n : Nat) : Cont → Option (Int)
  | ([[[.i x0]], [[.i x1]]], []) => F_cmp_Compare_int64 n x0 x1
  | _ => none
def E_cmp_Compare_int64 (n : Nat) (d : List AV → List Go.Eng.Frame → Tr Res) : List AV → List Go.Eng.Frame → Tr Res := cent (A_cmp_Compare_int64 (0) (0)) (U_cmp_Compare_int64 (0) (0)) (FH_cmp_Compare_int64 n) O_cmp_Compare_int64 d
theorem eo_cmp_Compare_int64 (n : Nat) {d : List AV → List Go.Eng.Frame → Tr Res} (hd : ∀ ar up r, (d ar up).run = some r → runs KP lib n 54 ar up = some r) : ∀ ar up r, (E_cmp_Compare_int64 n d ar up).run = some r → runs KP lib n 54 ar up = some r :=
  cent_ok (fun hs r h => by
    unfold FH_cmp_Compare_int64 at h
    split at h
    · exact ⟨A_cmp_Compare_int64 _ _, U_cmp_Compare_int64 _ _, rfl, rfl, th_cmp_Compare_int64 n _ _ r h⟩
    · cases h) hd
/-! ### cmp.isNaN[string] -/
def A_cmp_isNaN_string (x0 : ByteArray) : List AV := [(.c (.p (.s x0)))]
def U_cmp_isNaN_string (x0 : ByteArray) : List Go.Eng.Frame := []
def O_cmp_isNaN_string (r : Bool) : Res := ⟨(.c (.p (.b r))), [], []⟩
abbrev CT_cmp_isNaN_string (n : Nat) : CTab := mkCT []
abbrev LT_cmp_isNaN_string (n : Nat) : LTab := mkLT []
def T_cmp_isNaN_string (n : Nat) (x0 : ByteArray) : Tr (Bool) := (.done (!(x0.toList == x0.toList)))
def F_cmp_isNaN_string : Nat → ByteArray → Option (Bool)
  | 0, _ => none
  | n + 1, x0 => (T_cmp_isNaN_string n x0).run
theorem ft_cmp_isNaN_string (n : Nat) (x0 : ByteArray) : funT (CT_cmp_isNaN_string n) (LT_cmp_isNaN_string n) K_cmp_isNaN_string (A_cmp_isNaN_string x0) (U_cmp_isNaN_string x0) = (T_cmp_isNaN_string n x0).bind fun r => .done (O_cmp_isNaN_string r) := by kernel_rfl
theorem ct_cmp_isNaN_string (n : Nat) : CTok (CT_cmp_isNaN_string n) (runs KP lib n) := mkCT_nil
theorem th_cmp_isNaN_string : ∀ (n : Nat) (x0 : ByteArray) (r : Bool), F_cmp_isNaN_string n x0 = some r → runs KP lib n 68 (A_cmp_isNaN_string x0) (U_cmp_isNaN_string x0) = some (O_cmp_isNaN_string r)
  | 0, x0, r, h => by cases h
  | n + 1, x0, r, h => fun_step (kf := K_cmp_isNaN_string) rfl (ct_cmp_isNaN_string n) (noLoops rfl) (ft_cmp_isNaN_string n x0) h
def FH_cmp_isNaN_string (n : Nat) : Cont → Option (Bool)
  | ([[[.s x0]]], []) => F_cmp_isNaN_string n x0
  | _ => none
def E_cmp_isNaN_string (n : Nat) (d : List AV → List Go.Eng.Frame → Tr Res) : List AV → List Go.Eng.Frame → Tr Res := cent (A_cmp_isNaN_string (⟨#[]⟩)) (U_cmp_isNaN_string (⟨#[]⟩)) (FH_cmp_isNaN_string n) O_cmp_isNaN_string d
theorem eo_cmp_isNaN_string (n : Nat) {d : List AV → List Go.Eng.Frame → Tr Res} (hd : ∀ ar up r, (d ar up).run = some r → runs KP lib n 68 ar up = some r) : ∀ ar up r, (E_cmp_isNaN_string n d ar up).run = some r → runs KP lib n 68 ar up = some r :=
  cent_ok (fun hs r h => by
    unfold FH_cmp_isNaN_string at h
    split at h
    · exact ⟨A_cmp_isNaN_string _, U_cmp_isNaN_string _, rfl, rfl, th_cmp_isNaN_string n _ r h⟩
    · cases h) hd
/-! ### cmp.Compare[string] -/
def A_cmp_Compare_string (x0 : ByteArray) (x1 : ByteArray) : List AV := [(.c (.p (.s x0))), (.c (.p (.s x1)))]
def U_cmp_Compare_string (x0 : ByteArray) (x1 : ByteArray) : List Go.Eng.Frame := []
def O_cmp_Compare_string (r : Int) : Res := ⟨(.c (.p (.i .i64 r))), [], []⟩
abbrev CT_cmp_Compare_string (n : Nat) : CTab := mkCT [(68, E_cmp_isNaN_string n (noEnt))]
abbrev LT_cmp_Compare_string (n : Nat) : LTab := mkLT []
def T_cmp_Compare_string (n : Nat) (x0 : ByteArray) (x1 : ByteArray) : Tr (Int) := (.opt (F_cmp_isNaN_string n x0) fun r47 => (.opt (F_cmp_isNaN_string n x1) fun r48 => (.ask (r47) (.ask (r48) (.done (0 : Int)) (.done (-1 : Int))) (.ask (r48) (.done (1 : Int)) (.ask ((Op.bytesLess x0.toList x1.toList)) (.done (-1 : Int)) (.ask ((!(Op.bytesLess x0.toList x1.toList || x0.toList == x1.toList))) (.done (1 : Int)) (.done (0 : Int))))))))
def F_cmp_Compare_string : Nat → ByteArray → ByteArray → Option (Int)
  | 0, _, _ => none
  | n + 1, x0, x1 => (T_cmp_Compare_string n x0 x1).run
theorem ft_cmp_Compare_string (n : Nat) (x0 : ByteArray) (x1 : ByteArray) : funT (CT_cmp_Compare_string n) (LT_cmp_Compare_string n) K_cmp_Compare_string (A_cmp_Compare_string x0 x1) (U_cmp_Compare_string x0 x1) = (T_cmp_Compare_string n x0 x1).bind fun r => .done (O_cmp_Compare_string r) := by kernel_rfl
theorem ct_cmp_Compare_string (n : Nat) : CTok (CT_cmp_Compare_string n) (runs KP lib n) := mkCT_cons (eo_cmp_isNaN_string n (noEnt_ok)) (mkCT_nil)
theorem th_cmp_Compare_string : ∀ (n : Nat) (x0 : ByteArray) (x1 : ByteArray) (r : Int), F_cmp_Compare_string n x0 x1 = some r → runs KP lib n 55 (A_cmp_Compare_string x0 x1) (U_cmp_Compare_string x0 x1) = some (O_cmp_Compare_string r)
  | 0, x0, x1, r, h => by cases h
  | n + 1, x0, x1, r, h => fun_step (kf := K_cmp_Compare_string) rfl (ct_cmp_Compare_string n) (noLoops rfl) (ft_cmp_Compare_string n x0 x1) h
def FH_cmp_Compare_string (n : Nat) : Cont → Option (Int)
  | ([[[.s x0]], [[.s x1]]], []) => F_cmp_Compare_string n x0 x1
  | _ => none
def E_cmp_Compare_string (n : Nat) (d : List AV → List Go.Eng.Frame → Tr Res) : List AV → List Go.Eng.Frame → Tr Res := cent (A_cmp_Compare_string (⟨#[]⟩) (⟨#[]⟩)) (U_cmp_Compare_string (⟨#[]⟩) (⟨#[]⟩)) (FH_cmp_Compare_string n) O_cmp_Compare_string d
theorem eo_cmp_Compare_string (n : Nat) {d : List AV → List Go.Eng.Frame → Tr Res} (hd : ∀ ar up r, (d ar up).run = some r → runs KP lib n 55 ar up = some r) : ∀ ar up r, (E_cmp_Compare_string n d ar up).run = some r → runs KP lib n 55 ar up = some r :=
  cent_ok (fun hs r h => by
    unfold FH_cmp_Compare_string at h
    split at h
    · exact ⟨A_cmp_Compare_string _ _, U_cmp_Compare_string _ _, rfl, rfl, th_cmp_Compare_string n _ _ r h⟩
    · cases h) hd
/-! ### cmp.Or[int] -/
def A_cmp_Or_int (x0 : List (List PV)) : List AV := [(.c (.p (.ls x0)))]
def U_cmp_Or_int (x0 : List (List PV)) : List Go.Eng.Frame := []
def O_cmp_Or_int (r : Int) : Res := ⟨(.c (.p (.i .i64 r))), [], []⟩
abbrev CT_cmp_Or_int (n : Nat) : CTab := mkCT []
def S_cmp_Or_int_29 (v : Int × (List (List PV)) × Int × Int) : St := ⟨[(3, (.c (.p (.i .i64 v.1)))), (6, (.c (.p (.ls v.2.1)))), (7, (.c (.p (.i .i64 v.2.2.1)))), (8, (.c (.p (.i .i64 v.2.2.2))))], [], []⟩
def B_cmp_Or_int_29 (n : Nat) (v : Int × (List (List PV)) × Int × Int) : Tr ((Int × (List (List PV)) × Int × Int) ⊕ ((Int) ⊕ (Int))) := (.ask ((decide (v.2.2.2 < v.2.2.1))) (.ask (decide (0 ≤ v.2.2.2 ∧ v.2.2.2 < v.2.1.length)) (.opt (v.2.1[(v.2.2.2).toNat]?) fun e50 => (.ask (decide (e50.length = 1)) (.opt (cellI .i64 e50 0) fun y51 => (.ask ((y51 != v.1)) (.done (.inr (.inl (y51)))) (.done (.inl (v.1, v.2.1, v.2.2.1, (IntKind.i64.wrap (v.2.2.2 + (1 : Int)))))))) .fail)) .fail) (.done (.inr (.inr (v.1)))))
def D_cmp_Or_int_29 : ((Int) ⊕ (Int)) → Ex × St := fun | .inl r => (.ret, ⟨[(2, (.c (.p (.i .i64 r))))], [], []⟩) | .inr r => (fun r => ((.exit 0), ⟨[(3, (.c (.p (.i .i64 r))))], [], []⟩)) r
def DT_cmp_Or_int_29 : ((Int) ⊕ (Int)) → Tr (Ex × St) := fun r => .alt r (fun r => .done (.ret, ⟨[(2, (.c (.p (.i .i64 r))))], [], []⟩)) (fun r => .done ((.exit 0), ⟨[(3, (.c (.p (.i .i64 r))))], [], []⟩))
def VH_cmp_Or_int_29 : Cont3 → Option (Int × (List (List PV)) × Int × Int)
  | ([[[.i w0]], [[.r w1]], [[.i w2]], [[.i w3]]], [], []) => some (w0, w1, w2, w3)
  | _ => none
abbrev LE_cmp_Or_int_29 (n : Nat) : St → Tr (Ex × St) := lent (S_cmp_Or_int_29 (0, [], 0, 0)) VH_cmp_Or_int_29 (B_cmp_Or_int_29 n) DT_cmp_Or_int_29 n
abbrev LT_cmp_Or_int (n : Nat) : LTab := mkLT [(29, LE_cmp_Or_int_29 n)]
def T_cmp_Or_int (n : Nat) (x0 : List (List PV)) : Tr (Int) := (.opt (loopF (B_cmp_Or_int_29 n) n ((0 : Int), x0, (x0.length : Int), (0 : Int))) fun r52 => (.alt r52 (fun r53 => (.done r53)) (fun r54 => (.done r54))))
def F_cmp_Or_int : Nat → List (List PV) → Option (Int)
  | 0, _ => none
  | n + 1, x0 => (T_cmp_Or_int n x0).run
theorem ft_cmp_Or_int (n : Nat) (x0 : List (List PV)) : funT (CT_cmp_Or_int n) (LT_cmp_Or_int n) K_cmp_Or_int (A_cmp_Or_int x0) (U_cmp_Or_int x0) = (T_cmp_Or_int n x0).bind fun r => .done (O_cmp_Or_int r) := by kernel_rfl
theorem ct_cmp_Or_int (n : Nat) : CTok (CT_cmp_Or_int n) (runs KP lib n) := mkCT_nil
theorem lt_cmp_Or_int_29 (n : Nat) (v : Int × (List (List PV)) × Int × Int) : (evalCT (CT_cmp_Or_int n) (mkLT []) K_cmp_Or_int_L29 (S_cmp_Or_int_29 v) []).bind (ltail [3, 6, 7, 8] [(.ret, [2]), ((.exit 0), [3])]) = (B_cmp_Or_int_29 n v).bind (lenc S_cmp_Or_int_29 D_cmp_Or_int_29) := by
  obtain ⟨w0, w1, w2, w3⟩ := v
  kernel_rfl
theorem le_cmp_Or_int_29 (n : Nat) : LEok (runs KP lib n) n (29, [3, 6, 7, 8], [(.ret, [2]), ((.exit 0), [3])], K_cmp_Or_int_L29) (LE_cmp_Or_int_29 n) := fun st e s h =>
  lent_ok (ct_cmp_Or_int n) (noLoops rfl) (lt_cmp_Or_int_29 n) (fun r => by
    rcases r with r | r <;> (intro h; cases h)) (fun r y h => by
    rcases r with r | r <;> (cases h; rfl)) (fun hs v h => by
    unfold VH_cmp_Or_int_29 at h
    split at h <;> cases h
    rfl) h
theorem lo_cmp_Or_int (n : Nat) : LTok (LT_cmp_Or_int n) (runs KP lib n) n K_cmp_Or_int.body := mkLT_ok (by
  intro x hx
  have hx : x ∈ ([(29, [3, 6, 7, 8], [(.ret, [2]), ((.exit 0), [3])], K_cmp_Or_int_L29)] : List (Nat × List Nat × List (Ex × List Nat) × KCode)) := hx
  simp only [List.mem_cons, List.not_mem_nil, or_false] at hx
  rcases hx with rfl
  · exact ⟨LE_cmp_Or_int_29 n, fun st => rfl, le_cmp_Or_int_29 n⟩)
theorem th_cmp_Or_int : ∀ (n : Nat) (x0 : List (List PV)) (r : Int), F_cmp_Or_int n x0 = some r → runs KP lib n 53 (A_cmp_Or_int x0) (U_cmp_Or_int x0) = some (O_cmp_Or_int r)
  | 0, x0, r, h => by cases h
  | n + 1, x0, r, h => fun_step (kf := K_cmp_Or_int) rfl (ct_cmp_Or_int n) (lo_cmp_Or_int n) (ft_cmp_Or_int n x0) h
def FH_cmp_Or_int (n : Nat) : Cont → Option (Int)
  | ([[[.r x0]]], []) => F_cmp_Or_int n x0
  | _ => none
def E_cmp_Or_int (n : Nat) (d : List AV → List Go.Eng.Frame → Tr Res) : List AV → List Go.Eng.Frame → Tr Res := cent (A_cmp_Or_int ([])) (U_cmp_Or_int ([])) (FH_cmp_Or_int n) O_cmp_Or_int d
theorem eo_cmp_Or_int (n : Nat) {d : List AV → List Go.Eng.Frame → Tr Res} (hd : ∀ ar up r, (d ar up).run = some r → runs KP lib n 53 ar up = some r) : ∀ ar up r, (E_cmp_Or_int n d ar up).run = some r → runs KP lib n 53 ar up = some r :=
  cent_ok (fun hs r h => by
    unfold FH_cmp_Or_int at h
    split at h
    · exact ⟨A_cmp_Or_int _, U_cmp_Or_int _, rfl, rfl, th_cmp_Or_int n _ r h⟩
    · cases h) hd
/-! ### impl.Order -/
def A_impl_Order (x0 : Int) (x1 : Int) (x2 : ByteArray) (x3 : Int) (x4 : Int) (x5 : ByteArray) : List AV := [(.agg [(.p (.i .i64 x0)), (.p (.i .i64 x1)), (.p (.s x2))]), (.agg [(.p (.i .i64 x3)), (.p (.i .i64 x4)), (.p (.s x5))])]
def U_impl_Order (x0 : Int) (x1 : Int) (x2 : ByteArray) (x3 : Int) (x4 : Int) (x5 : ByteArray) : List Go.Eng.Frame := []
def O_impl_Order (r : Int) : Res := ⟨(.c (.p (.i .i64 r))), [], []⟩
abbrev CT_impl_Order (n : Nat) : CTab := mkCT [(54, E_cmp_Compare_int64 n (noEnt)), (55, E_cmp_Compare_string n (noEnt)), (53, E_cmp_Or_int n (noEnt))]
abbrev LT_impl_Order (n : Nat) : LTab := mkLT []
def T_impl_Order (n : Nat) (x0 : Int) (x1 : Int) (x2 : ByteArray) (x3 : Int) (x4 : Int) (x5 : ByteArray) : Tr (Int) := (.opt (F_cmp_Compare_int64 n x0 x3) fun r45 => (.opt (F_cmp_Compare_int64 n x1 x4) fun r46 => (.opt (F_cmp_Compare_string n x2 x5) fun r49 => (.ask (decide (3 = ([[(.i .i64 r45)], [(.i .i64 r46)], [(.i .i64 r49)]] : List (List PV)).length)) (.opt (F_cmp_Or_int n ([[(.i .i64 r45)], [(.i .i64 r46)], [(.i .i64 r49)]] : List (List PV))) fun r55 => (.ask (apartR (⟨(.c (.p (.i .i64 r55))), [], []⟩ : Res)) (.done r55) .fail)) .fail))))
def F_impl_Order : Nat → Int → Int → ByteArray → Int → Int → ByteArray → Option (Int)
  | 0, _, _, _, _, _, _ => none
  | n + 1, x0, x1, x2, x3, x4, x5 => (T_impl_Order n x0 x1 x2 x3 x4 x5).run
theorem ft_impl_Order (n : Nat) (x0 : Int) (x1 : Int) (x2 : ByteArray) (x3 : Int) (x4 : Int) (x5 : ByteArray) : funT (CT_impl_Order n) (LT_impl_Order n) K_impl_Order (A_impl_Order x0 x1 x2 x3 x4 x5) (U_impl_Order x0 x1 x2 x3 x4 x5) = (T_impl_Order n x0 x1 x2 x3 x4 x5).bind fun r => .done (O_impl_Order r) := by kernel_rfl
theorem ct_impl_Order (n : Nat) : CTok (CT_impl_Order n) (runs KP lib n) := mkCT_cons (eo_cmp_Compare_int64 n (noEnt_ok)) (mkCT_cons (eo_cmp_Compare_string n (noEnt_ok)) (mkCT_cons (eo_cmp_Or_int n (noEnt_ok)) (mkCT_nil)))
theorem th_impl_Order : ∀ (n : Nat) (x0 : Int) (x1 : Int) (x2 : ByteArray) (x3 : Int) (x4 : Int) (x5 : ByteArray) (r : Int), F_impl_Order n x0 x1 x2 x3 x4 x5 = some r → runs KP lib n 25 (A_impl_Order x0 x1 x2 x3 x4 x5) (U_impl_Order x0 x1 x2 x3 x4 x5) = some (O_impl_Order r)
  | 0, x0, x1, x2, x3, x4, x5, r, h => by cases h
  | n + 1, x0, x1, x2, x3, x4, x5, r, h => fun_step (kf := K_impl_Order) rfl (ct_impl_Order n) (noLoops rfl) (ft_impl_Order n x0 x1 x2 x3 x4 x5) h
def FH_impl_Order (n : Nat) : Cont → Option (Int)
  | ([[[.i x0], [.i x1], [.s x2]], [[.i x3], [.i x4], [.s x5]]], []) => F_impl_Order n x0 x1 x2 x3 x4 x5
  | _ => none
def E_impl_Order (n : Nat) (d : List AV → List Go.Eng.Frame → Tr Res) : List AV → List Go.Eng.Frame → Tr Res := cent (A_impl_Order (0) (0) (⟨#[]⟩) (0) (0) (⟨#[]⟩)) (U_impl_Order (0) (0) (⟨#[]⟩) (0) (0) (⟨#[]⟩)) (FH_impl_Order n) O_impl_Order d
theorem eo_impl_Order (n : Nat) {d : List AV → List Go.Eng.Frame → Tr Res} (hd : ∀ ar up r, (d ar up).run = some r → runs KP lib n 25 ar up = some r) : ∀ ar up r, (E_impl_Order n d ar up).run = some r → runs KP lib n 25 ar up = some r :=
  cent_ok (fun hs r h => by
    unfold FH_impl_Order at h
    split at h
    · exact ⟨A_impl_Order _ _ _ _ _ _, U_impl_Order _ _ _ _ _ _, rfl, rfl, th_impl_Order n _ _ _ _ _ _ r h⟩
    · cases h) hd
/-! ### spec.l2Sign -/
def A_spec_l2Sign (x0 : Bool) (x1 : Bool) : List AV := [(.c (.p (.b x0))), (.c (.p (.b x1)))]
def U_spec_l2Sign (x0 : Bool) (x1 : Bool) : List Go.Eng.Frame := []
def O_spec_l2Sign (r : Int) : Res := ⟨(.c (.p (.i .i64 r))), [], []⟩
abbrev CT_spec_l2Sign (n : Nat) : CTab := mkCT []
abbrev LT_spec_l2Sign (n : Nat) : LTab := mkLT []
def T_spec_l2Sign (n : Nat) (x0 : Bool) (x1 : Bool) : Tr (Int) := (.ask (x0) (.done (-1 : Int)) (.ask (x1) (.done (1 : Int)) (.done (0 : Int))))
def F_spec_l2Sign : Nat → Bool → Bool → Option (Int)
  | 0, _, _ => none
  | n + 1, x0, x1 => (T_spec_l2Sign n x0 x1).run
theorem ft_spec_l2Sign (n : Nat) (x0 : Bool) (x1 : Bool) : funT (CT_spec_l2Sign n) (LT_spec_l2Sign n) K_spec_l2Sign (A_spec_l2Sign x0 x1) (U_spec_l2Sign x0 x1) = (T_spec_l2Sign n x0 x1).bind fun r => .done (O_spec_l2Sign r) := by kernel_rfl
theorem ct_spec_l2Sign (n : Nat) : CTok (CT_spec_l2Sign n) (runs KP lib n) := mkCT_nil
theorem th_spec_l2Sign : ∀ (n : Nat) (x0 : Bool) (x1 : Bool) (r : Int), F_spec_l2Sign n x0 x1 = some r → runs KP lib n 56 (A_spec_l2Sign x0 x1) (U_spec_l2Sign x0 x1) = some (O_spec_l2Sign r)
  | 0, x0, x1, r, h => by cases h
  | n + 1, x0, x1, r, h => fun_step (kf := K_spec_l2Sign) rfl (ct_spec_l2Sign n) (noLoops rfl) (ft_spec_l2Sign n x0 x1) h
def FH_spec_l2Sign (n : Nat) : Cont → Option (Int)
  | ([[[.b x0]], [[.b x1]]], []) => F_spec_l2Sign n x0 x1
  | _ => none
def E_spec_l2Sign (n : Nat) (d : List AV → List Go.Eng.Frame → Tr Res) : List AV → List Go.Eng.Frame → Tr Res := cent (A_spec_l2Sign (false) (false)) (U_spec_l2Sign (false) (false)) (FH_spec_l2Sign n) O_spec_l2Sign d
theorem eo_spec_l2Sign (n : Nat) {d : List AV → List Go.Eng.Frame → Tr Res} (hd : ∀ ar up r, (d ar up).run = some r → runs KP lib n 56 ar up = some r) : ∀ ar up r, (E_spec_l2Sign n d ar up).run = some r → runs KP lib n 56 ar up = some r :=
  cent_ok (fun hs r h => by
    unfold FH_spec_l2Sign at h
    split at h
    · exact ⟨A_spec_l2Sign _ _, U_spec_l2Sign _ _, rfl, rfl, th_spec_l2Sign n _ _ r h⟩
    · cases h) hd
/-! ### spec.Order -/
def A_spec_Order (x0 : Int) (x1 : Int) (x2 : ByteArray) (x3 : Int) (x4 : Int) (x5 : ByteArray) : List AV := [(.agg [(.p (.i .i64 x0)), (.p (.i .i64 x1)), (.p (.s x2))]), (.agg [(.p (.i .i64 x3)), (.p (.i .i64 x4)), (.p (.s x5))])]
def U_spec_Order (x0 : Int) (x1 : Int) (x2 : ByteArray) (x3 : Int) (x4 : Int) (x5 : ByteArray) : List Go.Eng.Frame := []
def O_spec_Order (r : Int) : Res := ⟨(.c (.p (.i .i64 r))), [], []⟩
abbrev CT_spec_Order (n : Nat) : CTab := mkCT [(56, E_spec_l2Sign n (noEnt))]
abbrev LT_spec_Order (n : Nat) : LTab := mkLT []
def T_spec_Order (n : Nat) (x0 : Int) (x1 : Int) (x2 : ByteArray) (x3 : Int) (x4 : Int) (x5 : ByteArray) : Tr (Int) := (.ask ((x0 != x3)) (.opt (F_spec_l2Sign n (decide (x0 < x3)) true) fun r57 => (.done r57)) (.ask ((x1 != x4)) (.opt (F_spec_l2Sign n (decide (x1 < x4)) true) fun r58 => (.done r58)) (.opt (F_spec_l2Sign n (Op.bytesLess x2.toList x5.toList) (!(Op.bytesLess x2.toList x5.toList || x2.toList == x5.toList))) fun r59 => (.done r59))))
def F_spec_Order : Nat → Int → Int → ByteArray → Int → Int → ByteArray → Option (Int)
  | 0, _, _, _, _, _, _ => none
  | n + 1, x0, x1, x2, x3, x4, x5 => (T_spec_Order n x0 x1 x2 x3 x4 x5).run
theorem ft_spec_Order (n : Nat) (x0 : Int) (x1 : Int) (x2 : ByteArray) (x3 : Int) (x4 : Int) (x5 : ByteArray) : funT (CT_spec_Order n) (LT_spec_Order n) K_spec_Order (A_spec_Order x0 x1 x2 x3 x4 x5) (U_spec_Order x0 x1 x2 x3 x4 x5) = (T_spec_Order n x0 x1 x2 x3 x4 x5).bind fun r => .done (O_spec_Order r) := by kernel_rfl
theorem ct_spec_Order (n : Nat) : CTok (CT_spec_Order n) (runs KP lib n) := mkCT_cons (eo_spec_l2Sign n (noEnt_ok)) (mkCT_nil)
theorem th_spec_Order : ∀ (n : Nat) (x0 : Int) (x1 : Int) (x2 : ByteArray) (x3 : Int) (x4 : Int) (x5 : ByteArray) (r : Int), F_spec_Order n x0 x1 x2 x3 x4 x5 = some r → runs KP lib n 26 (A_spec_Order x0 x1 x2 x3 x4 x5) (U_spec_Order x0 x1 x2 x3 x4 x5) = some (O_spec_Order r)
  | 0, x0, x1, x2, x3, x4, x5, r, h => by cases h
  | n + 1, x0, x1, x2, x3, x4, x5, r, h => fun_step (kf := K_spec_Order) rfl (ct_spec_Order n) (noLoops rfl) (ft_spec_Order n x0 x1 x2 x3 x4 x5) h
def FH_spec_Order (n : Nat) : Cont → Option (Int)
  | ([[[.i x0], [.i x1], [.s x2]], [[.i x3], [.i x4], [.s x5]]], []) => F_spec_Order n x0 x1 x2 x3 x4 x5
  | _ => none
def E_spec_Order (n : Nat) (d : List AV → List Go.Eng.Frame → Tr Res) : List AV → List Go.Eng.Frame → Tr Res := cent (A_spec_Order (0) (0) (⟨#[]⟩) (0) (0) (⟨#[]⟩)) (U_spec_Order (0) (0) (⟨#[]⟩) (0) (0) (⟨#[]⟩)) (FH_spec_Order n) O_spec_Order d
theorem eo_spec_Order (n : Nat) {d : List AV → List Go.Eng.Frame → Tr Res} (hd : ∀ ar up r, (d ar up).run = some r → runs KP lib n 26 ar up = some r) : ∀ ar up r, (E_spec_Order n d ar up).run = some r → runs KP lib n 26 ar up = some r :=
  cent_ok (fun hs r h => by
    unfold FH_spec_Order at h
    split at h
    · exact ⟨A_spec_Order _ _ _ _ _ _, U_spec_Order _ _ _ _ _ _, rfl, rfl, th_spec_Order n _ _ _ _ _ _ r h⟩
    · cases h) hd
/-! ### laws.FnOrdered -/
def A_laws_FnOrdered (x0 : List (List PV)) : List AV := [(.c (.p (.ls x0)))]
def U_laws_FnOrdered (x0 : List (List PV)) : List Go.Eng.Frame := []
def O_laws_FnOrdered (r : Bool) : Res := ⟨(.c (.p (.b r))), [], []⟩
abbrev CT_laws_FnOrdered (n : Nat) : CTab := mkCT [(22, E_laws_big n (noEnt)), (23, E_spec_DrawOrder n (noEnt)), (24, E_spec_DrawValueText n (noEnt)), (25, E_impl_Order n (noEnt)), (26, E_spec_Order n (noEnt))]
abbrev LT_laws_FnOrdered (n : Nat) : LTab := mkLT []
def T_laws_FnOrdered (n : Nat) (x0 : List (List PV)) : Tr (Bool) := (.opt (F_laws_big n x0) fun r1 => (.ask (r1) (.done true) (.opt (F_spec_DrawOrder n x0) fun r39 => (.opt (F_spec_DrawValueText n x0) fun r42 => (.opt (F_impl_Order n r39.1 r39.2.1 r39.2.2.1 r39.2.2.2.1 r39.2.2.2.2.1 r39.2.2.2.2.2) fun r56 => (.opt (F_spec_Order n r39.1 r39.2.1 r39.2.2.1 r39.2.2.2.1 r39.2.2.2.2.1 r39.2.2.2.2.2) fun r60 => (.ask ((r56 != r60)) (.done false) (.opt (F_impl_Order n r39.2.2.2.1 r39.2.2.2.2.1 r39.2.2.2.2.2 r39.1 r39.2.1 r39.2.2.1) fun r61 => (.ask ((r61 != (IntKind.i64.wrap (0 - r56)))) (.done false) (.ask ((!((r56 == (0 : Int)) == ((r39.1 == r39.2.2.2.1) && ((r39.2.1 == r39.2.2.2.2.1) && ((r39.2.2.1.toList == r39.2.2.2.2.2.toList) && true)))))) (.done false) (.opt (F_impl_Order n r39.2.2.2.1 r39.2.2.2.2.1 r39.2.2.2.2.2 r42.1 r42.2.1 r42.2.2) fun r62 => (.ask ((decide (r56 ≤ (0 : Int)))) (.ask ((!(decide (r62 ≤ (0 : Int))))) (.done true) (.opt (F_impl_Order n r39.1 r39.2.1 r39.2.2.1 r42.1 r42.2.1 r42.2.2) fun r63 => (.done (decide (r63 ≤ (0 : Int)))))) (.done true)))))))))))))
def F_laws_FnOrdered : Nat → List (List PV) → Option (Bool)
  | 0, _ => none
  | n + 1, x0 => (T_laws_FnOrdered n x0).run
theorem ft_laws_FnOrdered (n : Nat) (x0 : List (List PV)) : funT (CT_laws_FnOrdered n) (LT_laws_FnOrdered n) K_laws_FnOrdered (A_laws_FnOrdered x0) (U_laws_FnOrdered x0) = (T_laws_FnOrdered n x0).bind fun r => .done (O_laws_FnOrdered r) := by kernel_rfl
theorem ct_laws_FnOrdered (n : Nat) : CTok (CT_laws_FnOrdered n) (runs KP lib n) := mkCT_cons (eo_laws_big n (noEnt_ok)) (mkCT_cons (eo_spec_DrawOrder n (noEnt_ok)) (mkCT_cons (eo_spec_DrawValueText n (noEnt_ok)) (mkCT_cons (eo_impl_Order n (noEnt_ok)) (mkCT_cons (eo_spec_Order n (noEnt_ok)) (mkCT_nil)))))
theorem th_laws_FnOrdered : ∀ (n : Nat) (x0 : List (List PV)) (r : Bool), F_laws_FnOrdered n x0 = some r → runs KP lib n 7 (A_laws_FnOrdered x0) (U_laws_FnOrdered x0) = some (O_laws_FnOrdered r)
  | 0, x0, r, h => by cases h
  | n + 1, x0, r, h => fun_step (kf := K_laws_FnOrdered) rfl (ct_laws_FnOrdered n) (noLoops rfl) (ft_laws_FnOrdered n x0) h
def FH_laws_FnOrdered (n : Nat) : Cont → Option (Bool)
  | ([[[.r x0]]], []) => F_laws_FnOrdered n x0
  | _ => none
def E_laws_FnOrdered (n : Nat) (d : List AV → List Go.Eng.Frame → Tr Res) : List AV → List Go.Eng.Frame → Tr Res := cent (A_laws_FnOrdered ([])) (U_laws_FnOrdered ([])) (FH_laws_FnOrdered n) O_laws_FnOrdered d
theorem eo_laws_FnOrdered (n : Nat) {d : List AV → List Go.Eng.Frame → Tr Res} (hd : ∀ ar up r, (d ar up).run = some r → runs KP lib n 7 ar up = some r) : ∀ ar up r, (E_laws_FnOrdered n d ar up).run = some r → runs KP lib n 7 ar up = some r :=
  cent_ok (fun hs r h => by
    unfold FH_laws_FnOrdered at h
    split at h
    · exact ⟨A_laws_FnOrdered _, U_laws_FnOrdered _, rfl, rfl, th_laws_FnOrdered n _ r h⟩
    · cases h) hd
end Go.Proofs.Ytaannlnlddbgdaa.KFnOrdered
