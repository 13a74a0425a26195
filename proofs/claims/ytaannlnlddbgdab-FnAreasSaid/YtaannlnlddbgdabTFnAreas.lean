/-
  The trees of what FnAreas calls: plain functions, and that the engine reckons just these. No condition.
-/
import Derived.Test.YtaannlnlddbgdabKFnAreas
import Derived.Test.YtaannlnlddbgdabE31
import Derived.KernelRfl
namespace Go.Proofs.Ytaannlnlddbgdab.KFnAreas
open Go.Eng
set_option linter.unusedVariables false
set_option maxRecDepth 100000
def lib : FuncId → List AV → Option AV := fun _ _ => none
/-! ### laws.big -/
def A_laws_big (x0 : List (List PV)) : List AV := [(.c (.p (.ls x0)))]
def U_laws_big (x0 : List (List PV)) : List Go.Eng.Frame := []
def O_laws_big (r : Bool) : Res := ⟨(.c (.p (.b r))), [], []⟩
abbrev CT_laws_big (n : Nat) : CTab := mkCT []
abbrev LT_laws_big (n : Nat) : LTab := mkLT []
def T_laws_big (n : Nat) (x0 : List (List PV)) : Tr (Bool) := (.done (decide ((x0.length : Int) > (1048576 : Int))))
def F_laws_big : Nat → List (List PV) → Option (Bool)
  | 0, _ => none
  | n + 1, x0 => (T_laws_big n x0).run
theorem ft_laws_big (n : Nat) (x0 : List (List PV)) : funT (CT_laws_big n) (LT_laws_big n) K_laws_big (A_laws_big x0) (U_laws_big x0) = (T_laws_big n x0).bind fun r => .done (O_laws_big r) := by kernel_rfl
theorem ct_laws_big (n : Nat) : CTok (CT_laws_big n) (runs KP lib n) := mkCT_nil
theorem th_laws_big : ∀ (n : Nat) (x0 : List (List PV)) (r : Bool), F_laws_big n x0 = some r → runs KP lib n 26 (A_laws_big x0) (U_laws_big x0) = some (O_laws_big r)
  | 0, x0, r, h => by cases h
  | n + 1, x0, r, h => fun_step (kf := K_laws_big) rfl (ct_laws_big n) (noLoops rfl) (ft_laws_big n x0) h
def FH_laws_big (n : Nat) : Cont → Option (Bool)
  | ([[[.r x0]]], []) => F_laws_big n x0
  | _ => none
def E_laws_big (n : Nat) (d : List AV → List Go.Eng.Frame → Tr Res) : List AV → List Go.Eng.Frame → Tr Res := cent (A_laws_big ([])) (U_laws_big ([])) (FH_laws_big n) O_laws_big d
theorem eo_laws_big (n : Nat) {d : List AV → List Go.Eng.Frame → Tr Res} (hd : ∀ ar up r, (d ar up).run = some r → runs KP lib n 26 ar up = some r) : ∀ ar up r, (E_laws_big n d ar up).run = some r → runs KP lib n 26 ar up = some r :=
  cent_ok (fun hs r h => by
    unfold FH_laws_big at h
    split at h
    · exact ⟨A_laws_big _, U_laws_big _, rfl, rfl, th_laws_big n _ r h⟩
    · cases h) hd
/-! ### spec.l1Open -/
def A_spec_l1Open (x0 : List (List PV)) : List AV := [(.c (.p (.ls x0)))]
def U_spec_l1Open (x0 : List (List PV)) : List Go.Eng.Frame := []
def O_spec_l1Open (r : (List (List PV)) × Int) : Res := ⟨(.c (.ptr 0 0 0 0 0)), [], [⟨0, 2, 133, (.box [(.p (.ls r.1)), (.p (.i .i64 r.2))])⟩]⟩
abbrev CT_spec_l1Open (n : Nat) : CTab := mkCT []
abbrev LT_spec_l1Open (n : Nat) : LTab := mkLT []
def T_spec_l1Open (n : Nat) (x0 : List (List PV)) : Tr ((List (List PV)) × Int) := (.done (x0, (0 : Int)))
def F_spec_l1Open : Nat → List (List PV) → Option ((List (List PV)) × Int)
  | 0, _ => none
  | n + 1, x0 => (T_spec_l1Open n x0).run
theorem ft_spec_l1Open (n : Nat) (x0 : List (List PV)) : funT (CT_spec_l1Open n) (LT_spec_l1Open n) K_spec_l1Open (A_spec_l1Open x0) (U_spec_l1Open x0) = (T_spec_l1Open n x0).bind fun r => .done (O_spec_l1Open r) := by kernel_rfl
theorem ct_spec_l1Open (n : Nat) : CTok (CT_spec_l1Open n) (runs KP lib n) := mkCT_nil
theorem th_spec_l1Open : ∀ (n : Nat) (x0 : List (List PV)) (r : (List (List PV)) × Int), F_spec_l1Open n x0 = some r → runs KP lib n 71 (A_spec_l1Open x0) (U_spec_l1Open x0) = some (O_spec_l1Open r)
  | 0, x0, r, h => by cases h
  | n + 1, x0, r, h => fun_step (kf := K_spec_l1Open) rfl (ct_spec_l1Open n) (noLoops rfl) (ft_spec_l1Open n x0) h
def FH_spec_l1Open (n : Nat) : Cont → Option ((List (List PV)) × Int)
  | ([[[.r x0]]], []) => F_spec_l1Open n x0
  | _ => none
def E_spec_l1Open (n : Nat) (d : List AV → List Go.Eng.Frame → Tr Res) : List AV → List Go.Eng.Frame → Tr Res := cent (A_spec_l1Open ([])) (U_spec_l1Open ([])) (FH_spec_l1Open n) O_spec_l1Open d
theorem eo_spec_l1Open (n : Nat) {d : List AV → List Go.Eng.Frame → Tr Res} (hd : ∀ ar up r, (d ar up).run = some r → runs KP lib n 71 ar up = some r) : ∀ ar up r, (E_spec_l1Open n d ar up).run = some r → runs KP lib n 71 ar up = some r :=
  cent_ok (fun hs r h => by
    unfold FH_spec_l1Open at h
    split at h
    · exact ⟨A_spec_l1Open _, U_spec_l1Open _, rfl, rfl, th_spec_l1Open n _ r h⟩
    · cases h) hd
/-! ### (*spec.l1Rd).next -/
def A_spec_l1Rd_next (x0 : List (List PV)) (x1 : Int) : List AV := [(.c (.ptr 0 0 0 0 0))]
def U_spec_l1Rd_next (x0 : List (List PV)) (x1 : Int) : List Go.Eng.Frame := [[(0, ⟨0, 2, 133, (.box [(.p (.ls x0)), (.p (.i .i64 x1))])⟩)]]
def O_spec_l1Rd_next (r : Int × (List (List PV)) × Int) : Res := ⟨(.c (.p (.i .i64 r.1))), [[(0, ⟨0, 2, 133, (.box [(.p (.ls r.2.1)), (.p (.i .i64 r.2.2))])⟩)]], []⟩
abbrev CT_spec_l1Rd_next (n : Nat) : CTab := mkCT []
abbrev LT_spec_l1Rd_next (n : Nat) : LTab := mkLT []
def T_spec_l1Rd_next (n : Nat) (x0 : List (List PV)) (x1 : Int) : Tr (Int × (List (List PV)) × Int) := (.ask ((decide (x1 ≥ (x0.length : Int)))) (.done ((0 : Int), x0, x1)) (.ask (decide (0 ≤ (IntKind.i64.wrap ((IntKind.i64.wrap (x1 + (1 : Int))) - (1 : Int))) ∧ (IntKind.i64.wrap ((IntKind.i64.wrap (x1 + (1 : Int))) - (1 : Int))) < x0.length)) (.opt (x0[((IntKind.i64.wrap ((IntKind.i64.wrap (x1 + (1 : Int))) - (1 : Int)))).toNat]?) fun e3 => (.ask (decide (e3.length = 1)) (.opt (cellI .u8 e3 0) fun y4 => (.done ((IntKind.i64.wrap y4), x0, (IntKind.i64.wrap (x1 + (1 : Int)))))) .fail)) .fail))
def F_spec_l1Rd_next : Nat → List (List PV) → Int → Option (Int × (List (List PV)) × Int)
  | 0, _, _ => none
  | n + 1, x0, x1 => (T_spec_l1Rd_next n x0 x1).run
theorem ft_spec_l1Rd_next (n : Nat) (x0 : List (List PV)) (x1 : Int) : funT (CT_spec_l1Rd_next n) (LT_spec_l1Rd_next n) K_spec_l1Rd_next (A_spec_l1Rd_next x0 x1) (U_spec_l1Rd_next x0 x1) = (T_spec_l1Rd_next n x0 x1).bind fun r => .done (O_spec_l1Rd_next r) := by kernel_rfl
theorem ct_spec_l1Rd_next (n : Nat) : CTok (CT_spec_l1Rd_next n) (runs KP lib n) := mkCT_nil
theorem th_spec_l1Rd_next : ∀ (n : Nat) (x0 : List (List PV)) (x1 : Int) (r : Int × (List (List PV)) × Int), F_spec_l1Rd_next n x0 x1 = some r → runs KP lib n 134 (A_spec_l1Rd_next x0 x1) (U_spec_l1Rd_next x0 x1) = some (O_spec_l1Rd_next r)
  | 0, x0, x1, r, h => by cases h
  | n + 1, x0, x1, r, h => fun_step (kf := K_spec_l1Rd_next) rfl (ct_spec_l1Rd_next n) (noLoops rfl) (ft_spec_l1Rd_next n x0 x1) h
def FH_spec_l1Rd_next (n : Nat) : Cont → Option (Int × (List (List PV)) × Int)
  | ([[[]]], [[[[.r x0], [.i x1]]]]) => F_spec_l1Rd_next n x0 x1
  | _ => none
def E_spec_l1Rd_next (n : Nat) (d : List AV → List Go.Eng.Frame → Tr Res) : List AV → List Go.Eng.Frame → Tr Res := cent (A_spec_l1Rd_next ([]) (0)) (U_spec_l1Rd_next ([]) (0)) (FH_spec_l1Rd_next n) O_spec_l1Rd_next d
theorem eo_spec_l1Rd_next (n : Nat) {d : List AV → List Go.Eng.Frame → Tr Res} (hd : ∀ ar up r, (d ar up).run = some r → runs KP lib n 134 ar up = some r) : ∀ ar up r, (E_spec_l1Rd_next n d ar up).run = some r → runs KP lib n 134 ar up = some r :=
  cent_ok (fun hs r h => by
    unfold FH_spec_l1Rd_next at h
    split at h
    · exact ⟨A_spec_l1Rd_next _ _, U_spec_l1Rd_next _ _, rfl, rfl, th_spec_l1Rd_next n _ _ r h⟩
    · cases h) hd
/-! ### (*spec.l1Rd).below -/
def A_spec_l1Rd_below (x0 : Int) (x1 : List (List PV)) (x2 : Int) : List AV := [(.c (.ptr 0 0 0 0 0)), (.c (.p (.i .i64 x0)))]
def U_spec_l1Rd_below (x0 : Int) (x1 : List (List PV)) (x2 : Int) : List Go.Eng.Frame := [[(0, ⟨0, 2, 133, (.box [(.p (.ls x1)), (.p (.i .i64 x2))])⟩)]]
def O_spec_l1Rd_below (r : Int × (List (List PV)) × Int) : Res := ⟨(.c (.p (.i .i64 r.1))), [[(0, ⟨0, 2, 133, (.box [(.p (.ls r.2.1)), (.p (.i .i64 r.2.2))])⟩)]], []⟩
abbrev CT_spec_l1Rd_below (n : Nat) : CTab := mkCT [(134, E_spec_l1Rd_next n (noEnt))]
abbrev LT_spec_l1Rd_below (n : Nat) : LTab := mkLT []
def T_spec_l1Rd_below (n : Nat) (x0 : Int) (x1 : List (List PV)) (x2 : Int) : Tr (Int × (List (List PV)) × Int) := (.ask ((decide (x0 ≤ (1 : Int)))) (.done ((0 : Int), x1, x2)) (.ask ((decide (x0 ≤ (256 : Int)))) (.opt (F_spec_l1Rd_next n x1 x2) fun r5 => (.ask (decide (x0 = 0)) .fail (.done ((Int.tmod r5.1 x0), r5.2.1, r5.2.2)))) (.opt (F_spec_l1Rd_next n x1 x2) fun r6 => (.opt (F_spec_l1Rd_next n r6.2.1 r6.2.2) fun r7 => (.ask (decide (x0 = 0)) .fail (.done ((Int.tmod (IntKind.i64.wrap ((IntKind.i64.wrap (r6.1 * (256 : Int))) + r7.1)) x0), r7.2.1, r7.2.2)))))))
def F_spec_l1Rd_below : Nat → Int → List (List PV) → Int → Option (Int × (List (List PV)) × Int)
  | 0, _, _, _ => none
  | n + 1, x0, x1, x2 => (T_spec_l1Rd_below n x0 x1 x2).run
theorem ft_spec_l1Rd_below (n : Nat) (x0 : Int) (x1 : List (List PV)) (x2 : Int) : funT (CT_spec_l1Rd_below n) (LT_spec_l1Rd_below n) K_spec_l1Rd_below (A_spec_l1Rd_below x0 x1 x2) (U_spec_l1Rd_below x0 x1 x2) = (T_spec_l1Rd_below n x0 x1 x2).bind fun r => .done (O_spec_l1Rd_below r) := by kernel_rfl
theorem ct_spec_l1Rd_below (n : Nat) : CTok (CT_spec_l1Rd_below n) (runs KP lib n) := mkCT_cons (eo_spec_l1Rd_next n (noEnt_ok)) (mkCT_nil)
theorem th_spec_l1Rd_below : ∀ (n : Nat) (x0 : Int) (x1 : List (List PV)) (x2 : Int) (r : Int × (List (List PV)) × Int), F_spec_l1Rd_below n x0 x1 x2 = some r → runs KP lib n 127 (A_spec_l1Rd_below x0 x1 x2) (U_spec_l1Rd_below x0 x1 x2) = some (O_spec_l1Rd_below r)
  | 0, x0, x1, x2, r, h => by cases h
  | n + 1, x0, x1, x2, r, h => fun_step (kf := K_spec_l1Rd_below) rfl (ct_spec_l1Rd_below n) (noLoops rfl) (ft_spec_l1Rd_below n x0 x1 x2) h
def FH_spec_l1Rd_below (n : Nat) : Cont → Option (Int × (List (List PV)) × Int)
  | ([[[]], [[.i x0]]], [[[[.r x1], [.i x2]]]]) => F_spec_l1Rd_below n x0 x1 x2
  | _ => none
def E_spec_l1Rd_below (n : Nat) (d : List AV → List Go.Eng.Frame → Tr Res) : List AV → List Go.Eng.Frame → Tr Res := cent (A_spec_l1Rd_below (0) ([]) (0)) (U_spec_l1Rd_below (0) ([]) (0)) (FH_spec_l1Rd_below n) O_spec_l1Rd_below d
theorem eo_spec_l1Rd_below (n : Nat) {d : List AV → List Go.Eng.Frame → Tr Res} (hd : ∀ ar up r, (d ar up).run = some r → runs KP lib n 127 ar up = some r) : ∀ ar up r, (E_spec_l1Rd_below n d ar up).run = some r → runs KP lib n 127 ar up = some r :=
  cent_ok (fun hs r h => by
    unfold FH_spec_l1Rd_below at h
    split at h
    · exact ⟨A_spec_l1Rd_below _ _ _, U_spec_l1Rd_below _ _ _, rfl, rfl, th_spec_l1Rd_below n _ _ _ r h⟩
    · cases h) hd
/-! ### (*spec.l1Rd).ref -/
def A_spec_l1Rd_ref (x0 : List (List PV)) (x1 : Int) : List AV := [(.c (.ptr 0 0 0 0 0))]
def U_spec_l1Rd_ref (x0 : List (List PV)) (x1 : Int) : List Go.Eng.Frame := [[(0, ⟨0, 2, 133, (.box [(.p (.ls x0)), (.p (.i .i64 x1))])⟩)]]
def O_spec_l1Rd_ref (r : Int × Int × (List (List PV)) × Int) : Res := ⟨(.agg [(.p (.i .i64 r.1)), (.p (.i .i64 r.2.1))]), [[(0, ⟨0, 2, 133, (.box [(.p (.ls r.2.2.1)), (.p (.i .i64 r.2.2.2))])⟩)]], []⟩
abbrev CT_spec_l1Rd_ref (n : Nat) : CTab := mkCT [(127, E_spec_l1Rd_below n (noEnt))]
abbrev LT_spec_l1Rd_ref (n : Nat) : LTab := mkLT []
def T_spec_l1Rd_ref (n : Nat) (x0 : List (List PV)) (x1 : Int) : Tr (Int × Int × (List (List PV)) × Int) := (.opt (F_spec_l1Rd_below n (3 : Int) x0 x1) fun r8 => (.opt (F_spec_l1Rd_below n (4 : Int) r8.2.1 r8.2.2) fun r9 => (.done ((IntKind.i64.wrap ((1 : Int) + r8.1)), (IntKind.i64.wrap ((1 : Int) + r9.1)), r9.2.1, r9.2.2))))
def F_spec_l1Rd_ref : Nat → List (List PV) → Int → Option (Int × Int × (List (List PV)) × Int)
  | 0, _, _ => none
  | n + 1, x0, x1 => (T_spec_l1Rd_ref n x0 x1).run
theorem ft_spec_l1Rd_ref (n : Nat) (x0 : List (List PV)) (x1 : Int) : funT (CT_spec_l1Rd_ref n) (LT_spec_l1Rd_ref n) K_spec_l1Rd_ref (A_spec_l1Rd_ref x0 x1) (U_spec_l1Rd_ref x0 x1) = (T_spec_l1Rd_ref n x0 x1).bind fun r => .done (O_spec_l1Rd_ref r) := by kernel_rfl
theorem ct_spec_l1Rd_ref (n : Nat) : CTok (CT_spec_l1Rd_ref n) (runs KP lib n) := mkCT_cons (eo_spec_l1Rd_below n (noEnt_ok)) (mkCT_nil)
theorem th_spec_l1Rd_ref : ∀ (n : Nat) (x0 : List (List PV)) (x1 : Int) (r : Int × Int × (List (List PV)) × Int), F_spec_l1Rd_ref n x0 x1 = some r → runs KP lib n 106 (A_spec_l1Rd_ref x0 x1) (U_spec_l1Rd_ref x0 x1) = some (O_spec_l1Rd_ref r)
  | 0, x0, x1, r, h => by cases h
  | n + 1, x0, x1, r, h => fun_step (kf := K_spec_l1Rd_ref) rfl (ct_spec_l1Rd_ref n) (noLoops rfl) (ft_spec_l1Rd_ref n x0 x1) h
def FH_spec_l1Rd_ref (n : Nat) : Cont → Option (Int × Int × (List (List PV)) × Int)
  | ([[[]]], [[[[.r x0], [.i x1]]]]) => F_spec_l1Rd_ref n x0 x1
  | _ => none
def E_spec_l1Rd_ref (n : Nat) (d : List AV → List Go.Eng.Frame → Tr Res) : List AV → List Go.Eng.Frame → Tr Res := cent (A_spec_l1Rd_ref ([]) (0)) (U_spec_l1Rd_ref ([]) (0)) (FH_spec_l1Rd_ref n) O_spec_l1Rd_ref d
theorem eo_spec_l1Rd_ref (n : Nat) {d : List AV → List Go.Eng.Frame → Tr Res} (hd : ∀ ar up r, (d ar up).run = some r → runs KP lib n 106 ar up = some r) : ∀ ar up r, (E_spec_l1Rd_ref n d ar up).run = some r → runs KP lib n 106 ar up = some r :=
  cent_ok (fun hs r h => by
    unfold FH_spec_l1Rd_ref at h
    split at h
    · exact ⟨A_spec_l1Rd_ref _ _, U_spec_l1Rd_ref _ _, rfl, rfl, th_spec_l1Rd_ref n _ _ r h⟩
    · cases h) hd
/-! ### (*spec.l1Rd).once -/
def A_spec_l1Rd_once (x0 : Int) (x1 : List (List PV)) (x2 : Int) : List AV := [(.c (.ptr 0 0 0 0 0)), (.c (.p (.i .i64 x0)))]
def U_spec_l1Rd_once (x0 : Int) (x1 : List (List PV)) (x2 : Int) : List Go.Eng.Frame := [[(0, ⟨0, 2, 133, (.box [(.p (.ls x1)), (.p (.i .i64 x2))])⟩)]]
def O_spec_l1Rd_once (r : Bool × (List (List PV)) × Int) : Res := ⟨(.c (.p (.b r.1))), [[(0, ⟨0, 2, 133, (.box [(.p (.ls r.2.1)), (.p (.i .i64 r.2.2))])⟩)]], []⟩
abbrev CT_spec_l1Rd_once (n : Nat) : CTab := mkCT [(127, E_spec_l1Rd_below n (noEnt))]
abbrev LT_spec_l1Rd_once (n : Nat) : LTab := mkLT []
def T_spec_l1Rd_once (n : Nat) (x0 : Int) (x1 : List (List PV)) (x2 : Int) : Tr (Bool × (List (List PV)) × Int) := (.opt (F_spec_l1Rd_below n x0 x1 x2) fun r12 => (.done ((r12.1 == (IntKind.i64.wrap (x0 - (1 : Int)))), r12.2.1, r12.2.2)))
def F_spec_l1Rd_once : Nat → Int → List (List PV) → Int → Option (Bool × (List (List PV)) × Int)
  | 0, _, _, _ => none
  | n + 1, x0, x1, x2 => (T_spec_l1Rd_once n x0 x1 x2).run
theorem ft_spec_l1Rd_once (n : Nat) (x0 : Int) (x1 : List (List PV)) (x2 : Int) : funT (CT_spec_l1Rd_once n) (LT_spec_l1Rd_once n) K_spec_l1Rd_once (A_spec_l1Rd_once x0 x1 x2) (U_spec_l1Rd_once x0 x1 x2) = (T_spec_l1Rd_once n x0 x1 x2).bind fun r => .done (O_spec_l1Rd_once r) := by kernel_rfl
theorem ct_spec_l1Rd_once (n : Nat) : CTok (CT_spec_l1Rd_once n) (runs KP lib n) := mkCT_cons (eo_spec_l1Rd_below n (noEnt_ok)) (mkCT_nil)
theorem th_spec_l1Rd_once : ∀ (n : Nat) (x0 : Int) (x1 : List (List PV)) (x2 : Int) (r : Bool × (List (List PV)) × Int), F_spec_l1Rd_once n x0 x1 x2 = some r → runs KP lib n 107 (A_spec_l1Rd_once x0 x1 x2) (U_spec_l1Rd_once x0 x1 x2) = some (O_spec_l1Rd_once r)
  | 0, x0, x1, x2, r, h => by cases h
  | n + 1, x0, x1, x2, r, h => fun_step (kf := K_spec_l1Rd_once) rfl (ct_spec_l1Rd_once n) (noLoops rfl) (ft_spec_l1Rd_once n x0 x1 x2) h
def FH_spec_l1Rd_once (n : Nat) : Cont → Option (Bool × (List (List PV)) × Int)
  | ([[[]], [[.i x0]]], [[[[.r x1], [.i x2]]]]) => F_spec_l1Rd_once n x0 x1 x2
  | _ => none
def E_spec_l1Rd_once (n : Nat) (d : List AV → List Go.Eng.Frame → Tr Res) : List AV → List Go.Eng.Frame → Tr Res := cent (A_spec_l1Rd_once (0) ([]) (0)) (U_spec_l1Rd_once (0) ([]) (0)) (FH_spec_l1Rd_once n) O_spec_l1Rd_once d
theorem eo_spec_l1Rd_once (n : Nat) {d : List AV → List Go.Eng.Frame → Tr Res} (hd : ∀ ar up r, (d ar up).run = some r → runs KP lib n 107 ar up = some r) : ∀ ar up r, (E_spec_l1Rd_once n d ar up).run = some r → runs KP lib n 107 ar up = some r :=
  cent_ok (fun hs r h => by
    unfold FH_spec_l1Rd_once at h
    split at h
    · exact ⟨A_spec_l1Rd_once _ _ _, U_spec_l1Rd_once _ _ _, rfl, rfl, th_spec_l1Rd_once n _ _ _ r h⟩
    · cases h) hd
/-! ### (*spec.l1Rd).word -/
def A_spec_l1Rd_word (x0 : List (List PV)) (x1 : Int) : List AV := [(.c (.ptr 0 0 0 0 0))]
def U_spec_l1Rd_word (x0 : List (List PV)) (x1 : Int) : List Go.Eng.Frame := [[(0, ⟨0, 2, 133, (.box [(.p (.ls x0)), (.p (.i .i64 x1))])⟩)]]
def O_spec_l1Rd_word (r : Int × (List (List PV)) × Int) : Res := ⟨(.c (.p (.i .u64 r.1))), [[(0, ⟨0, 2, 133, (.box [(.p (.ls r.2.1)), (.p (.i .i64 r.2.2))])⟩)]], []⟩
abbrev CT_spec_l1Rd_word (n : Nat) : CTab := mkCT [(134, E_spec_l1Rd_next n (noEnt))]
def S_spec_l1Rd_word_29 (v : Int × Int × (List (List PV)) × Int) : St := ⟨[(0, (.c (.ptr 0 0 0 0 0))), (3, (.c (.p (.i .u64 v.1)))), (4, (.c (.p (.i .i64 v.2.1))))], [], [[(0, ⟨0, 2, 133, (.box [(.p (.ls v.2.2.1)), (.p (.i .i64 v.2.2.2))])⟩)]]⟩
def B_spec_l1Rd_word_29 (n : Nat) (v : Int × Int × (List (List PV)) × Int) : Tr ((Int × Int × (List (List PV)) × Int) ⊕ ((Int × (List (List PV)) × Int))) := (.ask ((decide (v.2.1 < (8 : Int)))) (.opt (F_spec_l1Rd_next n v.2.2.1 v.2.2.2) fun r19 => (.done (.inl ((IntKind.u64.wrap ((BitVec.ofInt IntKind.u64.bits (IntKind.u64.wrap (v.1 * (2 : Int) ^ (8 : Nat))) ||| BitVec.ofInt IntKind.u64.bits (IntKind.u64.wrap r19.1)).toNat : Int)), (IntKind.i64.wrap (v.2.1 + (1 : Int))), r19.2.1, r19.2.2)))) (.done (.inr ((v.1, v.2.2.1, v.2.2.2)))))
def D_spec_l1Rd_word_29 : (Int × (List (List PV)) × Int) → Ex × St := fun r => ((.exit 0), ⟨[(3, (.c (.p (.i .u64 r.1))))], [], [[(0, ⟨0, 2, 133, (.box [(.p (.ls r.2.1)), (.p (.i .i64 r.2.2))])⟩)]]⟩)
def DT_spec_l1Rd_word_29 : (Int × (List (List PV)) × Int) → Tr (Ex × St) := fun r => .done ((.exit 0), ⟨[(3, (.c (.p (.i .u64 r.1))))], [], [[(0, ⟨0, 2, 133, (.box [(.p (.ls r.2.1)), (.p (.i .i64 r.2.2))])⟩)]]⟩)
def VH_spec_l1Rd_word_29 : Cont3 → Option (Int × Int × (List (List PV)) × Int)
  | ([[[]], [[.i w0]], [[.i w1]]], [], [[[[.r w2], [.i w3]]]]) => some (w0, w1, w2, w3)
  | _ => none
abbrev LE_spec_l1Rd_word_29 (n : Nat) : St → Tr (Ex × St) := lent (S_spec_l1Rd_word_29 (0, 0, [], 0)) VH_spec_l1Rd_word_29 (B_spec_l1Rd_word_29 n) DT_spec_l1Rd_word_29 n
abbrev LT_spec_l1Rd_word (n : Nat) : LTab := mkLT [(29, LE_spec_l1Rd_word_29 n)]
def T_spec_l1Rd_word (n : Nat) (x0 : List (List PV)) (x1 : Int) : Tr (Int × (List (List PV)) × Int) := (.opt (loopF (B_spec_l1Rd_word_29 n) n ((0 : Int), (0 : Int), x0, x1)) fun r20 => (.done (r20.1, r20.2.1, r20.2.2)))
def F_spec_l1Rd_word : Nat → List (List PV) → Int → Option (Int × (List (List PV)) × Int)
  | 0, _, _ => none
  | n + 1, x0, x1 => (T_spec_l1Rd_word n x0 x1).run
theorem ft_spec_l1Rd_word (n : Nat) (x0 : List (List PV)) (x1 : Int) : funT (CT_spec_l1Rd_word n) (LT_spec_l1Rd_word n) K_spec_l1Rd_word (A_spec_l1Rd_word x0 x1) (U_spec_l1Rd_word x0 x1) = (T_spec_l1Rd_word n x0 x1).bind fun r => .done (O_spec_l1Rd_word r) := by kernel_rfl
theorem ct_spec_l1Rd_word (n : Nat) : CTok (CT_spec_l1Rd_word n) (runs KP lib n) := mkCT_cons (eo_spec_l1Rd_next n (noEnt_ok)) (mkCT_nil)
theorem lt_spec_l1Rd_word_29 (n : Nat) (v : Int × Int × (List (List PV)) × Int) : (evalCT (CT_spec_l1Rd_word n) (mkLT []) K_spec_l1Rd_word_L29 (S_spec_l1Rd_word_29 v) []).bind (ltail [0, 3, 4] [(.ret, [2]), ((.exit 0), [3])]) = (B_spec_l1Rd_word_29 n v).bind (lenc S_spec_l1Rd_word_29 D_spec_l1Rd_word_29) := by
  obtain ⟨w0, w1, w2, w3⟩ := v
  kernel_rfl
theorem le_spec_l1Rd_word_29 (n : Nat) : LEok (runs KP lib n) n (29, [0, 3, 4], [(.ret, [2]), ((.exit 0), [3])], K_spec_l1Rd_word_L29) (LE_spec_l1Rd_word_29 n) := fun st e s h =>
  lent_ok (ct_spec_l1Rd_word n) (noLoops rfl) (lt_spec_l1Rd_word_29 n) (fun r h => by cases h) (fun r y h => by cases h; rfl) (fun hs v h => by
    unfold VH_spec_l1Rd_word_29 at h
    split at h <;> cases h
    rfl) h
theorem lo_spec_l1Rd_word (n : Nat) : LTok (LT_spec_l1Rd_word n) (runs KP lib n) n K_spec_l1Rd_word.body := mkLT_ok (by
  intro x hx
  have hx : x ∈ ([(29, [0, 3, 4], [(.ret, [2]), ((.exit 0), [3])], K_spec_l1Rd_word_L29)] : List (Nat × List Nat × List (Ex × List Nat) × KCode)) := hx
  simp only [List.mem_cons, List.not_mem_nil, or_false] at hx
  rcases hx with rfl
  · exact ⟨LE_spec_l1Rd_word_29 n, fun st => rfl, le_spec_l1Rd_word_29 n⟩)
theorem th_spec_l1Rd_word : ∀ (n : Nat) (x0 : List (List PV)) (x1 : Int) (r : Int × (List (List PV)) × Int), F_spec_l1Rd_word n x0 x1 = some r → runs KP lib n 135 (A_spec_l1Rd_word x0 x1) (U_spec_l1Rd_word x0 x1) = some (O_spec_l1Rd_word r)
  | 0, x0, x1, r, h => by cases h
  | n + 1, x0, x1, r, h => fun_step (kf := K_spec_l1Rd_word) rfl (ct_spec_l1Rd_word n) (lo_spec_l1Rd_word n) (ft_spec_l1Rd_word n x0 x1) h
def FH_spec_l1Rd_word (n : Nat) : Cont → Option (Int × (List (List PV)) × Int)
  | ([[[]]], [[[[.r x0], [.i x1]]]]) => F_spec_l1Rd_word n x0 x1
  | _ => none
def E_spec_l1Rd_word (n : Nat) (d : List AV → List Go.Eng.Frame → Tr Res) : List AV → List Go.Eng.Frame → Tr Res := cent (A_spec_l1Rd_word ([]) (0)) (U_spec_l1Rd_word ([]) (0)) (FH_spec_l1Rd_word n) O_spec_l1Rd_word d
theorem eo_spec_l1Rd_word (n : Nat) {d : List AV → List Go.Eng.Frame → Tr Res} (hd : ∀ ar up r, (d ar up).run = some r → runs KP lib n 135 ar up = some r) : ∀ ar up r, (E_spec_l1Rd_word n d ar up).run = some r → runs KP lib n 135 ar up = some r :=
  cent_ok (fun hs r h => by
    unfold FH_spec_l1Rd_word at h
    split at h
    · exact ⟨A_spec_l1Rd_word _ _, U_spec_l1Rd_word _ _, rfl, rfl, th_spec_l1Rd_word n _ _ r h⟩
    · cases h) hd
/-! ### (*spec.l1Rd).near -/
def A_spec_l1Rd_near (x0 : Int) (x1 : Int) (x2 : List (List PV)) (x3 : Int) : List AV := [(.c (.ptr 0 0 0 0 0)), (.c (.p (.i .i64 x0))), (.c (.p (.i .i64 x1)))]
def U_spec_l1Rd_near (x0 : Int) (x1 : Int) (x2 : List (List PV)) (x3 : Int) : List Go.Eng.Frame := [[(0, ⟨0, 2, 133, (.box [(.p (.ls x2)), (.p (.i .i64 x3))])⟩)]]
def O_spec_l1Rd_near (r : Int × (List (List PV)) × Int) : Res := ⟨(.c (.p (.i .i64 r.1))), [[(0, ⟨0, 2, 133, (.box [(.p (.ls r.2.1)), (.p (.i .i64 r.2.2))])⟩)]], []⟩
abbrev CT_spec_l1Rd_near (n : Nat) : CTab := mkCT [(127, E_spec_l1Rd_below n (noEnt)), (135, E_spec_l1Rd_word n (noEnt))]
abbrev LT_spec_l1Rd_near (n : Nat) : LTab := mkLT []
def T_spec_l1Rd_near (n : Nat) (x0 : Int) (x1 : Int) (x2 : List (List PV)) (x3 : Int) : Tr (Int × (List (List PV)) × Int) := (.opt (F_spec_l1Rd_below n (8 : Int) x2 x3) fun r18 => (.ask ((r18.1 == (0 : Int))) (.done (x0, r18.2.1, r18.2.2)) (.ask ((r18.1 == (1 : Int))) (.done (x1, r18.2.1, r18.2.2)) (.ask ((decide (x1 < x0))) (.done (x0, r18.2.1, r18.2.2)) (.opt (F_spec_l1Rd_word n r18.2.1 r18.2.2) fun r21 => (.ask (decide ((IntKind.u64.wrap (IntKind.i64.wrap ((IntKind.i64.wrap (x1 - x0)) + (1 : Int)))) = 0)) .fail (.done ((IntKind.i64.wrap (x0 + (IntKind.i64.wrap (Int.tmod (Int.fdiv r21.1 ((2 : Int) ^ (1 : Nat))) (IntKind.u64.wrap (IntKind.i64.wrap ((IntKind.i64.wrap (x1 - x0)) + (1 : Int)))))))), r21.2.1, r21.2.2))))))))
def F_spec_l1Rd_near : Nat → Int → Int → List (List PV) → Int → Option (Int × (List (List PV)) × Int)
  | 0, _, _, _, _ => none
  | n + 1, x0, x1, x2, x3 => (T_spec_l1Rd_near n x0 x1 x2 x3).run
theorem ft_spec_l1Rd_near (n : Nat) (x0 : Int) (x1 : Int) (x2 : List (List PV)) (x3 : Int) : funT (CT_spec_l1Rd_near n) (LT_spec_l1Rd_near n) K_spec_l1Rd_near (A_spec_l1Rd_near x0 x1 x2 x3) (U_spec_l1Rd_near x0 x1 x2 x3) = (T_spec_l1Rd_near n x0 x1 x2 x3).bind fun r => .done (O_spec_l1Rd_near r) := by kernel_rfl
theorem ct_spec_l1Rd_near (n : Nat) : CTok (CT_spec_l1Rd_near n) (runs KP lib n) := mkCT_cons (eo_spec_l1Rd_below n (noEnt_ok)) (mkCT_cons (eo_spec_l1Rd_word n (noEnt_ok)) (mkCT_nil))
theorem th_spec_l1Rd_near : ∀ (n : Nat) (x0 : Int) (x1 : Int) (x2 : List (List PV)) (x3 : Int) (r : Int × (List (List PV)) × Int), F_spec_l1Rd_near n x0 x1 x2 x3 = some r → runs KP lib n 128 (A_spec_l1Rd_near x0 x1 x2 x3) (U_spec_l1Rd_near x0 x1 x2 x3) = some (O_spec_l1Rd_near r)
  | 0, x0, x1, x2, x3, r, h => by cases h
  | n + 1, x0, x1, x2, x3, r, h => fun_step (kf := K_spec_l1Rd_near) rfl (ct_spec_l1Rd_near n) (noLoops rfl) (ft_spec_l1Rd_near n x0 x1 x2 x3) h
def FH_spec_l1Rd_near (n : Nat) : Cont → Option (Int × (List (List PV)) × Int)
  | ([[[]], [[.i x0]], [[.i x1]]], [[[[.r x2], [.i x3]]]]) => F_spec_l1Rd_near n x0 x1 x2 x3
  | _ => none
def E_spec_l1Rd_near (n : Nat) (d : List AV → List Go.Eng.Frame → Tr Res) : List AV → List Go.Eng.Frame → Tr Res := cent (A_spec_l1Rd_near (0) (0) ([]) (0)) (U_spec_l1Rd_near (0) (0) ([]) (0)) (FH_spec_l1Rd_near n) O_spec_l1Rd_near d
theorem eo_spec_l1Rd_near (n : Nat) {d : List AV → List Go.Eng.Frame → Tr Res} (hd : ∀ ar up r, (d ar up).run = some r → runs KP lib n 128 ar up = some r) : ∀ ar up r, (E_spec_l1Rd_near n d ar up).run = some r → runs KP lib n 128 ar up = some r :=
  cent_ok (fun hs r h => by
    unfold FH_spec_l1Rd_near at h
    split at h
    · exact ⟨A_spec_l1Rd_near _ _ _ _, U_spec_l1Rd_near _ _ _ _, rfl, rfl, th_spec_l1Rd_near n _ _ _ _ r h⟩
    · cases h) hd
/-! ### (*spec.l1Rd).off -/
def A_spec_l1Rd_off (x0 : Int) (x1 : Int) (x2 : List (List PV)) (x3 : Int) : List AV := [(.c (.ptr 0 0 0 0 0)), (.c (.p (.i .i64 x0))), (.c (.p (.i .i64 x1)))]
def U_spec_l1Rd_off (x0 : Int) (x1 : Int) (x2 : List (List PV)) (x3 : Int) : List Go.Eng.Frame := [[(0, ⟨0, 2, 133, (.box [(.p (.ls x2)), (.p (.i .i64 x3))])⟩)]]
def O_spec_l1Rd_off (r : Int × (List (List PV)) × Int) : Res := ⟨(.c (.p (.i .i64 r.1))), [[(0, ⟨0, 2, 133, (.box [(.p (.ls r.2.1)), (.p (.i .i64 r.2.2))])⟩)]], []⟩
abbrev CT_spec_l1Rd_off (n : Nat) : CTab := mkCT [(107, E_spec_l1Rd_once n (noEnt)), (127, E_spec_l1Rd_below n (noEnt)), (128, E_spec_l1Rd_near n (noEnt))]
abbrev LT_spec_l1Rd_off (n : Nat) : LTab := mkLT []
def T_spec_l1Rd_off (n : Nat) (x0 : Int) (x1 : Int) (x2 : List (List PV)) (x3 : Int) : Tr (Int × (List (List PV)) × Int) := (.opt (F_spec_l1Rd_once n (24 : Int) x2 x3) fun r14 => (.ask (r14.1) (.opt (F_spec_l1Rd_below n (4 : Int) r14.2.1 r14.2.2) fun r15 => (.ask (decide (4 = ([[(.i .i64 (IntKind.i64.wrap (x0 - (1 : Int))))], [(.i .i64 (IntKind.i64.wrap (x1 + (1 : Int))))], [(.i .i64 (-9223372036854775808 : Int))], [(.i .i64 (9223372036854775807 : Int))]] : List (List PV)).length ∧ 0 ≤ r15.1 ∧ r15.1 < ((4 : Nat) : Int))) (.opt (([[(.i .i64 (IntKind.i64.wrap (x0 - (1 : Int))))], [(.i .i64 (IntKind.i64.wrap (x1 + (1 : Int))))], [(.i .i64 (-9223372036854775808 : Int))], [(.i .i64 (9223372036854775807 : Int))]] : List (List PV))[(r15.1).toNat]?) fun e16 => (.opt (cellI .i64 e16 0) fun y17 => (.done (y17, r15.2.1, r15.2.2)))) .fail)) (.opt (F_spec_l1Rd_near n x0 x1 r14.2.1 r14.2.2) fun r22 => (.done (r22.1, r22.2.1, r22.2.2)))))
def F_spec_l1Rd_off : Nat → Int → Int → List (List PV) → Int → Option (Int × (List (List PV)) × Int)
  | 0, _, _, _, _ => none
  | n + 1, x0, x1, x2, x3 => (T_spec_l1Rd_off n x0 x1 x2 x3).run
theorem ft_spec_l1Rd_off (n : Nat) (x0 : Int) (x1 : Int) (x2 : List (List PV)) (x3 : Int) : funT (CT_spec_l1Rd_off n) (LT_spec_l1Rd_off n) K_spec_l1Rd_off (A_spec_l1Rd_off x0 x1 x2 x3) (U_spec_l1Rd_off x0 x1 x2 x3) = (T_spec_l1Rd_off n x0 x1 x2 x3).bind fun r => .done (O_spec_l1Rd_off r) := by kernel_rfl
theorem ct_spec_l1Rd_off (n : Nat) : CTok (CT_spec_l1Rd_off n) (runs KP lib n) := mkCT_cons (eo_spec_l1Rd_once n (noEnt_ok)) (mkCT_cons (eo_spec_l1Rd_below n (noEnt_ok)) (mkCT_cons (eo_spec_l1Rd_near n (noEnt_ok)) (mkCT_nil)))
theorem th_spec_l1Rd_off : ∀ (n : Nat) (x0 : Int) (x1 : Int) (x2 : List (List PV)) (x3 : Int) (r : Int × (List (List PV)) × Int), F_spec_l1Rd_off n x0 x1 x2 x3 = some r → runs KP lib n 108 (A_spec_l1Rd_off x0 x1 x2 x3) (U_spec_l1Rd_off x0 x1 x2 x3) = some (O_spec_l1Rd_off r)
  | 0, x0, x1, x2, x3, r, h => by cases h
  | n + 1, x0, x1, x2, x3, r, h => fun_step (kf := K_spec_l1Rd_off) rfl (ct_spec_l1Rd_off n) (noLoops rfl) (ft_spec_l1Rd_off n x0 x1 x2 x3) h
def FH_spec_l1Rd_off (n : Nat) : Cont → Option (Int × (List (List PV)) × Int)
  | ([[[]], [[.i x0]], [[.i x1]]], [[[[.r x2], [.i x3]]]]) => F_spec_l1Rd_off n x0 x1 x2 x3
  | _ => none
def E_spec_l1Rd_off (n : Nat) (d : List AV → List Go.Eng.Frame → Tr Res) : List AV → List Go.Eng.Frame → Tr Res := cent (A_spec_l1Rd_off (0) (0) ([]) (0)) (U_spec_l1Rd_off (0) (0) ([]) (0)) (FH_spec_l1Rd_off n) O_spec_l1Rd_off d
theorem eo_spec_l1Rd_off (n : Nat) {d : List AV → List Go.Eng.Frame → Tr Res} (hd : ∀ ar up r, (d ar up).run = some r → runs KP lib n 108 ar up = some r) : ∀ ar up r, (E_spec_l1Rd_off n d ar up).run = some r → runs KP lib n 108 ar up = some r :=
  cent_ok (fun hs r h => by
    unfold FH_spec_l1Rd_off at h
    split at h
    · exact ⟨A_spec_l1Rd_off _ _ _ _, U_spec_l1Rd_off _ _ _ _, rfl, rfl, th_spec_l1Rd_off n _ _ _ _ r h⟩
    · cases h) hd
/-! ### (*spec.l1Rd).area -/
def A_spec_l1Rd_area (x0 : List (List PV)) (x1 : Int) : List AV := [(.c (.ptr 0 0 0 0 0))]
def U_spec_l1Rd_area (x0 : List (List PV)) (x1 : Int) : List Go.Eng.Frame := [[(0, ⟨0, 2, 133, (.box [(.p (.ls x0)), (.p (.i .i64 x1))])⟩)]]
def O_spec_l1Rd_area (r : Int × Int × Int × Int × (List (List PV)) × Int) : Res := ⟨(.agg [(.p (.i .i64 r.1)), (.p (.i .i64 r.2.1)), (.p (.i .i64 r.2.2.1)), (.p (.i .i64 r.2.2.2.1))]), [[(0, ⟨0, 2, 133, (.box [(.p (.ls r.2.2.2.2.1)), (.p (.i .i64 r.2.2.2.2.2))])⟩)]], []⟩
abbrev CT_spec_l1Rd_area (n : Nat) : CTab := mkCT [(106, E_spec_l1Rd_ref n (noEnt)), (107, E_spec_l1Rd_once n (noEnt)), (108, E_spec_l1Rd_off n (noEnt))]
abbrev LT_spec_l1Rd_area (n : Nat) : LTab := mkLT []
def T_spec_l1Rd_area (n : Nat) (x0 : List (List PV)) (x1 : Int) : Tr (Int × Int × Int × Int × (List (List PV)) × Int) := (.opt (F_spec_l1Rd_ref n x0 x1) fun r10 => (.opt (F_spec_l1Rd_ref n r10.2.2.1 r10.2.2.2) fun r11 => (.opt (F_spec_l1Rd_once n (20 : Int) r11.2.2.1 r11.2.2.2) fun r13 => (.ask (r13.1) (.opt (F_spec_l1Rd_off n (1 : Int) (99 : Int) r13.2.1 r13.2.2) fun r23 => (.done ((if r11.1 < r10.1 then r11.1 else r10.1), (if r11.2.1 < r10.2.1 then r11.2.1 else r10.2.1), (if r11.1 > r10.1 then r11.1 else r10.1), r23.1, r23.2.1, r23.2.2))) (.done ((if r11.1 < r10.1 then r11.1 else r10.1), (if r11.2.1 < r10.2.1 then r11.2.1 else r10.2.1), (if r11.1 > r10.1 then r11.1 else r10.1), (if r11.2.1 > r10.2.1 then r11.2.1 else r10.2.1), r13.2.1, r13.2.2))))))
def F_spec_l1Rd_area : Nat → List (List PV) → Int → Option (Int × Int × Int × Int × (List (List PV)) × Int)
  | 0, _, _ => none
  | n + 1, x0, x1 => (T_spec_l1Rd_area n x0 x1).run
theorem ft_spec_l1Rd_area (n : Nat) (x0 : List (List PV)) (x1 : Int) : funT (CT_spec_l1Rd_area n) (LT_spec_l1Rd_area n) K_spec_l1Rd_area (A_spec_l1Rd_area x0 x1) (U_spec_l1Rd_area x0 x1) = (T_spec_l1Rd_area n x0 x1).bind fun r => .done (O_spec_l1Rd_area r) := by kernel_rfl
theorem ct_spec_l1Rd_area (n : Nat) : CTok (CT_spec_l1Rd_area n) (runs KP lib n) := mkCT_cons (eo_spec_l1Rd_ref n (noEnt_ok)) (mkCT_cons (eo_spec_l1Rd_once n (noEnt_ok)) (mkCT_cons (eo_spec_l1Rd_off n (noEnt_ok)) (mkCT_nil)))
theorem th_spec_l1Rd_area : ∀ (n : Nat) (x0 : List (List PV)) (x1 : Int) (r : Int × Int × Int × Int × (List (List PV)) × Int), F_spec_l1Rd_area n x0 x1 = some r → runs KP lib n 72 (A_spec_l1Rd_area x0 x1) (U_spec_l1Rd_area x0 x1) = some (O_spec_l1Rd_area r)
  | 0, x0, x1, r, h => by cases h
  | n + 1, x0, x1, r, h => fun_step (kf := K_spec_l1Rd_area) rfl (ct_spec_l1Rd_area n) (noLoops rfl) (ft_spec_l1Rd_area n x0 x1) h
def FH_spec_l1Rd_area (n : Nat) : Cont → Option (Int × Int × Int × Int × (List (List PV)) × Int)
  | ([[[]]], [[[[.r x0], [.i x1]]]]) => F_spec_l1Rd_area n x0 x1
  | _ => none
def E_spec_l1Rd_area (n : Nat) (d : List AV → List Go.Eng.Frame → Tr Res) : List AV → List Go.Eng.Frame → Tr Res := cent (A_spec_l1Rd_area ([]) (0)) (U_spec_l1Rd_area ([]) (0)) (FH_spec_l1Rd_area n) O_spec_l1Rd_area d
theorem eo_spec_l1Rd_area (n : Nat) {d : List AV → List Go.Eng.Frame → Tr Res} (hd : ∀ ar up r, (d ar up).run = some r → runs KP lib n 72 ar up = some r) : ∀ ar up r, (E_spec_l1Rd_area n d ar up).run = some r → runs KP lib n 72 ar up = some r :=
  cent_ok (fun hs r h => by
    unfold FH_spec_l1Rd_area at h
    split at h
    · exact ⟨A_spec_l1Rd_area _ _, U_spec_l1Rd_area _ _, rfl, rfl, th_spec_l1Rd_area n _ _ r h⟩
    · cases h) hd
/-! ### spec.DrawCommon -/
def A_spec_DrawCommon (x0 : List (List PV)) : List AV := [(.c (.p (.ls x0)))]
def U_spec_DrawCommon (x0 : List (List PV)) : List Go.Eng.Frame := []
def O_spec_DrawCommon (r : Int × Int × Int × Int × Int × Int × Int × Int) : Res := ⟨(.tup [(true, [(.p (.i .i64 r.1)), (.p (.i .i64 r.2.1)), (.p (.i .i64 r.2.2.1)), (.p (.i .i64 r.2.2.2.1))]), (true, [(.p (.i .i64 r.2.2.2.2.1)), (.p (.i .i64 r.2.2.2.2.2.1)), (.p (.i .i64 r.2.2.2.2.2.2.1)), (.p (.i .i64 r.2.2.2.2.2.2.2))])]), [], []⟩
abbrev CT_spec_DrawCommon (n : Nat) : CTab := mkCT [(71, E_spec_l1Open n (noEnt)), (72, E_spec_l1Rd_area n (noEnt))]
abbrev LT_spec_DrawCommon (n : Nat) : LTab := mkLT []
def T_spec_DrawCommon (n : Nat) (x0 : List (List PV)) : Tr (Int × Int × Int × Int × Int × Int × Int × Int) := (.opt (F_spec_l1Open n x0) fun r2 => (.opt (F_spec_l1Rd_area n r2.1 r2.2) fun r24 => (.opt (F_spec_l1Rd_area n r24.2.2.2.2.1 r24.2.2.2.2.2) fun r25 => (.done (r24.1, r24.2.1, r24.2.2.1, r24.2.2.2.1, r25.1, r25.2.1, r25.2.2.1, r25.2.2.2.1)))))
def F_spec_DrawCommon : Nat → List (List PV) → Option (Int × Int × Int × Int × Int × Int × Int × Int)
  | 0, _ => none
  | n + 1, x0 => (T_spec_DrawCommon n x0).run
theorem ft_spec_DrawCommon (n : Nat) (x0 : List (List PV)) : funT (CT_spec_DrawCommon n) (LT_spec_DrawCommon n) K_spec_DrawCommon (A_spec_DrawCommon x0) (U_spec_DrawCommon x0) = (T_spec_DrawCommon n x0).bind fun r => .done (O_spec_DrawCommon r) := by kernel_rfl
theorem ct_spec_DrawCommon (n : Nat) : CTok (CT_spec_DrawCommon n) (runs KP lib n) := mkCT_cons (eo_spec_l1Open n (noEnt_ok)) (mkCT_cons (eo_spec_l1Rd_area n (noEnt_ok)) (mkCT_nil))
theorem th_spec_DrawCommon : ∀ (n : Nat) (x0 : List (List PV)) (r : Int × Int × Int × Int × Int × Int × Int × Int), F_spec_DrawCommon n x0 = some r → runs KP lib n 27 (A_spec_DrawCommon x0) (U_spec_DrawCommon x0) = some (O_spec_DrawCommon r)
  | 0, x0, r, h => by cases h
  | n + 1, x0, r, h => fun_step (kf := K_spec_DrawCommon) rfl (ct_spec_DrawCommon n) (noLoops rfl) (ft_spec_DrawCommon n x0) h
def FH_spec_DrawCommon (n : Nat) : Cont → Option (Int × Int × Int × Int × Int × Int × Int × Int)
  | ([[[.r x0]]], []) => F_spec_DrawCommon n x0
  | _ => none
def E_spec_DrawCommon (n : Nat) (d : List AV → List Go.Eng.Frame → Tr Res) : List AV → List Go.Eng.Frame → Tr Res := cent (A_spec_DrawCommon ([])) (U_spec_DrawCommon ([])) (FH_spec_DrawCommon n) O_spec_DrawCommon d
theorem eo_spec_DrawCommon (n : Nat) {d : List AV → List Go.Eng.Frame → Tr Res} (hd : ∀ ar up r, (d ar up).run = some r → runs KP lib n 27 ar up = some r) : ∀ ar up r, (E_spec_DrawCommon n d ar up).run = some r → runs KP lib n 27 ar up = some r :=
  cent_ok (fun hs r h => by
    unfold FH_spec_DrawCommon at h
    split at h
    · exact ⟨A_spec_DrawCommon _, U_spec_DrawCommon _, rfl, rfl, th_spec_DrawCommon n _ r h⟩
    · cases h) hd
/-! ### impl.within -/
def A_impl_within (x0 : Int) (x1 : Int) (x2 : Int) : List AV := [(.c (.p (.i .i64 x0))), (.c (.p (.i .i64 x1))), (.c (.p (.i .i64 x2)))]
def U_impl_within (x0 : Int) (x1 : Int) (x2 : Int) : List Go.Eng.Frame := []
def O_impl_within (r : Bool) : Res := ⟨(.c (.p (.b r))), [], []⟩
abbrev CT_impl_within (n : Nat) : CTab := mkCT []
abbrev LT_impl_within (n : Nat) : LTab := mkLT []
def T_impl_within (n : Nat) (x0 : Int) (x1 : Int) (x2 : Int) : Tr (Bool) := (.ask ((decide (x0 ≥ x1))) (.done (decide (x0 ≤ x2))) (.done false))
def F_impl_within : Nat → Int → Int → Int → Option (Bool)
  | 0, _, _, _ => none
  | n + 1, x0, x1, x2 => (T_impl_within n x0 x1 x2).run
theorem ft_impl_within (n : Nat) (x0 : Int) (x1 : Int) (x2 : Int) : funT (CT_impl_within n) (LT_impl_within n) K_impl_within (A_impl_within x0 x1 x2) (U_impl_within x0 x1 x2) = (T_impl_within n x0 x1 x2).bind fun r => .done (O_impl_within r) := by kernel_rfl
theorem ct_impl_within (n : Nat) : CTok (CT_impl_within n) (runs KP lib n) := mkCT_nil
theorem th_impl_within : ∀ (n : Nat) (x0 : Int) (x1 : Int) (x2 : Int) (r : Bool), F_impl_within n x0 x1 x2 = some r → runs KP lib n 79 (A_impl_within x0 x1 x2) (U_impl_within x0 x1 x2) = some (O_impl_within r)
  | 0, x0, x1, x2, r, h => by cases h
  | n + 1, x0, x1, x2, r, h => fun_step (kf := K_impl_within) rfl (ct_impl_within n) (noLoops rfl) (ft_impl_within n x0 x1 x2) h
def FH_impl_within (n : Nat) : Cont → Option (Bool)
  | ([[[.i x0]], [[.i x1]], [[.i x2]]], []) => F_impl_within n x0 x1 x2
  | _ => none
def E_impl_within (n : Nat) (d : List AV → List Go.Eng.Frame → Tr Res) : List AV → List Go.Eng.Frame → Tr Res := cent (A_impl_within (0) (0) (0)) (U_impl_within (0) (0) (0)) (FH_impl_within n) O_impl_within d
theorem eo_impl_within (n : Nat) {d : List AV → List Go.Eng.Frame → Tr Res} (hd : ∀ ar up r, (d ar up).run = some r → runs KP lib n 79 ar up = some r) : ∀ ar up r, (E_impl_within n d ar up).run = some r → runs KP lib n 79 ar up = some r :=
  cent_ok (fun hs r h => by
    unfold FH_impl_within at h
    split at h
    · exact ⟨A_impl_within _ _ _, U_impl_within _ _ _, rfl, rfl, th_impl_within n _ _ _ r h⟩
    · cases h) hd
/-! ### impl.RefOk -/
def A_impl_RefOk (x0 : Int) (x1 : Int) : List AV := [(.agg [(.p (.i .i64 x0)), (.p (.i .i64 x1))])]
def U_impl_RefOk (x0 : Int) (x1 : Int) : List Go.Eng.Frame := []
def O_impl_RefOk (r : Bool) : Res := ⟨(.c (.p (.b r))), [], []⟩
abbrev CT_impl_RefOk (n : Nat) : CTab := mkCT [(79, E_impl_within n (noEnt))]
abbrev LT_impl_RefOk (n : Nat) : LTab := mkLT []
def T_impl_RefOk (n : Nat) (x0 : Int) (x1 : Int) : Tr (Bool) := (.opt (F_impl_within n x0 (1 : Int) (52 : Int)) fun r27 => (.ask (r27) (.opt (F_impl_within n x1 (1 : Int) (99 : Int)) fun r28 => (.done r28)) (.done false)))
def F_impl_RefOk : Nat → Int → Int → Option (Bool)
  | 0, _, _ => none
  | n + 1, x0, x1 => (T_impl_RefOk n x0 x1).run
theorem ft_impl_RefOk (n : Nat) (x0 : Int) (x1 : Int) : funT (CT_impl_RefOk n) (LT_impl_RefOk n) K_impl_RefOk (A_impl_RefOk x0 x1) (U_impl_RefOk x0 x1) = (T_impl_RefOk n x0 x1).bind fun r => .done (O_impl_RefOk r) := by kernel_rfl
theorem ct_impl_RefOk (n : Nat) : CTok (CT_impl_RefOk n) (runs KP lib n) := mkCT_cons (eo_impl_within n (noEnt_ok)) (mkCT_nil)
theorem th_impl_RefOk : ∀ (n : Nat) (x0 : Int) (x1 : Int) (r : Bool), F_impl_RefOk n x0 x1 = some r → runs KP lib n 59 (A_impl_RefOk x0 x1) (U_impl_RefOk x0 x1) = some (O_impl_RefOk r)
  | 0, x0, x1, r, h => by cases h
  | n + 1, x0, x1, r, h => fun_step (kf := K_impl_RefOk) rfl (ct_impl_RefOk n) (noLoops rfl) (ft_impl_RefOk n x0 x1) h
def FH_impl_RefOk (n : Nat) : Cont → Option (Bool)
  | ([[[.i x0], [.i x1]]], []) => F_impl_RefOk n x0 x1
  | _ => none
def E_impl_RefOk (n : Nat) (d : List AV → List Go.Eng.Frame → Tr Res) : List AV → List Go.Eng.Frame → Tr Res := cent (A_impl_RefOk (0) (0)) (U_impl_RefOk (0) (0)) (FH_impl_RefOk n) O_impl_RefOk d
theorem eo_impl_RefOk (n : Nat) {d : List AV → List Go.Eng.Frame → Tr Res} (hd : ∀ ar up r, (d ar up).run = some r → runs KP lib n 59 ar up = some r) : ∀ ar up r, (E_impl_RefOk n d ar up).run = some r → runs KP lib n 59 ar up = some r :=
  cent_ok (fun hs r h => by
    unfold FH_impl_RefOk at h
    split at h
    · exact ⟨A_impl_RefOk _ _, U_impl_RefOk _ _, rfl, rfl, th_impl_RefOk n _ _ r h⟩
    · cases h) hd
/-! ### impl.AreaOk -/
def A_impl_AreaOk (x0 : Int) (x1 : Int) (x2 : Int) (x3 : Int) : List AV := [(.agg [(.p (.i .i64 x0)), (.p (.i .i64 x1)), (.p (.i .i64 x2)), (.p (.i .i64 x3))])]
def U_impl_AreaOk (x0 : Int) (x1 : Int) (x2 : Int) (x3 : Int) : List Go.Eng.Frame := []
def O_impl_AreaOk (r : Bool) : Res := ⟨(.c (.p (.b r))), [], []⟩
abbrev CT_impl_AreaOk (n : Nat) : CTab := mkCT [(59, E_impl_RefOk n (noEnt))]
abbrev LT_impl_AreaOk (n : Nat) : LTab := mkLT []
def T_impl_AreaOk (n : Nat) (x0 : Int) (x1 : Int) (x2 : Int) (x3 : Int) : Tr (Bool) := (.opt (F_impl_RefOk n x0 x1) fun r29 => (.ask (r29) (.opt (F_impl_RefOk n x2 x3) fun r30 => (.ask (r30) (.ask ((decide (x0 ≤ x2))) (.done (decide (x1 ≤ x3))) (.done false)) (.done false))) (.done false)))
def F_impl_AreaOk : Nat → Int → Int → Int → Int → Option (Bool)
  | 0, _, _, _, _ => none
  | n + 1, x0, x1, x2, x3 => (T_impl_AreaOk n x0 x1 x2 x3).run
theorem ft_impl_AreaOk (n : Nat) (x0 : Int) (x1 : Int) (x2 : Int) (x3 : Int) : funT (CT_impl_AreaOk n) (LT_impl_AreaOk n) K_impl_AreaOk (A_impl_AreaOk x0 x1 x2 x3) (U_impl_AreaOk x0 x1 x2 x3) = (T_impl_AreaOk n x0 x1 x2 x3).bind fun r => .done (O_impl_AreaOk r) := by kernel_rfl
theorem ct_impl_AreaOk (n : Nat) : CTok (CT_impl_AreaOk n) (runs KP lib n) := mkCT_cons (eo_impl_RefOk n (noEnt_ok)) (mkCT_nil)
theorem th_impl_AreaOk : ∀ (n : Nat) (x0 : Int) (x1 : Int) (x2 : Int) (x3 : Int) (r : Bool), F_impl_AreaOk n x0 x1 x2 x3 = some r → runs KP lib n 33 (A_impl_AreaOk x0 x1 x2 x3) (U_impl_AreaOk x0 x1 x2 x3) = some (O_impl_AreaOk r)
  | 0, x0, x1, x2, x3, r, h => by cases h
  | n + 1, x0, x1, x2, x3, r, h => fun_step (kf := K_impl_AreaOk) rfl (ct_impl_AreaOk n) (noLoops rfl) (ft_impl_AreaOk n x0 x1 x2 x3) h
def FH_impl_AreaOk (n : Nat) : Cont → Option (Bool)
  | ([[[.i x0], [.i x1], [.i x2], [.i x3]]], []) => F_impl_AreaOk n x0 x1 x2 x3
  | _ => none
def E_impl_AreaOk (n : Nat) (d : List AV → List Go.Eng.Frame → Tr Res) : List AV → List Go.Eng.Frame → Tr Res := cent (A_impl_AreaOk (0) (0) (0) (0)) (U_impl_AreaOk (0) (0) (0) (0)) (FH_impl_AreaOk n) O_impl_AreaOk d
theorem eo_impl_AreaOk (n : Nat) {d : List AV → List Go.Eng.Frame → Tr Res} (hd : ∀ ar up r, (d ar up).run = some r → runs KP lib n 33 ar up = some r) : ∀ ar up r, (E_impl_AreaOk n d ar up).run = some r → runs KP lib n 33 ar up = some r :=
  cent_ok (fun hs r h => by
    unfold FH_impl_AreaOk at h
    split at h
    · exact ⟨A_impl_AreaOk _ _ _ _, U_impl_AreaOk _ _ _ _, rfl, rfl, th_impl_AreaOk n _ _ _ _ r h⟩
    · cases h) hd
/-! ### impl.CellsOf -/
def A_impl_CellsOf (x0 : Int) (x1 : Int) (x2 : Int) (x3 : Int) : List AV := [(.agg [(.p (.i .i64 x0)), (.p (.i .i64 x1)), (.p (.i .i64 x2)), (.p (.i .i64 x3))])]
def U_impl_CellsOf (x0 : Int) (x1 : Int) (x2 : Int) (x3 : Int) : List Go.Eng.Frame := []
def O_impl_CellsOf (r : (List (List PV))) : Res := ⟨(.c (.p (.ls r))), [], []⟩
abbrev CT_impl_CellsOf (n : Nat) : CTab := mkCT [(33, E_impl_AreaOk n (noEnt))]
def S_impl_CellsOf_493 (v : Nat × Int × Int × Int × Int × Int × Int × (List (List PV))) : St := ⟨[(1, (.c (.ptr 0 64 0 0 0))), (3, (.c (.own 0 576 0 v.1))), (4, (.c (.p (.i .i64 v.2.1)))), (5, (.c (.p (.i .i64 v.2.2.1))))], [(64, ⟨0, 4, 49, (.box [(.p (.i .i64 v.2.2.2.1)), (.p (.i .i64 v.2.2.2.2.1)), (.p (.i .i64 v.2.2.2.2.2.1)), (.p (.i .i64 v.2.2.2.2.2.2.1))])⟩), (576, ⟨0, 2, 34, (.row v.2.2.2.2.2.2.2)⟩)], []⟩
def B_impl_CellsOf_493 (n : Nat) (v : Nat × Int × Int × Int × Int × Int × Int × (List (List PV))) : Tr ((Nat × Int × Int × Int × Int × Int × Int × (List (List PV))) ⊕ ((Nat × Int × Int × Int × Int × Int × (List (List PV))))) := (.ask ((decide (v.2.2.1 ≤ v.2.2.2.2.2.1))) (.ask (decide (1 = ([[(.i .i64 v.2.2.1), (.i .i64 v.2.1)]] : List (List PV)).length)) (.ask (decide (v.1 = v.2.2.2.2.2.2.2.length ∧ 0 < 2 ∧ 0 < 16 ∧ (v.1 + ([[(.i .i64 v.2.2.1), (.i .i64 v.2.1)]] : List (List PV)).length) * 16 ≤ 140737488355328 ∧ ([[(.i .i64 v.2.2.1), (.i .i64 v.2.1)]] : List (List PV)).all (fun e => e.length == 2) = true)) (.done (.inl ((v.1 + 1), v.2.1, (IntKind.i64.wrap (v.2.2.1 + (1 : Int))), v.2.2.2.1, v.2.2.2.2.1, v.2.2.2.2.2.1, v.2.2.2.2.2.2.1, (v.2.2.2.2.2.2.2 ++ ([[(.i .i64 v.2.2.1), (.i .i64 v.2.1)]] : List (List PV)))))) .fail) .fail) (.done (.inr ((v.1, v.2.1, v.2.2.2.1, v.2.2.2.2.1, v.2.2.2.2.2.1, v.2.2.2.2.2.2.1, v.2.2.2.2.2.2.2)))))
def D_impl_CellsOf_493 : (Nat × Int × Int × Int × Int × Int × (List (List PV))) → Ex × St := fun r => ((.exit 2), ⟨[(1, (.c (.ptr 0 64 0 0 0))), (3, (.c (.own 0 576 0 r.1))), (4, (.c (.p (.i .i64 r.2.1))))], [(64, ⟨0, 4, 49, (.box [(.p (.i .i64 r.2.2.1)), (.p (.i .i64 r.2.2.2.1)), (.p (.i .i64 r.2.2.2.2.1)), (.p (.i .i64 r.2.2.2.2.2.1))])⟩), (576, ⟨0, 2, 34, (.row r.2.2.2.2.2.2)⟩)], []⟩)
def DT_impl_CellsOf_493 : (Nat × Int × Int × Int × Int × Int × (List (List PV))) → Tr (Ex × St) := fun r => .done ((.exit 2), ⟨[(1, (.c (.ptr 0 64 0 0 0))), (3, (.c (.own 0 576 0 r.1))), (4, (.c (.p (.i .i64 r.2.1))))], [(64, ⟨0, 4, 49, (.box [(.p (.i .i64 r.2.2.1)), (.p (.i .i64 r.2.2.2.1)), (.p (.i .i64 r.2.2.2.2.1)), (.p (.i .i64 r.2.2.2.2.2.1))])⟩), (576, ⟨0, 2, 34, (.row r.2.2.2.2.2.2)⟩)], []⟩)
def VH_impl_CellsOf_493 : Cont3 → Option (Nat × Int × Int × Int × Int × Int × Int × (List (List PV)))
  | ([[[]], [[.n w0]], [[.i w1]], [[.i w2]]], [[[.i w3], [.i w4], [.i w5], [.i w6]], [[.r w7]]], []) => some (w0, w1, w2, w3, w4, w5, w6, w7)
  | _ => none
abbrev LE_impl_CellsOf_493 (n : Nat) : St → Tr (Ex × St) := lent (S_impl_CellsOf_493 (0, 0, 0, 0, 0, 0, 0, [])) VH_impl_CellsOf_493 (B_impl_CellsOf_493 n) DT_impl_CellsOf_493 n
def S_impl_CellsOf_61 (v : Nat × Int × Int × Int × Int × Int × (List (List PV))) : St := ⟨[(1, (.c (.ptr 0 64 0 0 0))), (3, (.c (.own 0 576 0 v.1))), (4, (.c (.p (.i .i64 v.2.1))))], [(64, ⟨0, 4, 49, (.box [(.p (.i .i64 v.2.2.1)), (.p (.i .i64 v.2.2.2.1)), (.p (.i .i64 v.2.2.2.2.1)), (.p (.i .i64 v.2.2.2.2.2.1))])⟩), (576, ⟨0, 2, 34, (.row v.2.2.2.2.2.2)⟩)], []⟩
def B_impl_CellsOf_61 (n : Nat) (v : Nat × Int × Int × Int × Int × Int × (List (List PV))) : Tr ((Nat × Int × Int × Int × Int × Int × (List (List PV))) ⊕ ((Nat × (List (List PV))))) := (.ask ((decide (v.2.1 ≤ v.2.2.2.2.2.1))) (.opt (loopF (B_impl_CellsOf_493 n) n (v.1, v.2.1, v.2.2.1, v.2.2.1, v.2.2.2.1, v.2.2.2.2.1, v.2.2.2.2.2.1, v.2.2.2.2.2.2)) fun r32 => (.done (.inl (r32.1, (IntKind.i64.wrap (r32.2.1 + (1 : Int))), r32.2.2.1, r32.2.2.2.1, r32.2.2.2.2.1, r32.2.2.2.2.2.1, r32.2.2.2.2.2.2)))) (.done (.inr ((v.1, v.2.2.2.2.2.2)))))
def D_impl_CellsOf_61 : (Nat × (List (List PV))) → Ex × St := fun r => ((.exit 0), ⟨[(3, (.c (.own 0 576 0 r.1)))], [(576, ⟨0, 2, 34, (.row r.2)⟩)], []⟩)
def DT_impl_CellsOf_61 : (Nat × (List (List PV))) → Tr (Ex × St) := fun r => .done ((.exit 0), ⟨[(3, (.c (.own 0 576 0 r.1)))], [(576, ⟨0, 2, 34, (.row r.2)⟩)], []⟩)
def VH_impl_CellsOf_61 : Cont3 → Option (Nat × Int × Int × Int × Int × Int × (List (List PV)))
  | ([[[]], [[.n w0]], [[.i w1]]], [[[.i w2], [.i w3], [.i w4], [.i w5]], [[.r w6]]], []) => some (w0, w1, w2, w3, w4, w5, w6)
  | _ => none
abbrev LE_impl_CellsOf_61 (n : Nat) : St → Tr (Ex × St) := lent (S_impl_CellsOf_61 (0, 0, 0, 0, 0, 0, [])) VH_impl_CellsOf_61 (B_impl_CellsOf_61 n) DT_impl_CellsOf_61 n
abbrev LT_impl_CellsOf (n : Nat) : LTab := mkLT [(61, LE_impl_CellsOf_61 n)]
def T_impl_CellsOf (n : Nat) (x0 : Int) (x1 : Int) (x2 : Int) (x3 : Int) : Tr ((List (List PV))) := (.opt (F_impl_AreaOk n x0 x1 x2 x3) fun r31 => (.ask ((!r31)) (.ask (decide (0 = ([] : List (List PV)).length)) (.done ([] : List (List PV))) .fail) (.opt (loopF (B_impl_CellsOf_61 n) n ((0 : Nat), x1, x0, x1, x2, x3, ([] : List (List PV)))) fun r33 => (.ask (decide (r33.1 = r33.2.length)) (.done r33.2) .fail))))
def F_impl_CellsOf : Nat → Int → Int → Int → Int → Option ((List (List PV)))
  | 0, _, _, _, _ => none
  | n + 1, x0, x1, x2, x3 => (T_impl_CellsOf n x0 x1 x2 x3).run
theorem ft_impl_CellsOf (n : Nat) (x0 : Int) (x1 : Int) (x2 : Int) (x3 : Int) : funT (CT_impl_CellsOf n) (LT_impl_CellsOf n) K_impl_CellsOf (A_impl_CellsOf x0 x1 x2 x3) (U_impl_CellsOf x0 x1 x2 x3) = (T_impl_CellsOf n x0 x1 x2 x3).bind fun r => .done (O_impl_CellsOf r) := by kernel_rfl
theorem ct_impl_CellsOf (n : Nat) : CTok (CT_impl_CellsOf n) (runs KP lib n) := mkCT_cons (eo_impl_AreaOk n (noEnt_ok)) (mkCT_nil)
theorem lt_impl_CellsOf_493 (n : Nat) (v : Nat × Int × Int × Int × Int × Int × Int × (List (List PV))) : (evalCT (CT_impl_CellsOf n) (mkLT []) K_impl_CellsOf_L493 (S_impl_CellsOf_493 v) []).bind (ltail [1, 3, 4, 5] [(.ret, [2]), ((.exit 2), [1, 3, 4]), ((.exit 1), [1, 3, 4]), ((.exit 0), [3])]) = (B_impl_CellsOf_493 n v).bind (lenc S_impl_CellsOf_493 D_impl_CellsOf_493) := by
  obtain ⟨w0, w1, w2, w3, w4, w5, w6, w7⟩ := v
  kernel_rfl
theorem le_impl_CellsOf_493 (n : Nat) : LEok (runs KP lib n) n (493, [1, 3, 4, 5], [(.ret, [2]), ((.exit 2), [1, 3, 4]), ((.exit 1), [1, 3, 4]), ((.exit 0), [3])], K_impl_CellsOf_L493) (LE_impl_CellsOf_493 n) := fun st e s h =>
  lent_ok (ct_impl_CellsOf n) (noLoops rfl) (lt_impl_CellsOf_493 n) (fun r h => by cases h) (fun r y h => by cases h; rfl) (fun hs v h => by
    unfold VH_impl_CellsOf_493 at h
    split at h <;> cases h
    rfl) h
theorem li_impl_CellsOf_61 (n : Nat) : LTok (mkLT [(493, LE_impl_CellsOf_493 n)]) (runs KP lib n) n K_impl_CellsOf_L61 := mkLT_ok (by
  intro x hx
  have hx : x ∈ ([(493, [1, 3, 4, 5], [(.ret, [2]), ((.exit 2), [1, 3, 4]), ((.exit 1), [1, 3, 4]), ((.exit 0), [3])], K_impl_CellsOf_L493)] : List (Nat × List Nat × List (Ex × List Nat) × KCode)) := hx
  simp only [List.mem_cons, List.not_mem_nil, or_false] at hx
  rcases hx with rfl
  · exact ⟨LE_impl_CellsOf_493 n, fun st => rfl, le_impl_CellsOf_493 n⟩)
theorem lt_impl_CellsOf_61 (n : Nat) (v : Nat × Int × Int × Int × Int × Int × (List (List PV))) : (evalCT (CT_impl_CellsOf n) (mkLT [(493, LE_impl_CellsOf_493 n)]) K_impl_CellsOf_L61 (S_impl_CellsOf_61 v) []).bind (ltail [1, 3, 4] [(.ret, [2]), ((.exit 0), [3])]) = (B_impl_CellsOf_61 n v).bind (lenc S_impl_CellsOf_61 D_impl_CellsOf_61) := by
  obtain ⟨w0, w1, w2, w3, w4, w5, w6⟩ := v
  kernel_rfl
theorem le_impl_CellsOf_61 (n : Nat) : LEok (runs KP lib n) n (61, [1, 3, 4], [(.ret, [2]), ((.exit 0), [3])], K_impl_CellsOf_L61) (LE_impl_CellsOf_61 n) := fun st e s h =>
  lent_ok (ct_impl_CellsOf n) (li_impl_CellsOf_61 n) (lt_impl_CellsOf_61 n) (fun r h => by cases h) (fun r y h => by cases h; rfl) (fun hs v h => by
    unfold VH_impl_CellsOf_61 at h
    split at h <;> cases h
    rfl) h
theorem lo_impl_CellsOf (n : Nat) : LTok (LT_impl_CellsOf n) (runs KP lib n) n K_impl_CellsOf.body := mkLT_ok (by
  intro x hx
  have hx : x ∈ ([(61, [1, 3, 4], [(.ret, [2]), ((.exit 0), [3])], K_impl_CellsOf_L61)] : List (Nat × List Nat × List (Ex × List Nat) × KCode)) := hx
  simp only [List.mem_cons, List.not_mem_nil, or_false] at hx
  rcases hx with rfl
  · exact ⟨LE_impl_CellsOf_61 n, fun st => rfl, le_impl_CellsOf_61 n⟩)
theorem th_impl_CellsOf : ∀ (n : Nat) (x0 : Int) (x1 : Int) (x2 : Int) (x3 : Int) (r : (List (List PV))), F_impl_CellsOf n x0 x1 x2 x3 = some r → runs KP lib n 28 (A_impl_CellsOf x0 x1 x2 x3) (U_impl_CellsOf x0 x1 x2 x3) = some (O_impl_CellsOf r)
  | 0, x0, x1, x2, x3, r, h => by cases h
  | n + 1, x0, x1, x2, x3, r, h => fun_step (kf := K_impl_CellsOf) rfl (ct_impl_CellsOf n) (lo_impl_CellsOf n) (ft_impl_CellsOf n x0 x1 x2 x3) h
def FH_impl_CellsOf (n : Nat) : Cont → Option ((List (List PV)))
  | ([[[.i x0], [.i x1], [.i x2], [.i x3]]], []) => F_impl_CellsOf n x0 x1 x2 x3
  | _ => none
def E_impl_CellsOf (n : Nat) (d : List AV → List Go.Eng.Frame → Tr Res) : List AV → List Go.Eng.Frame → Tr Res := cent (A_impl_CellsOf (0) (0) (0) (0)) (U_impl_CellsOf (0) (0) (0) (0)) (FH_impl_CellsOf n) O_impl_CellsOf d
theorem eo_impl_CellsOf (n : Nat) {d : List AV → List Go.Eng.Frame → Tr Res} (hd : ∀ ar up r, (d ar up).run = some r → runs KP lib n 28 ar up = some r) : ∀ ar up r, (E_impl_CellsOf n d ar up).run = some r → runs KP lib n 28 ar up = some r :=
  cent_ok (fun hs r h => by
    unfold FH_impl_CellsOf at h
    split at h
    · exact ⟨A_impl_CellsOf _ _ _ _, U_impl_CellsOf _ _ _ _, rfl, rfl, th_impl_CellsOf n _ _ _ _ r h⟩
    · cases h) hd
/-! ### impl.Common -/
def A_impl_Common (x0 : Int) (x1 : Int) (x2 : Int) (x3 : Int) (x4 : Int) (x5 : Int) (x6 : Int) (x7 : Int) : List AV := [(.agg [(.p (.i .i64 x0)), (.p (.i .i64 x1)), (.p (.i .i64 x2)), (.p (.i .i64 x3))]), (.agg [(.p (.i .i64 x4)), (.p (.i .i64 x5)), (.p (.i .i64 x6)), (.p (.i .i64 x7))])]
def U_impl_Common (x0 : Int) (x1 : Int) (x2 : Int) (x3 : Int) (x4 : Int) (x5 : Int) (x6 : Int) (x7 : Int) : List Go.Eng.Frame := []
def O_impl_Common (r : Int × Int × Int × Int × Bool) : Res := ⟨(.tup [(true, [(.p (.i .i64 r.1)), (.p (.i .i64 r.2.1)), (.p (.i .i64 r.2.2.1)), (.p (.i .i64 r.2.2.2.1))]), (false, [(.p (.b r.2.2.2.2))])]), [], []⟩
abbrev CT_impl_Common (n : Nat) : CTab := mkCT [(33, E_impl_AreaOk n (noEnt))]
abbrev LT_impl_Common (n : Nat) : LTab := mkLT []
def T_impl_Common (n : Nat) (x0 : Int) (x1 : Int) (x2 : Int) (x3 : Int) (x4 : Int) (x5 : Int) (x6 : Int) (x7 : Int) : Tr (Int × Int × Int × Int × Bool) := (.opt (F_impl_AreaOk n x0 x1 x2 x3) fun r35 => (.ask ((!r35)) (.done ((0 : Int), (0 : Int), (0 : Int), (0 : Int), false)) (.opt (F_impl_AreaOk n x4 x5 x6 x7) fun r36 => (.ask ((!r36)) (.done ((0 : Int), (0 : Int), (0 : Int), (0 : Int), false)) (.opt (F_impl_AreaOk n (if x4 > x0 then x4 else x0) (if x5 > x1 then x5 else x1) (if x6 < x2 then x6 else x2) (if x7 < x3 then x7 else x3)) fun r37 => (.ask ((!r37)) (.done ((0 : Int), (0 : Int), (0 : Int), (0 : Int), false)) (.done ((if x4 > x0 then x4 else x0), (if x5 > x1 then x5 else x1), (if x6 < x2 then x6 else x2), (if x7 < x3 then x7 else x3), true))))))))
def F_impl_Common : Nat → Int → Int → Int → Int → Int → Int → Int → Int → Option (Int × Int × Int × Int × Bool)
  | 0, _, _, _, _, _, _, _, _ => none
  | n + 1, x0, x1, x2, x3, x4, x5, x6, x7 => (T_impl_Common n x0 x1 x2 x3 x4 x5 x6 x7).run
theorem ft_impl_Common (n : Nat) (x0 : Int) (x1 : Int) (x2 : Int) (x3 : Int) (x4 : Int) (x5 : Int) (x6 : Int) (x7 : Int) : funT (CT_impl_Common n) (LT_impl_Common n) K_impl_Common (A_impl_Common x0 x1 x2 x3 x4 x5 x6 x7) (U_impl_Common x0 x1 x2 x3 x4 x5 x6 x7) = (T_impl_Common n x0 x1 x2 x3 x4 x5 x6 x7).bind fun r => .done (O_impl_Common r) := by kernel_rfl
theorem ct_impl_Common (n : Nat) : CTok (CT_impl_Common n) (runs KP lib n) := mkCT_cons (eo_impl_AreaOk n (noEnt_ok)) (mkCT_nil)
theorem th_impl_Common : ∀ (n : Nat) (x0 : Int) (x1 : Int) (x2 : Int) (x3 : Int) (x4 : Int) (x5 : Int) (x6 : Int) (x7 : Int) (r : Int × Int × Int × Int × Bool), F_impl_Common n x0 x1 x2 x3 x4 x5 x6 x7 = some r → runs KP lib n 29 (A_impl_Common x0 x1 x2 x3 x4 x5 x6 x7) (U_impl_Common x0 x1 x2 x3 x4 x5 x6 x7) = some (O_impl_Common r)
  | 0, x0, x1, x2, x3, x4, x5, x6, x7, r, h => by cases h
  | n + 1, x0, x1, x2, x3, x4, x5, x6, x7, r, h => fun_step (kf := K_impl_Common) rfl (ct_impl_Common n) (noLoops rfl) (ft_impl_Common n x0 x1 x2 x3 x4 x5 x6 x7) h
def FH_impl_Common (n : Nat) : Cont → Option (Int × Int × Int × Int × Bool)
  | ([[[.i x0], [.i x1], [.i x2], [.i x3]], [[.i x4], [.i x5], [.i x6], [.i x7]]], []) => F_impl_Common n x0 x1 x2 x3 x4 x5 x6 x7
  | _ => none
def E_impl_Common (n : Nat) (d : List AV → List Go.Eng.Frame → Tr Res) : List AV → List Go.Eng.Frame → Tr Res := cent (A_impl_Common (0) (0) (0) (0) (0) (0) (0) (0)) (U_impl_Common (0) (0) (0) (0) (0) (0) (0) (0)) (FH_impl_Common n) O_impl_Common d
theorem eo_impl_Common (n : Nat) {d : List AV → List Go.Eng.Frame → Tr Res} (hd : ∀ ar up r, (d ar up).run = some r → runs KP lib n 29 ar up = some r) : ∀ ar up r, (E_impl_Common n d ar up).run = some r → runs KP lib n 29 ar up = some r :=
  cent_ok (fun hs r h => by
    unfold FH_impl_Common at h
    split at h
    · exact ⟨A_impl_Common _ _ _ _ _ _ _ _, U_impl_Common _ _ _ _ _ _ _ _, rfl, rfl, th_impl_Common n _ _ _ _ _ _ _ _ r h⟩
    · cases h) hd
/-! ### spec.l1In -/
def A_spec_l1In (x0 : Int) (x1 : Int) (x2 : Int) : List AV := [(.c (.p (.i .i64 x0))), (.c (.p (.i .i64 x1))), (.c (.p (.i .i64 x2)))]
def U_spec_l1In (x0 : Int) (x1 : Int) (x2 : Int) : List Go.Eng.Frame := []
def O_spec_l1In (r : Bool) : Res := ⟨(.c (.p (.b r))), [], []⟩
abbrev CT_spec_l1In (n : Nat) : CTab := mkCT []
abbrev LT_spec_l1In (n : Nat) : LTab := mkLT []
def T_spec_l1In (n : Nat) (x0 : Int) (x1 : Int) (x2 : Int) : Tr (Bool) := (.ask ((decide (x0 ≥ x1))) (.done (decide (x0 ≤ x2))) (.done false))
def F_spec_l1In : Nat → Int → Int → Int → Option (Bool)
  | 0, _, _, _ => none
  | n + 1, x0, x1, x2 => (T_spec_l1In n x0 x1 x2).run
theorem ft_spec_l1In (n : Nat) (x0 : Int) (x1 : Int) (x2 : Int) : funT (CT_spec_l1In n) (LT_spec_l1In n) K_spec_l1In (A_spec_l1In x0 x1 x2) (U_spec_l1In x0 x1 x2) = (T_spec_l1In n x0 x1 x2).bind fun r => .done (O_spec_l1In r) := by kernel_rfl
theorem ct_spec_l1In (n : Nat) : CTok (CT_spec_l1In n) (runs KP lib n) := mkCT_nil
theorem th_spec_l1In : ∀ (n : Nat) (x0 : Int) (x1 : Int) (x2 : Int) (r : Bool), F_spec_l1In n x0 x1 x2 = some r → runs KP lib n 75 (A_spec_l1In x0 x1 x2) (U_spec_l1In x0 x1 x2) = some (O_spec_l1In r)
  | 0, x0, x1, x2, r, h => by cases h
  | n + 1, x0, x1, x2, r, h => fun_step (kf := K_spec_l1In) rfl (ct_spec_l1In n) (noLoops rfl) (ft_spec_l1In n x0 x1 x2) h
def FH_spec_l1In (n : Nat) : Cont → Option (Bool)
  | ([[[.i x0]], [[.i x1]], [[.i x2]]], []) => F_spec_l1In n x0 x1 x2
  | _ => none
def E_spec_l1In (n : Nat) (d : List AV → List Go.Eng.Frame → Tr Res) : List AV → List Go.Eng.Frame → Tr Res := cent (A_spec_l1In (0) (0) (0)) (U_spec_l1In (0) (0) (0)) (FH_spec_l1In n) O_spec_l1In d
theorem eo_spec_l1In (n : Nat) {d : List AV → List Go.Eng.Frame → Tr Res} (hd : ∀ ar up r, (d ar up).run = some r → runs KP lib n 75 ar up = some r) : ∀ ar up r, (E_spec_l1In n d ar up).run = some r → runs KP lib n 75 ar up = some r :=
  cent_ok (fun hs r h => by
    unfold FH_spec_l1In at h
    split at h
    · exact ⟨A_spec_l1In _ _ _, U_spec_l1In _ _ _, rfl, rfl, th_spec_l1In n _ _ _ r h⟩
    · cases h) hd
/-! ### spec.RefOk -/
def A_spec_RefOk (x0 : Int) (x1 : Int) : List AV := [(.agg [(.p (.i .i64 x0)), (.p (.i .i64 x1))])]
def U_spec_RefOk (x0 : Int) (x1 : Int) : List Go.Eng.Frame := []
def O_spec_RefOk (r : Bool) : Res := ⟨(.c (.p (.b r))), [], []⟩
abbrev CT_spec_RefOk (n : Nat) : CTab := mkCT [(75, E_spec_l1In n (noEnt))]
abbrev LT_spec_RefOk (n : Nat) : LTab := mkLT []
def T_spec_RefOk (n : Nat) (x0 : Int) (x1 : Int) : Tr (Bool) := (.opt (F_spec_l1In n x0 (1 : Int) (52 : Int)) fun r39 => (.ask (r39) (.opt (F_spec_l1In n x1 (1 : Int) (99 : Int)) fun r40 => (.done r40)) (.done false)))
def F_spec_RefOk : Nat → Int → Int → Option (Bool)
  | 0, _, _ => none
  | n + 1, x0, x1 => (T_spec_RefOk n x0 x1).run
theorem ft_spec_RefOk (n : Nat) (x0 : Int) (x1 : Int) : funT (CT_spec_RefOk n) (LT_spec_RefOk n) K_spec_RefOk (A_spec_RefOk x0 x1) (U_spec_RefOk x0 x1) = (T_spec_RefOk n x0 x1).bind fun r => .done (O_spec_RefOk r) := by kernel_rfl
theorem ct_spec_RefOk (n : Nat) : CTok (CT_spec_RefOk n) (runs KP lib n) := mkCT_cons (eo_spec_l1In n (noEnt_ok)) (mkCT_nil)
theorem th_spec_RefOk : ∀ (n : Nat) (x0 : Int) (x1 : Int) (r : Bool), F_spec_RefOk n x0 x1 = some r → runs KP lib n 55 (A_spec_RefOk x0 x1) (U_spec_RefOk x0 x1) = some (O_spec_RefOk r)
  | 0, x0, x1, r, h => by cases h
  | n + 1, x0, x1, r, h => fun_step (kf := K_spec_RefOk) rfl (ct_spec_RefOk n) (noLoops rfl) (ft_spec_RefOk n x0 x1) h
def FH_spec_RefOk (n : Nat) : Cont → Option (Bool)
  | ([[[.i x0], [.i x1]]], []) => F_spec_RefOk n x0 x1
  | _ => none
def E_spec_RefOk (n : Nat) (d : List AV → List Go.Eng.Frame → Tr Res) : List AV → List Go.Eng.Frame → Tr Res := cent (A_spec_RefOk (0) (0)) (U_spec_RefOk (0) (0)) (FH_spec_RefOk n) O_spec_RefOk d
theorem eo_spec_RefOk (n : Nat) {d : List AV → List Go.Eng.Frame → Tr Res} (hd : ∀ ar up r, (d ar up).run = some r → runs KP lib n 55 ar up = some r) : ∀ ar up r, (E_spec_RefOk n d ar up).run = some r → runs KP lib n 55 ar up = some r :=
  cent_ok (fun hs r h => by
    unfold FH_spec_RefOk at h
    split at h
    · exact ⟨A_spec_RefOk _ _, U_spec_RefOk _ _, rfl, rfl, th_spec_RefOk n _ _ r h⟩
    · cases h) hd
/-! ### spec.AreaOk -/
def A_spec_AreaOk (x0 : Int) (x1 : Int) (x2 : Int) (x3 : Int) : List AV := [(.agg [(.p (.i .i64 x0)), (.p (.i .i64 x1)), (.p (.i .i64 x2)), (.p (.i .i64 x3))])]
def U_spec_AreaOk (x0 : Int) (x1 : Int) (x2 : Int) (x3 : Int) : List Go.Eng.Frame := []
def O_spec_AreaOk (r : Bool) : Res := ⟨(.c (.p (.b r))), [], []⟩
abbrev CT_spec_AreaOk (n : Nat) : CTab := mkCT [(55, E_spec_RefOk n (noEnt))]
abbrev LT_spec_AreaOk (n : Nat) : LTab := mkLT []
def T_spec_AreaOk (n : Nat) (x0 : Int) (x1 : Int) (x2 : Int) (x3 : Int) : Tr (Bool) := (.opt (F_spec_RefOk n x0 x1) fun r41 => (.ask (r41) (.opt (F_spec_RefOk n x2 x3) fun r42 => (.ask (r42) (.ask ((decide (x0 ≤ x2))) (.done (decide (x1 ≤ x3))) (.done false)) (.done false))) (.done false)))
def F_spec_AreaOk : Nat → Int → Int → Int → Int → Option (Bool)
  | 0, _, _, _, _ => none
  | n + 1, x0, x1, x2, x3 => (T_spec_AreaOk n x0 x1 x2 x3).run
theorem ft_spec_AreaOk (n : Nat) (x0 : Int) (x1 : Int) (x2 : Int) (x3 : Int) : funT (CT_spec_AreaOk n) (LT_spec_AreaOk n) K_spec_AreaOk (A_spec_AreaOk x0 x1 x2 x3) (U_spec_AreaOk x0 x1 x2 x3) = (T_spec_AreaOk n x0 x1 x2 x3).bind fun r => .done (O_spec_AreaOk r) := by kernel_rfl
theorem ct_spec_AreaOk (n : Nat) : CTok (CT_spec_AreaOk n) (runs KP lib n) := mkCT_cons (eo_spec_RefOk n (noEnt_ok)) (mkCT_nil)
theorem th_spec_AreaOk : ∀ (n : Nat) (x0 : Int) (x1 : Int) (x2 : Int) (x3 : Int) (r : Bool), F_spec_AreaOk n x0 x1 x2 x3 = some r → runs KP lib n 34 (A_spec_AreaOk x0 x1 x2 x3) (U_spec_AreaOk x0 x1 x2 x3) = some (O_spec_AreaOk r)
  | 0, x0, x1, x2, x3, r, h => by cases h
  | n + 1, x0, x1, x2, x3, r, h => fun_step (kf := K_spec_AreaOk) rfl (ct_spec_AreaOk n) (noLoops rfl) (ft_spec_AreaOk n x0 x1 x2 x3) h
def FH_spec_AreaOk (n : Nat) : Cont → Option (Bool)
  | ([[[.i x0], [.i x1], [.i x2], [.i x3]]], []) => F_spec_AreaOk n x0 x1 x2 x3
  | _ => none
def E_spec_AreaOk (n : Nat) (d : List AV → List Go.Eng.Frame → Tr Res) : List AV → List Go.Eng.Frame → Tr Res := cent (A_spec_AreaOk (0) (0) (0) (0)) (U_spec_AreaOk (0) (0) (0) (0)) (FH_spec_AreaOk n) O_spec_AreaOk d
theorem eo_spec_AreaOk (n : Nat) {d : List AV → List Go.Eng.Frame → Tr Res} (hd : ∀ ar up r, (d ar up).run = some r → runs KP lib n 34 ar up = some r) : ∀ ar up r, (E_spec_AreaOk n d ar up).run = some r → runs KP lib n 34 ar up = some r :=
  cent_ok (fun hs r h => by
    unfold FH_spec_AreaOk at h
    split at h
    · exact ⟨A_spec_AreaOk _ _ _ _, U_spec_AreaOk _ _ _ _, rfl, rfl, th_spec_AreaOk n _ _ _ _ r h⟩
    · cases h) hd
/-! ### spec.Common -/
def A_spec_Common (x0 : Int) (x1 : Int) (x2 : Int) (x3 : Int) (x4 : Int) (x5 : Int) (x6 : Int) (x7 : Int) : List AV := [(.agg [(.p (.i .i64 x0)), (.p (.i .i64 x1)), (.p (.i .i64 x2)), (.p (.i .i64 x3))]), (.agg [(.p (.i .i64 x4)), (.p (.i .i64 x5)), (.p (.i .i64 x6)), (.p (.i .i64 x7))])]
def U_spec_Common (x0 : Int) (x1 : Int) (x2 : Int) (x3 : Int) (x4 : Int) (x5 : Int) (x6 : Int) (x7 : Int) : List Go.Eng.Frame := []
def O_spec_Common (r : Int × Int × Int × Int × Bool) : Res := ⟨(.tup [(true, [(.p (.i .i64 r.1)), (.p (.i .i64 r.2.1)), (.p (.i .i64 r.2.2.1)), (.p (.i .i64 r.2.2.2.1))]), (false, [(.p (.b r.2.2.2.2))])]), [], []⟩
abbrev CT_spec_Common (n : Nat) : CTab := mkCT [(34, E_spec_AreaOk n (noEnt))]
abbrev LT_spec_Common (n : Nat) : LTab := mkLT []
def T_spec_Common (n : Nat) (x0 : Int) (x1 : Int) (x2 : Int) (x3 : Int) (x4 : Int) (x5 : Int) (x6 : Int) (x7 : Int) : Tr (Int × Int × Int × Int × Bool) := (.opt (F_spec_AreaOk n x0 x1 x2 x3) fun r43 => (.ask ((!r43)) (.done ((0 : Int), (0 : Int), (0 : Int), (0 : Int), false)) (.opt (F_spec_AreaOk n x4 x5 x6 x7) fun r44 => (.ask ((!r44)) (.done ((0 : Int), (0 : Int), (0 : Int), (0 : Int), false)) (.opt (F_spec_AreaOk n (if x4 > x0 then x4 else x0) (if x5 > x1 then x5 else x1) (if x6 < x2 then x6 else x2) (if x7 < x3 then x7 else x3)) fun r45 => (.ask ((!r45)) (.done ((0 : Int), (0 : Int), (0 : Int), (0 : Int), false)) (.done ((if x4 > x0 then x4 else x0), (if x5 > x1 then x5 else x1), (if x6 < x2 then x6 else x2), (if x7 < x3 then x7 else x3), true))))))))
def F_spec_Common : Nat → Int → Int → Int → Int → Int → Int → Int → Int → Option (Int × Int × Int × Int × Bool)
  | 0, _, _, _, _, _, _, _, _ => none
  | n + 1, x0, x1, x2, x3, x4, x5, x6, x7 => (T_spec_Common n x0 x1 x2 x3 x4 x5 x6 x7).run
theorem ft_spec_Common (n : Nat) (x0 : Int) (x1 : Int) (x2 : Int) (x3 : Int) (x4 : Int) (x5 : Int) (x6 : Int) (x7 : Int) : funT (CT_spec_Common n) (LT_spec_Common n) K_spec_Common (A_spec_Common x0 x1 x2 x3 x4 x5 x6 x7) (U_spec_Common x0 x1 x2 x3 x4 x5 x6 x7) = (T_spec_Common n x0 x1 x2 x3 x4 x5 x6 x7).bind fun r => .done (O_spec_Common r) := by kernel_rfl
theorem ct_spec_Common (n : Nat) : CTok (CT_spec_Common n) (runs KP lib n) := mkCT_cons (eo_spec_AreaOk n (noEnt_ok)) (mkCT_nil)
theorem th_spec_Common : ∀ (n : Nat) (x0 : Int) (x1 : Int) (x2 : Int) (x3 : Int) (x4 : Int) (x5 : Int) (x6 : Int) (x7 : Int) (r : Int × Int × Int × Int × Bool), F_spec_Common n x0 x1 x2 x3 x4 x5 x6 x7 = some r → runs KP lib n 30 (A_spec_Common x0 x1 x2 x3 x4 x5 x6 x7) (U_spec_Common x0 x1 x2 x3 x4 x5 x6 x7) = some (O_spec_Common r)
  | 0, x0, x1, x2, x3, x4, x5, x6, x7, r, h => by cases h
  | n + 1, x0, x1, x2, x3, x4, x5, x6, x7, r, h => fun_step (kf := K_spec_Common) rfl (ct_spec_Common n) (noLoops rfl) (ft_spec_Common n x0 x1 x2 x3 x4 x5 x6 x7) h
def FH_spec_Common (n : Nat) : Cont → Option (Int × Int × Int × Int × Bool)
  | ([[[.i x0], [.i x1], [.i x2], [.i x3]], [[.i x4], [.i x5], [.i x6], [.i x7]]], []) => F_spec_Common n x0 x1 x2 x3 x4 x5 x6 x7
  | _ => none
def E_spec_Common (n : Nat) (d : List AV → List Go.Eng.Frame → Tr Res) : List AV → List Go.Eng.Frame → Tr Res := cent (A_spec_Common (0) (0) (0) (0) (0) (0) (0) (0)) (U_spec_Common (0) (0) (0) (0) (0) (0) (0) (0)) (FH_spec_Common n) O_spec_Common d
theorem eo_spec_Common (n : Nat) {d : List AV → List Go.Eng.Frame → Tr Res} (hd : ∀ ar up r, (d ar up).run = some r → runs KP lib n 30 ar up = some r) : ∀ ar up r, (E_spec_Common n d ar up).run = some r → runs KP lib n 30 ar up = some r :=
  cent_ok (fun hs r h => by
    unfold FH_spec_Common at h
    split at h
    · exact ⟨A_spec_Common _ _ _ _ _ _ _ _, U_spec_Common _ _ _ _ _ _ _ _, rfl, rfl, th_spec_Common n _ _ _ _ _ _ _ _ r h⟩
    · cases h) hd
/-! ### spec.CellsOf -/
def A_spec_CellsOf (x0 : Int) (x1 : Int) (x2 : Int) (x3 : Int) : List AV := [(.agg [(.p (.i .i64 x0)), (.p (.i .i64 x1)), (.p (.i .i64 x2)), (.p (.i .i64 x3))])]
def U_spec_CellsOf (x0 : Int) (x1 : Int) (x2 : Int) (x3 : Int) : List Go.Eng.Frame := []
def O_spec_CellsOf (r : (List (List PV))) : Res := ⟨(.c (.p (.ls r))), [], []⟩
abbrev CT_spec_CellsOf (n : Nat) : CTab := mkCT [(34, E_spec_AreaOk n (noEnt))]
def S_spec_CellsOf_493 (v : Nat × Int × Int × Int × Int × Int × Int × (List (List PV))) : St := ⟨[(1, (.c (.ptr 0 64 0 0 0))), (3, (.c (.own 0 384 0 v.1))), (4, (.c (.p (.i .i64 v.2.1)))), (5, (.c (.p (.i .i64 v.2.2.1))))], [(64, ⟨0, 4, 49, (.box [(.p (.i .i64 v.2.2.2.1)), (.p (.i .i64 v.2.2.2.2.1)), (.p (.i .i64 v.2.2.2.2.2.1)), (.p (.i .i64 v.2.2.2.2.2.2.1))])⟩), (384, ⟨0, 2, 34, (.row v.2.2.2.2.2.2.2)⟩)], []⟩
def B_spec_CellsOf_493 (n : Nat) (v : Nat × Int × Int × Int × Int × Int × Int × (List (List PV))) : Tr ((Nat × Int × Int × Int × Int × Int × Int × (List (List PV))) ⊕ ((Nat × Int × Int × Int × Int × Int × (List (List PV))))) := (.ask ((decide (v.2.2.1 ≤ v.2.2.2.2.2.1))) (.ask (decide (1 = ([[(.i .i64 v.2.2.1), (.i .i64 v.2.1)]] : List (List PV)).length)) (.ask (decide (v.1 = v.2.2.2.2.2.2.2.length ∧ 0 < 2 ∧ 0 < 16 ∧ (v.1 + ([[(.i .i64 v.2.2.1), (.i .i64 v.2.1)]] : List (List PV)).length) * 16 ≤ 140737488355328 ∧ ([[(.i .i64 v.2.2.1), (.i .i64 v.2.1)]] : List (List PV)).all (fun e => e.length == 2) = true)) (.done (.inl ((v.1 + 1), v.2.1, (IntKind.i64.wrap (v.2.2.1 + (1 : Int))), v.2.2.2.1, v.2.2.2.2.1, v.2.2.2.2.2.1, v.2.2.2.2.2.2.1, (v.2.2.2.2.2.2.2 ++ ([[(.i .i64 v.2.2.1), (.i .i64 v.2.1)]] : List (List PV)))))) .fail) .fail) (.done (.inr ((v.1, v.2.1, v.2.2.2.1, v.2.2.2.2.1, v.2.2.2.2.2.1, v.2.2.2.2.2.2.1, v.2.2.2.2.2.2.2)))))
def D_spec_CellsOf_493 : (Nat × Int × Int × Int × Int × Int × (List (List PV))) → Ex × St := fun r => ((.exit 2), ⟨[(1, (.c (.ptr 0 64 0 0 0))), (3, (.c (.own 0 384 0 r.1))), (4, (.c (.p (.i .i64 r.2.1))))], [(64, ⟨0, 4, 49, (.box [(.p (.i .i64 r.2.2.1)), (.p (.i .i64 r.2.2.2.1)), (.p (.i .i64 r.2.2.2.2.1)), (.p (.i .i64 r.2.2.2.2.2.1))])⟩), (384, ⟨0, 2, 34, (.row r.2.2.2.2.2.2)⟩)], []⟩)
def DT_spec_CellsOf_493 : (Nat × Int × Int × Int × Int × Int × (List (List PV))) → Tr (Ex × St) := fun r => .done ((.exit 2), ⟨[(1, (.c (.ptr 0 64 0 0 0))), (3, (.c (.own 0 384 0 r.1))), (4, (.c (.p (.i .i64 r.2.1))))], [(64, ⟨0, 4, 49, (.box [(.p (.i .i64 r.2.2.1)), (.p (.i .i64 r.2.2.2.1)), (.p (.i .i64 r.2.2.2.2.1)), (.p (.i .i64 r.2.2.2.2.2.1))])⟩), (384, ⟨0, 2, 34, (.row r.2.2.2.2.2.2)⟩)], []⟩)
def VH_spec_CellsOf_493 : Cont3 → Option (Nat × Int × Int × Int × Int × Int × Int × (List (List PV)))
  | ([[[]], [[.n w0]], [[.i w1]], [[.i w2]]], [[[.i w3], [.i w4], [.i w5], [.i w6]], [[.r w7]]], []) => some (w0, w1, w2, w3, w4, w5, w6, w7)
  | _ => none
abbrev LE_spec_CellsOf_493 (n : Nat) : St → Tr (Ex × St) := lent (S_spec_CellsOf_493 (0, 0, 0, 0, 0, 0, 0, [])) VH_spec_CellsOf_493 (B_spec_CellsOf_493 n) DT_spec_CellsOf_493 n
def S_spec_CellsOf_61 (v : Nat × Int × Int × Int × Int × Int × (List (List PV))) : St := ⟨[(1, (.c (.ptr 0 64 0 0 0))), (3, (.c (.own 0 384 0 v.1))), (4, (.c (.p (.i .i64 v.2.1))))], [(64, ⟨0, 4, 49, (.box [(.p (.i .i64 v.2.2.1)), (.p (.i .i64 v.2.2.2.1)), (.p (.i .i64 v.2.2.2.2.1)), (.p (.i .i64 v.2.2.2.2.2.1))])⟩), (384, ⟨0, 2, 34, (.row v.2.2.2.2.2.2)⟩)], []⟩
def B_spec_CellsOf_61 (n : Nat) (v : Nat × Int × Int × Int × Int × Int × (List (List PV))) : Tr ((Nat × Int × Int × Int × Int × Int × (List (List PV))) ⊕ ((Nat × (List (List PV))))) := (.ask ((decide (v.2.1 ≤ v.2.2.2.2.2.1))) (.opt (loopF (B_spec_CellsOf_493 n) n (v.1, v.2.1, v.2.2.1, v.2.2.1, v.2.2.2.1, v.2.2.2.2.1, v.2.2.2.2.2.1, v.2.2.2.2.2.2)) fun r48 => (.done (.inl (r48.1, (IntKind.i64.wrap (r48.2.1 + (1 : Int))), r48.2.2.1, r48.2.2.2.1, r48.2.2.2.2.1, r48.2.2.2.2.2.1, r48.2.2.2.2.2.2)))) (.done (.inr ((v.1, v.2.2.2.2.2.2)))))
def D_spec_CellsOf_61 : (Nat × (List (List PV))) → Ex × St := fun r => ((.exit 0), ⟨[(3, (.c (.own 0 384 0 r.1)))], [(384, ⟨0, 2, 34, (.row r.2)⟩)], []⟩)
def DT_spec_CellsOf_61 : (Nat × (List (List PV))) → Tr (Ex × St) := fun r => .done ((.exit 0), ⟨[(3, (.c (.own 0 384 0 r.1)))], [(384, ⟨0, 2, 34, (.row r.2)⟩)], []⟩)
def VH_spec_CellsOf_61 : Cont3 → Option (Nat × Int × Int × Int × Int × Int × (List (List PV)))
  | ([[[]], [[.n w0]], [[.i w1]]], [[[.i w2], [.i w3], [.i w4], [.i w5]], [[.r w6]]], []) => some (w0, w1, w2, w3, w4, w5, w6)
  | _ => none
abbrev LE_spec_CellsOf_61 (n : Nat) : St → Tr (Ex × St) := lent (S_spec_CellsOf_61 (0, 0, 0, 0, 0, 0, [])) VH_spec_CellsOf_61 (B_spec_CellsOf_61 n) DT_spec_CellsOf_61 n
abbrev LT_spec_CellsOf (n : Nat) : LTab := mkLT [(61, LE_spec_CellsOf_61 n)]
def T_spec_CellsOf (n : Nat) (x0 : Int) (x1 : Int) (x2 : Int) (x3 : Int) : Tr ((List (List PV))) := (.opt (F_spec_AreaOk n x0 x1 x2 x3) fun r47 => (.ask ((!r47)) (.ask (decide (0 = ([] : List (List PV)).length)) (.done ([] : List (List PV))) .fail) (.opt (loopF (B_spec_CellsOf_61 n) n ((0 : Nat), x1, x0, x1, x2, x3, ([] : List (List PV)))) fun r49 => (.ask (decide (r49.1 = r49.2.length)) (.done r49.2) .fail))))
def F_spec_CellsOf : Nat → Int → Int → Int → Int → Option ((List (List PV)))
  | 0, _, _, _, _ => none
  | n + 1, x0, x1, x2, x3 => (T_spec_CellsOf n x0 x1 x2 x3).run
theorem ft_spec_CellsOf (n : Nat) (x0 : Int) (x1 : Int) (x2 : Int) (x3 : Int) : funT (CT_spec_CellsOf n) (LT_spec_CellsOf n) K_spec_CellsOf (A_spec_CellsOf x0 x1 x2 x3) (U_spec_CellsOf x0 x1 x2 x3) = (T_spec_CellsOf n x0 x1 x2 x3).bind fun r => .done (O_spec_CellsOf r) := by kernel_rfl
theorem ct_spec_CellsOf (n : Nat) : CTok (CT_spec_CellsOf n) (runs KP lib n) := mkCT_cons (eo_spec_AreaOk n (noEnt_ok)) (mkCT_nil)
theorem lt_spec_CellsOf_493 (n : Nat) (v : Nat × Int × Int × Int × Int × Int × Int × (List (List PV))) : (evalCT (CT_spec_CellsOf n) (mkLT []) K_spec_CellsOf_L493 (S_spec_CellsOf_493 v) []).bind (ltail [1, 3, 4, 5] [(.ret, [2]), ((.exit 2), [1, 3, 4]), ((.exit 1), [1, 3, 4]), ((.exit 0), [3])]) = (B_spec_CellsOf_493 n v).bind (lenc S_spec_CellsOf_493 D_spec_CellsOf_493) := by
  obtain ⟨w0, w1, w2, w3, w4, w5, w6, w7⟩ := v
  kernel_rfl
theorem le_spec_CellsOf_493 (n : Nat) : LEok (runs KP lib n) n (493, [1, 3, 4, 5], [(.ret, [2]), ((.exit 2), [1, 3, 4]), ((.exit 1), [1, 3, 4]), ((.exit 0), [3])], K_spec_CellsOf_L493) (LE_spec_CellsOf_493 n) := fun st e s h =>
  lent_ok (ct_spec_CellsOf n) (noLoops rfl) (lt_spec_CellsOf_493 n) (fun r h => by cases h) (fun r y h => by cases h; rfl) (fun hs v h => by
    unfold VH_spec_CellsOf_493 at h
    split at h <;> cases h
    rfl) h
theorem li_spec_CellsOf_61 (n : Nat) : LTok (mkLT [(493, LE_spec_CellsOf_493 n)]) (runs KP lib n) n K_spec_CellsOf_L61 := mkLT_ok (by
  intro x hx
  have hx : x ∈ ([(493, [1, 3, 4, 5], [(.ret, [2]), ((.exit 2), [1, 3, 4]), ((.exit 1), [1, 3, 4]), ((.exit 0), [3])], K_spec_CellsOf_L493)] : List (Nat × List Nat × List (Ex × List Nat) × KCode)) := hx
  simp only [List.mem_cons, List.not_mem_nil, or_false] at hx
  rcases hx with rfl
  · exact ⟨LE_spec_CellsOf_493 n, fun st => rfl, le_spec_CellsOf_493 n⟩)
theorem lt_spec_CellsOf_61 (n : Nat) (v : Nat × Int × Int × Int × Int × Int × (List (List PV))) : (evalCT (CT_spec_CellsOf n) (mkLT [(493, LE_spec_CellsOf_493 n)]) K_spec_CellsOf_L61 (S_spec_CellsOf_61 v) []).bind (ltail [1, 3, 4] [(.ret, [2]), ((.exit 0), [3])]) = (B_spec_CellsOf_61 n v).bind (lenc S_spec_CellsOf_61 D_spec_CellsOf_61) := by
  obtain ⟨w0, w1, w2, w3, w4, w5, w6⟩ := v
  kernel_rfl
theorem le_spec_CellsOf_61 (n : Nat) : LEok (runs KP lib n) n (61, [1, 3, 4], [(.ret, [2]), ((.exit 0), [3])], K_spec_CellsOf_L61) (LE_spec_CellsOf_61 n) := fun st e s h =>
  lent_ok (ct_spec_CellsOf n) (li_spec_CellsOf_61 n) (lt_spec_CellsOf_61 n) (fun r h => by cases h) (fun r y h => by cases h; rfl) (fun hs v h => by
    unfold VH_spec_CellsOf_61 at h
    split at h <;> cases h
    rfl) h
theorem lo_spec_CellsOf (n : Nat) : LTok (LT_spec_CellsOf n) (runs KP lib n) n K_spec_CellsOf.body := mkLT_ok (by
  intro x hx
  have hx : x ∈ ([(61, [1, 3, 4], [(.ret, [2]), ((.exit 0), [3])], K_spec_CellsOf_L61)] : List (Nat × List Nat × List (Ex × List Nat) × KCode)) := hx
  simp only [List.mem_cons, List.not_mem_nil, or_false] at hx
  rcases hx with rfl
  · exact ⟨LE_spec_CellsOf_61 n, fun st => rfl, le_spec_CellsOf_61 n⟩)
theorem th_spec_CellsOf : ∀ (n : Nat) (x0 : Int) (x1 : Int) (x2 : Int) (x3 : Int) (r : (List (List PV))), F_spec_CellsOf n x0 x1 x2 x3 = some r → runs KP lib n 32 (A_spec_CellsOf x0 x1 x2 x3) (U_spec_CellsOf x0 x1 x2 x3) = some (O_spec_CellsOf r)
  | 0, x0, x1, x2, x3, r, h => by cases h
  | n + 1, x0, x1, x2, x3, r, h => fun_step (kf := K_spec_CellsOf) rfl (ct_spec_CellsOf n) (lo_spec_CellsOf n) (ft_spec_CellsOf n x0 x1 x2 x3) h
def FH_spec_CellsOf (n : Nat) : Cont → Option ((List (List PV)))
  | ([[[.i x0], [.i x1], [.i x2], [.i x3]]], []) => F_spec_CellsOf n x0 x1 x2 x3
  | _ => none
def E_spec_CellsOf (n : Nat) (d : List AV → List Go.Eng.Frame → Tr Res) : List AV → List Go.Eng.Frame → Tr Res := cent (A_spec_CellsOf (0) (0) (0) (0)) (U_spec_CellsOf (0) (0) (0) (0)) (FH_spec_CellsOf n) O_spec_CellsOf d
theorem eo_spec_CellsOf (n : Nat) {d : List AV → List Go.Eng.Frame → Tr Res} (hd : ∀ ar up r, (d ar up).run = some r → runs KP lib n 32 ar up = some r) : ∀ ar up r, (E_spec_CellsOf n d ar up).run = some r → runs KP lib n 32 ar up = some r :=
  cent_ok (fun hs r h => by
    unfold FH_spec_CellsOf at h
    split at h
    · exact ⟨A_spec_CellsOf _ _ _ _, U_spec_CellsOf _ _ _ _, rfl, rfl, th_spec_CellsOf n _ _ _ _ r h⟩
    · cases h) hd
/-! ### laws.sameRefs -/
def A_laws_sameRefs (x0 : List (List PV)) (x1 : List (List PV)) : List AV := [(.c (.p (.ls x0))), (.c (.p (.ls x1)))]
def U_laws_sameRefs (x0 : List (List PV)) (x1 : List (List PV)) : List Go.Eng.Frame := []
def O_laws_sameRefs (r : Bool) : Res := ⟨(.c (.p (.b r))), [], []⟩
abbrev CT_laws_sameRefs (n : Nat) : CTab := mkCT []
def S_laws_sameRefs_29 (v : (List (List PV)) × (List (List PV)) × Int) : St := ⟨[(0, (.c (.p (.ls v.1)))), (1, (.c (.p (.ls v.2.1)))), (5, (.c (.p (.i .i64 v.2.2))))], [], []⟩
def B_laws_sameRefs_29 (n : Nat) (v : (List (List PV)) × (List (List PV)) × Int) : Tr (((List (List PV)) × (List (List PV)) × Int) ⊕ ((Bool) ⊕ (Unit))) := (.ask ((decide (v.2.2 < (v.1.length : Int)))) (.ask (decide (0 ≤ v.2.2 ∧ v.2.2 < v.1.length)) (.opt (v.1[(v.2.2).toNat]?) fun e51 => (.ask (decide (e51.length = 2)) (.opt (cellI .i64 e51 0) fun y52 => (.opt (cellI .i64 e51 1) fun y53 => (.ask (decide (0 ≤ v.2.2 ∧ v.2.2 < v.2.1.length)) (.opt (v.2.1[(v.2.2).toNat]?) fun e54 => (.ask (decide (e54.length = 2)) (.opt (cellI .i64 e54 0) fun y55 => (.opt (cellI .i64 e54 1) fun y56 => (.ask ((!((y52 == y55) && ((y53 == y56) && true)))) (.done (.inr (.inl (false)))) (.done (.inl (v.1, v.2.1, (IntKind.i64.wrap (v.2.2 + (1 : Int))))))))) .fail)) .fail))) .fail)) .fail) (.done (.inr (.inr (())))))
def D_laws_sameRefs_29 : ((Bool) ⊕ (Unit)) → Ex × St := fun | .inl r => (.ret, ⟨[(4, (.c (.p (.b r))))], [], []⟩) | .inr r => (fun r => ((.exit 0), ⟨[], [], []⟩)) r
def DT_laws_sameRefs_29 : ((Bool) ⊕ (Unit)) → Tr (Ex × St) := fun r => .alt r (fun r => .done (.ret, ⟨[(4, (.c (.p (.b r))))], [], []⟩)) (fun r => .done ((.exit 0), ⟨[], [], []⟩))
def VH_laws_sameRefs_29 : Cont3 → Option ((List (List PV)) × (List (List PV)) × Int)
  | ([[[.r w0]], [[.r w1]], [[.i w2]]], [], []) => some (w0, w1, w2)
  | _ => none
abbrev LE_laws_sameRefs_29 (n : Nat) : St → Tr (Ex × St) := lent (S_laws_sameRefs_29 ([], [], 0)) VH_laws_sameRefs_29 (B_laws_sameRefs_29 n) DT_laws_sameRefs_29 n
abbrev LT_laws_sameRefs (n : Nat) : LTab := mkLT [(29, LE_laws_sameRefs_29 n)]
def T_laws_sameRefs (n : Nat) (x0 : List (List PV)) (x1 : List (List PV)) : Tr (Bool) := (.ask (((x0.length : Int) != (x1.length : Int))) (.done false) (.opt (loopF (B_laws_sameRefs_29 n) n (x0, x1, (0 : Int))) fun r57 => (.alt r57 (fun r58 => (.done r58)) (fun r59 => (.done true)))))
def F_laws_sameRefs : Nat → List (List PV) → List (List PV) → Option (Bool)
  | 0, _, _ => none
  | n + 1, x0, x1 => (T_laws_sameRefs n x0 x1).run
theorem ft_laws_sameRefs (n : Nat) (x0 : List (List PV)) (x1 : List (List PV)) : funT (CT_laws_sameRefs n) (LT_laws_sameRefs n) K_laws_sameRefs (A_laws_sameRefs x0 x1) (U_laws_sameRefs x0 x1) = (T_laws_sameRefs n x0 x1).bind fun r => .done (O_laws_sameRefs r) := by kernel_rfl
theorem ct_laws_sameRefs (n : Nat) : CTok (CT_laws_sameRefs n) (runs KP lib n) := mkCT_nil
theorem lt_laws_sameRefs_29 (n : Nat) (v : (List (List PV)) × (List (List PV)) × Int) : (evalCT (CT_laws_sameRefs n) (mkLT []) K_laws_sameRefs_L29 (S_laws_sameRefs_29 v) []).bind (ltail [0, 1, 5] [(.ret, [4]), ((.exit 0), [])]) = (B_laws_sameRefs_29 n v).bind (lenc S_laws_sameRefs_29 D_laws_sameRefs_29) := by
  obtain ⟨w0, w1, w2⟩ := v
  kernel_rfl
theorem le_laws_sameRefs_29 (n : Nat) : LEok (runs KP lib n) n (29, [0, 1, 5], [(.ret, [4]), ((.exit 0), [])], K_laws_sameRefs_L29) (LE_laws_sameRefs_29 n) := fun st e s h =>
  lent_ok (ct_laws_sameRefs n) (noLoops rfl) (lt_laws_sameRefs_29 n) (fun r => by
    rcases r with r | r <;> (intro h; cases h)) (fun r y h => by
    rcases r with r | r <;> (cases h; rfl)) (fun hs v h => by
    unfold VH_laws_sameRefs_29 at h
    split at h <;> cases h
    rfl) h
theorem lo_laws_sameRefs (n : Nat) : LTok (LT_laws_sameRefs n) (runs KP lib n) n K_laws_sameRefs.body := mkLT_ok (by
  intro x hx
  have hx : x ∈ ([(29, [0, 1, 5], [(.ret, [4]), ((.exit 0), [])], K_laws_sameRefs_L29)] : List (Nat × List Nat × List (Ex × List Nat) × KCode)) := hx
  simp only [List.mem_cons, List.not_mem_nil, or_false] at hx
  rcases hx with rfl
  · exact ⟨LE_laws_sameRefs_29 n, fun st => rfl, le_laws_sameRefs_29 n⟩)
theorem th_laws_sameRefs : ∀ (n : Nat) (x0 : List (List PV)) (x1 : List (List PV)) (r : Bool), F_laws_sameRefs n x0 x1 = some r → runs KP lib n 31 (A_laws_sameRefs x0 x1) (U_laws_sameRefs x0 x1) = some (O_laws_sameRefs r)
  | 0, x0, x1, r, h => by cases h
  | n + 1, x0, x1, r, h => fun_step (kf := K_laws_sameRefs) rfl (ct_laws_sameRefs n) (lo_laws_sameRefs n) (ft_laws_sameRefs n x0 x1) h
def FH_laws_sameRefs (n : Nat) : Cont → Option (Bool)
  | ([[[.r x0]], [[.r x1]]], []) => F_laws_sameRefs n x0 x1
  | _ => none
def E_laws_sameRefs (n : Nat) (d : List AV → List Go.Eng.Frame → Tr Res) : List AV → List Go.Eng.Frame → Tr Res := cent (A_laws_sameRefs ([]) ([])) (U_laws_sameRefs ([]) ([])) (FH_laws_sameRefs n) O_laws_sameRefs d
theorem eo_laws_sameRefs (n : Nat) {d : List AV → List Go.Eng.Frame → Tr Res} (hd : ∀ ar up r, (d ar up).run = some r → runs KP lib n 31 ar up = some r) : ∀ ar up r, (E_laws_sameRefs n d ar up).run = some r → runs KP lib n 31 ar up = some r :=
  cent_ok (fun hs r h => by
    unfold FH_laws_sameRefs at h
    split at h
    · exact ⟨A_laws_sameRefs _ _, U_laws_sameRefs _ _, rfl, rfl, th_laws_sameRefs n _ _ r h⟩
    · cases h) hd
/-! ### laws.within -/
def A_laws_within (x0 : Int) (x1 : Int) (x2 : Int) (x3 : Int) (x4 : Int) (x5 : Int) : List AV := [(.agg [(.p (.i .i64 x0)), (.p (.i .i64 x1))]), (.agg [(.p (.i .i64 x2)), (.p (.i .i64 x3)), (.p (.i .i64 x4)), (.p (.i .i64 x5))])]
def U_laws_within (x0 : Int) (x1 : Int) (x2 : Int) (x3 : Int) (x4 : Int) (x5 : Int) : List Go.Eng.Frame := []
def O_laws_within (r : Bool) : Res := ⟨(.c (.p (.b r))), [], []⟩
abbrev CT_laws_within (n : Nat) : CTab := mkCT []
abbrev LT_laws_within (n : Nat) : LTab := mkLT []
def T_laws_within (n : Nat) (x0 : Int) (x1 : Int) (x2 : Int) (x3 : Int) (x4 : Int) (x5 : Int) : Tr (Bool) := (.ask ((decide (x0 ≥ x2))) (.ask ((decide (x0 ≤ x4))) (.ask ((decide (x1 ≥ x3))) (.done (decide (x1 ≤ x5))) (.done false)) (.done false)) (.done false))
def F_laws_within : Nat → Int → Int → Int → Int → Int → Int → Option (Bool)
  | 0, _, _, _, _, _, _ => none
  | n + 1, x0, x1, x2, x3, x4, x5 => (T_laws_within n x0 x1 x2 x3 x4 x5).run
theorem ft_laws_within (n : Nat) (x0 : Int) (x1 : Int) (x2 : Int) (x3 : Int) (x4 : Int) (x5 : Int) : funT (CT_laws_within n) (LT_laws_within n) K_laws_within (A_laws_within x0 x1 x2 x3 x4 x5) (U_laws_within x0 x1 x2 x3 x4 x5) = (T_laws_within n x0 x1 x2 x3 x4 x5).bind fun r => .done (O_laws_within r) := by kernel_rfl
theorem ct_laws_within (n : Nat) : CTok (CT_laws_within n) (runs KP lib n) := mkCT_nil
theorem th_laws_within : ∀ (n : Nat) (x0 : Int) (x1 : Int) (x2 : Int) (x3 : Int) (x4 : Int) (x5 : Int) (r : Bool), F_laws_within n x0 x1 x2 x3 x4 x5 = some r → runs KP lib n 35 (A_laws_within x0 x1 x2 x3 x4 x5) (U_laws_within x0 x1 x2 x3 x4 x5) = some (O_laws_within r)
  | 0, x0, x1, x2, x3, x4, x5, r, h => by cases h
  | n + 1, x0, x1, x2, x3, x4, x5, r, h => fun_step (kf := K_laws_within) rfl (ct_laws_within n) (noLoops rfl) (ft_laws_within n x0 x1 x2 x3 x4 x5) h
def FH_laws_within (n : Nat) : Cont → Option (Bool)
  | ([[[.i x0], [.i x1]], [[.i x2], [.i x3], [.i x4], [.i x5]]], []) => F_laws_within n x0 x1 x2 x3 x4 x5
  | _ => none
def E_laws_within (n : Nat) (d : List AV → List Go.Eng.Frame → Tr Res) : List AV → List Go.Eng.Frame → Tr Res := cent (A_laws_within (0) (0) (0) (0) (0) (0)) (U_laws_within (0) (0) (0) (0) (0) (0)) (FH_laws_within n) O_laws_within d
theorem eo_laws_within (n : Nat) {d : List AV → List Go.Eng.Frame → Tr Res} (hd : ∀ ar up r, (d ar up).run = some r → runs KP lib n 35 ar up = some r) : ∀ ar up r, (E_laws_within n d ar up).run = some r → runs KP lib n 35 ar up = some r :=
  cent_ok (fun hs r h => by
    unfold FH_laws_within at h
    split at h
    · exact ⟨A_laws_within _ _ _ _ _ _, U_laws_within _ _ _ _ _ _, rfl, rfl, th_laws_within n _ _ _ _ _ _ r h⟩
    · cases h) hd
/-! ### laws.FnAreas -/
def A_laws_FnAreas (x0 : List (List PV)) : List AV := [(.c (.p (.ls x0)))]
def U_laws_FnAreas (x0 : List (List PV)) : List Go.Eng.Frame := []
def O_laws_FnAreas (r : Bool) : Res := ⟨(.c (.p (.b r))), [], []⟩
abbrev CT_laws_FnAreas (n : Nat) : CTab := mkCT [(26, E_laws_big n (noEnt)), (27, E_spec_DrawCommon n (noEnt)), (28, E_impl_CellsOf n (noEnt)), (29, E_impl_Common n (noEnt)), (30, E_spec_Common n (noEnt)), (32, E_spec_CellsOf n (noEnt)), (31, E_laws_sameRefs n (noEnt)), (33, E_impl_AreaOk n (noEnt)), (34, E_spec_AreaOk n (noEnt)), (35, E_laws_within n (noEnt))]
def S_laws_FnAreas_4093 (v : (List (List PV)) × Bool × Int × Int × Int × Int × Int × Int × Int × Int × Int × Int × Int × Int × Int × Int) : St := ⟨[(3, (.c (.ptr 0 192 0 0 0))), (4, (.c (.ptr 0 256 0 0 0))), (5, (.c (.p (.ls v.1)))), (6, (.c (.ptr 0 384 0 0 0))), (7, (.c (.p (.b v.2.1)))), (10, (.c (.p (.i .i64 v.2.2.1)))), (11, (.c (.p (.i .i64 v.2.2.2.1))))], [(192, ⟨0, 4, 49, (.box [(.p (.i .i64 v.2.2.2.2.1)), (.p (.i .i64 v.2.2.2.2.2.1)), (.p (.i .i64 v.2.2.2.2.2.2.1)), (.p (.i .i64 v.2.2.2.2.2.2.2.1))])⟩), (256, ⟨0, 4, 49, (.box [(.p (.i .i64 v.2.2.2.2.2.2.2.2.1)), (.p (.i .i64 v.2.2.2.2.2.2.2.2.2.1)), (.p (.i .i64 v.2.2.2.2.2.2.2.2.2.2.1)), (.p (.i .i64 v.2.2.2.2.2.2.2.2.2.2.2.1))])⟩), (384, ⟨0, 4, 49, (.box [(.p (.i .i64 v.2.2.2.2.2.2.2.2.2.2.2.2.1)), (.p (.i .i64 v.2.2.2.2.2.2.2.2.2.2.2.2.2.1)), (.p (.i .i64 v.2.2.2.2.2.2.2.2.2.2.2.2.2.2.1)), (.p (.i .i64 v.2.2.2.2.2.2.2.2.2.2.2.2.2.2.2))])⟩)], []⟩
def B_laws_FnAreas_4093 (n : Nat) (v : (List (List PV)) × Bool × Int × Int × Int × Int × Int × Int × Int × Int × Int × Int × Int × Int × Int × Int) : Tr (((List (List PV)) × Bool × Int × Int × Int × Int × Int × Int × Int × Int × Int × Int × Int × Int × Int × Int) ⊕ ((Bool) ⊕ (Bool × Int × Int × Int × Int × Int))) := (.ask ((decide (v.2.2.2.1 < (v.1.length : Int)))) (.ask (decide (0 ≤ v.2.2.2.1 ∧ v.2.2.2.1 < v.1.length)) (.opt (v.1[(v.2.2.2.1).toNat]?) fun e74 => (.ask (decide (e74.length = 2)) (.opt (cellI .i64 e74 0) fun y75 => (.opt (cellI .i64 e74 1) fun y76 => (.opt (F_laws_within n y75 y76 v.2.2.2.2.1 v.2.2.2.2.2.1 v.2.2.2.2.2.2.1 v.2.2.2.2.2.2.2.1) fun r77 => (.ask ((!r77)) (.done (.inr (.inl (false)))) (.opt (F_impl_AreaOk n v.2.2.2.2.2.2.2.2.1 v.2.2.2.2.2.2.2.2.2.1 v.2.2.2.2.2.2.2.2.2.2.1 v.2.2.2.2.2.2.2.2.2.2.2.1) fun r78 => (.ask (r78) (.ask (decide (0 ≤ v.2.2.2.1 ∧ v.2.2.2.1 < v.1.length)) (.opt (v.1[(v.2.2.2.1).toNat]?) fun e79 => (.ask (decide (e79.length = 2)) (.opt (cellI .i64 e79 0) fun y80 => (.opt (cellI .i64 e79 1) fun y81 => (.opt (F_laws_within n y80 y81 v.2.2.2.2.2.2.2.2.1 v.2.2.2.2.2.2.2.2.2.1 v.2.2.2.2.2.2.2.2.2.2.1 v.2.2.2.2.2.2.2.2.2.2.2.1) fun r82 => (.ask (r82) (.done (.inl (v.1, v.2.1, (IntKind.i64.wrap (v.2.2.1 + (1 : Int))), (IntKind.i64.wrap (v.2.2.2.1 + (1 : Int))), v.2.2.2.2.1, v.2.2.2.2.2.1, v.2.2.2.2.2.2.1, v.2.2.2.2.2.2.2.1, v.2.2.2.2.2.2.2.2.1, v.2.2.2.2.2.2.2.2.2.1, v.2.2.2.2.2.2.2.2.2.2.1, v.2.2.2.2.2.2.2.2.2.2.2.1, v.2.2.2.2.2.2.2.2.2.2.2.2.1, v.2.2.2.2.2.2.2.2.2.2.2.2.2.1, v.2.2.2.2.2.2.2.2.2.2.2.2.2.2.1, v.2.2.2.2.2.2.2.2.2.2.2.2.2.2.2))) (.done (.inl (v.1, v.2.1, v.2.2.1, (IntKind.i64.wrap (v.2.2.2.1 + (1 : Int))), v.2.2.2.2.1, v.2.2.2.2.2.1, v.2.2.2.2.2.2.1, v.2.2.2.2.2.2.2.1, v.2.2.2.2.2.2.2.2.1, v.2.2.2.2.2.2.2.2.2.1, v.2.2.2.2.2.2.2.2.2.2.1, v.2.2.2.2.2.2.2.2.2.2.2.1, v.2.2.2.2.2.2.2.2.2.2.2.2.1, v.2.2.2.2.2.2.2.2.2.2.2.2.2.1, v.2.2.2.2.2.2.2.2.2.2.2.2.2.2.1, v.2.2.2.2.2.2.2.2.2.2.2.2.2.2.2))))))) .fail)) .fail) (.done (.inl (v.1, v.2.1, v.2.2.1, (IntKind.i64.wrap (v.2.2.2.1 + (1 : Int))), v.2.2.2.2.1, v.2.2.2.2.2.1, v.2.2.2.2.2.2.1, v.2.2.2.2.2.2.2.1, v.2.2.2.2.2.2.2.2.1, v.2.2.2.2.2.2.2.2.2.1, v.2.2.2.2.2.2.2.2.2.2.1, v.2.2.2.2.2.2.2.2.2.2.2.1, v.2.2.2.2.2.2.2.2.2.2.2.2.1, v.2.2.2.2.2.2.2.2.2.2.2.2.2.1, v.2.2.2.2.2.2.2.2.2.2.2.2.2.2.1, v.2.2.2.2.2.2.2.2.2.2.2.2.2.2.2))))))))) .fail)) .fail) (.done (.inr (.inr ((v.2.1, v.2.2.1, v.2.2.2.2.2.2.2.2.2.2.2.2.1, v.2.2.2.2.2.2.2.2.2.2.2.2.2.1, v.2.2.2.2.2.2.2.2.2.2.2.2.2.2.1, v.2.2.2.2.2.2.2.2.2.2.2.2.2.2.2))))))
def D_laws_FnAreas_4093 : ((Bool) ⊕ (Bool × Int × Int × Int × Int × Int)) → Ex × St := fun | .inl r => (.ret, ⟨[(2, (.c (.p (.b r))))], [], []⟩) | .inr r => (fun r => ((.exit 0), ⟨[(6, (.c (.ptr 0 384 0 0 0))), (7, (.c (.p (.b r.1)))), (10, (.c (.p (.i .i64 r.2.1))))], [(384, ⟨0, 4, 49, (.box [(.p (.i .i64 r.2.2.1)), (.p (.i .i64 r.2.2.2.1)), (.p (.i .i64 r.2.2.2.2.1)), (.p (.i .i64 r.2.2.2.2.2))])⟩)], []⟩)) r
def DT_laws_FnAreas_4093 : ((Bool) ⊕ (Bool × Int × Int × Int × Int × Int)) → Tr (Ex × St) := fun r => .alt r (fun r => .done (.ret, ⟨[(2, (.c (.p (.b r))))], [], []⟩)) (fun r => .done ((.exit 0), ⟨[(6, (.c (.ptr 0 384 0 0 0))), (7, (.c (.p (.b r.1)))), (10, (.c (.p (.i .i64 r.2.1))))], [(384, ⟨0, 4, 49, (.box [(.p (.i .i64 r.2.2.1)), (.p (.i .i64 r.2.2.2.1)), (.p (.i .i64 r.2.2.2.2.1)), (.p (.i .i64 r.2.2.2.2.2))])⟩)], []⟩))
def VH_laws_FnAreas_4093 : Cont3 → Option ((List (List PV)) × Bool × Int × Int × Int × Int × Int × Int × Int × Int × Int × Int × Int × Int × Int × Int)
  | ([[[]], [[]], [[.r w0]], [[]], [[.b w1]], [[.i w2]], [[.i w3]]], [[[.i w4], [.i w5], [.i w6], [.i w7]], [[.i w8], [.i w9], [.i w10], [.i w11]], [[.i w12], [.i w13], [.i w14], [.i w15]]], []) => some (w0, w1, w2, w3, w4, w5, w6, w7, w8, w9, w10, w11, w12, w13, w14, w15)
  | _ => none
abbrev LE_laws_FnAreas_4093 (n : Nat) : St → Tr (Ex × St) := lent (S_laws_FnAreas_4093 ([], false, 0, 0, 0, 0, 0, 0, 0, 0, 0, 0, 0, 0, 0, 0)) VH_laws_FnAreas_4093 (B_laws_FnAreas_4093 n) DT_laws_FnAreas_4093 n
abbrev LT_laws_FnAreas (n : Nat) : LTab := mkLT [(4093, LE_laws_FnAreas_4093 n)]
def T_laws_FnAreas (n : Nat) (x0 : List (List PV)) : Tr (Bool) := (.opt (F_laws_big n x0) fun r1 => (.ask (r1) (.done true) (.opt (F_spec_DrawCommon n x0) fun r26 => (.opt (F_impl_CellsOf n r26.1 r26.2.1 r26.2.2.1 r26.2.2.2.1) fun r34 => (.opt (F_impl_Common n r26.1 r26.2.1 r26.2.2.1 r26.2.2.2.1 r26.2.2.2.2.1 r26.2.2.2.2.2.1 r26.2.2.2.2.2.2.1 r26.2.2.2.2.2.2.2) fun r38 => (.opt (F_spec_Common n r26.1 r26.2.1 r26.2.2.1 r26.2.2.2.1 r26.2.2.2.2.1 r26.2.2.2.2.2.1 r26.2.2.2.2.2.2.1 r26.2.2.2.2.2.2.2) fun r46 => (.opt (F_spec_CellsOf n r26.1 r26.2.1 r26.2.2.1 r26.2.2.2.1) fun r50 => (.opt (F_laws_sameRefs n r34 r50) fun r60 => (.ask ((!r60)) (.opt (F_spec_CellsOf n r26.1 r26.2.1 r26.2.2.1 r26.2.2.2.1) fun r61 => (.opt (F_laws_sameRefs n r34 r61) fun r62 => (.ask (r62) (.ask (((r38.1 == r46.1) && ((r38.2.1 == r46.2.1) && ((r38.2.2.1 == r46.2.2.1) && ((r38.2.2.2.1 == r46.2.2.2.1) && true))))) (.ask ((r38.2.2.2.2 == r46.2.2.2.2)) (.done ((r34.length : Int) == (0 : Int))) (.done false)) (.done false)) (.done false)))) (.ask ((!((r38.1 == r46.1) && ((r38.2.1 == r46.2.1) && ((r38.2.2.1 == r46.2.2.1) && ((r38.2.2.2.1 == r46.2.2.2.1) && true)))))) (.opt (F_spec_CellsOf n r26.1 r26.2.1 r26.2.2.1 r26.2.2.2.1) fun r63 => (.opt (F_laws_sameRefs n r34 r63) fun r64 => (.ask (r64) (.ask (((r38.1 == r46.1) && ((r38.2.1 == r46.2.1) && ((r38.2.2.1 == r46.2.2.1) && ((r38.2.2.2.1 == r46.2.2.2.1) && true))))) (.ask ((r38.2.2.2.2 == r46.2.2.2.2)) (.done ((r34.length : Int) == (0 : Int))) (.done false)) (.done false)) (.done false)))) (.ask ((!(r38.2.2.2.2 == r46.2.2.2.2))) (.opt (F_spec_CellsOf n r26.1 r26.2.1 r26.2.2.1 r26.2.2.2.1) fun r65 => (.opt (F_laws_sameRefs n r34 r65) fun r66 => (.ask (r66) (.ask (((r38.1 == r46.1) && ((r38.2.1 == r46.2.1) && ((r38.2.2.1 == r46.2.2.1) && ((r38.2.2.2.1 == r46.2.2.2.1) && true))))) (.ask ((r38.2.2.2.2 == r46.2.2.2.2)) (.done ((r34.length : Int) == (0 : Int))) (.done false)) (.done false)) (.done false)))) (.opt (F_impl_AreaOk n r26.1 r26.2.1 r26.2.2.1 r26.2.2.2.1) fun r67 => (.opt (F_spec_AreaOk n r26.1 r26.2.1 r26.2.2.1 r26.2.2.2.1) fun r68 => (.ask ((!(r67 == r68))) (.opt (F_spec_CellsOf n r26.1 r26.2.1 r26.2.2.1 r26.2.2.2.1) fun r69 => (.opt (F_laws_sameRefs n r34 r69) fun r70 => (.ask (r70) (.ask (((r38.1 == r46.1) && ((r38.2.1 == r46.2.1) && ((r38.2.2.1 == r46.2.2.1) && ((r38.2.2.2.1 == r46.2.2.2.1) && true))))) (.ask ((r38.2.2.2.2 == r46.2.2.2.2)) (.done ((r34.length : Int) == (0 : Int))) (.done false)) (.done false)) (.done false)))) (.opt (F_impl_AreaOk n r26.1 r26.2.1 r26.2.2.1 r26.2.2.2.1) fun r71 => (.ask ((!r71)) (.opt (F_spec_CellsOf n r26.1 r26.2.1 r26.2.2.1 r26.2.2.2.1) fun r72 => (.opt (F_laws_sameRefs n r34 r72) fun r73 => (.ask (r73) (.ask (((r38.1 == r46.1) && ((r38.2.1 == r46.2.1) && ((r38.2.2.1 == r46.2.2.1) && ((r38.2.2.2.1 == r46.2.2.2.1) && true))))) (.ask ((r38.2.2.2.2 == r46.2.2.2.2)) (.done ((r34.length : Int) == (0 : Int))) (.done false)) (.done false)) (.done false)))) (.ask (((r34.length : Int) != (IntKind.i64.wrap ((IntKind.i64.wrap ((IntKind.i64.wrap (r26.2.2.1 - r26.1)) + (1 : Int))) * (IntKind.i64.wrap ((IntKind.i64.wrap (r26.2.2.2.1 - r26.2.1)) + (1 : Int))))))) (.done false) (.opt (loopF (B_laws_FnAreas_4093 n) n (r34, r38.2.2.2.2, (0 : Int), (0 : Int), r26.1, r26.2.1, r26.2.2.1, r26.2.2.2.1, r26.2.2.2.2.1, r26.2.2.2.2.2.1, r26.2.2.2.2.2.2.1, r26.2.2.2.2.2.2.2, r38.1, r38.2.1, r38.2.2.1, r38.2.2.2.1)) fun r83 => (.alt r83 (fun r84 => (.done r84)) (fun r85 => (.opt (F_impl_CellsOf n r85.2.2.1 r85.2.2.2.1 r85.2.2.2.2.1 r85.2.2.2.2.2) fun r86 => (.ask (((r86.length : Int) == r85.2.1)) (.done (r85.1 == (decide (r85.2.1 > (0 : Int))))) (.done false)))))))))))))))))))))))
def F_laws_FnAreas : Nat → List (List PV) → Option (Bool)
  | 0, _ => none
  | n + 1, x0 => (T_laws_FnAreas n x0).run
theorem ft_laws_FnAreas (n : Nat) (x0 : List (List PV)) : funT (CT_laws_FnAreas n) (LT_laws_FnAreas n) K_laws_FnAreas (A_laws_FnAreas x0) (U_laws_FnAreas x0) = (T_laws_FnAreas n x0).bind fun r => .done (O_laws_FnAreas r) := by kernel_rfl
theorem ct_laws_FnAreas (n : Nat) : CTok (CT_laws_FnAreas n) (runs KP lib n) := mkCT_cons (eo_laws_big n (noEnt_ok)) (mkCT_cons (eo_spec_DrawCommon n (noEnt_ok)) (mkCT_cons (eo_impl_CellsOf n (noEnt_ok)) (mkCT_cons (eo_impl_Common n (noEnt_ok)) (mkCT_cons (eo_spec_Common n (noEnt_ok)) (mkCT_cons (eo_spec_CellsOf n (noEnt_ok)) (mkCT_cons (eo_laws_sameRefs n (noEnt_ok)) (mkCT_cons (eo_impl_AreaOk n (noEnt_ok)) (mkCT_cons (eo_spec_AreaOk n (noEnt_ok)) (mkCT_cons (eo_laws_within n (noEnt_ok)) (mkCT_nil))))))))))
theorem lt_laws_FnAreas_4093 (n : Nat) (v : (List (List PV)) × Bool × Int × Int × Int × Int × Int × Int × Int × Int × Int × Int × Int × Int × Int × Int) : (evalCT (CT_laws_FnAreas n) (mkLT []) K_laws_FnAreas_L4093 (S_laws_FnAreas_4093 v) []).bind (ltail [3, 4, 5, 6, 7, 10, 11] [(.ret, [2]), ((.exit 0), [6, 7, 10])]) = (B_laws_FnAreas_4093 n v).bind (lenc S_laws_FnAreas_4093 D_laws_FnAreas_4093) := by
  obtain ⟨w0, w1, w2, w3, w4, w5, w6, w7, w8, w9, w10, w11, w12, w13, w14, w15⟩ := v
  kernel_rfl
theorem le_laws_FnAreas_4093 (n : Nat) : LEok (runs KP lib n) n (4093, [3, 4, 5, 6, 7, 10, 11], [(.ret, [2]), ((.exit 0), [6, 7, 10])], K_laws_FnAreas_L4093) (LE_laws_FnAreas_4093 n) := fun st e s h =>
  lent_ok (ct_laws_FnAreas n) (noLoops rfl) (lt_laws_FnAreas_4093 n) (fun r => by
    rcases r with r | r <;> (intro h; cases h)) (fun r y h => by
    rcases r with r | r <;> (cases h; rfl)) (fun hs v h => by
    unfold VH_laws_FnAreas_4093 at h
    split at h <;> cases h
    rfl) h
theorem lo_laws_FnAreas (n : Nat) : LTok (LT_laws_FnAreas n) (runs KP lib n) n K_laws_FnAreas.body := mkLT_ok (by
  intro x hx
  have hx : x ∈ ([(4093, [3, 4, 5, 6, 7, 10, 11], [(.ret, [2]), ((.exit 0), [6, 7, 10])], K_laws_FnAreas_L4093)] : List (Nat × List Nat × List (Ex × List Nat) × KCode)) := hx
  simp only [List.mem_cons, List.not_mem_nil, or_false] at hx
  rcases hx with rfl
  · exact ⟨LE_laws_FnAreas_4093 n, fun st => rfl, le_laws_FnAreas_4093 n⟩)
theorem th_laws_FnAreas : ∀ (n : Nat) (x0 : List (List PV)) (r : Bool), F_laws_FnAreas n x0 = some r → runs KP lib n 6 (A_laws_FnAreas x0) (U_laws_FnAreas x0) = some (O_laws_FnAreas r)
  | 0, x0, r, h => by cases h
  | n + 1, x0, r, h => fun_step (kf := K_laws_FnAreas) rfl (ct_laws_FnAreas n) (lo_laws_FnAreas n) (ft_laws_FnAreas n x0) h
def FH_laws_FnAreas (n : Nat) : Cont → Option (Bool)
  | ([[[.r x0]]], []) => F_laws_FnAreas n x0
  | _ => none
def E_laws_FnAreas (n : Nat) (d : List AV → List Go.Eng.Frame → Tr Res) : List AV → List Go.Eng.Frame → Tr Res := cent (A_laws_FnAreas ([])) (U_laws_FnAreas ([])) (FH_laws_FnAreas n) O_laws_FnAreas d
theorem eo_laws_FnAreas (n : Nat) {d : List AV → List Go.Eng.Frame → Tr Res} (hd : ∀ ar up r, (d ar up).run = some r → runs KP lib n 6 ar up = some r) : ∀ ar up r, (E_laws_FnAreas n d ar up).run = some r → runs KP lib n 6 ar up = some r :=
  cent_ok (fun hs r h => by
    unfold FH_laws_FnAreas at h
    split at h
    · exact ⟨A_laws_FnAreas _, U_laws_FnAreas _, rfl, rfl, th_laws_FnAreas n _ r h⟩
    · cases h) hd
end Go.Proofs.Ytaannlnlddbgdab.KFnAreas
