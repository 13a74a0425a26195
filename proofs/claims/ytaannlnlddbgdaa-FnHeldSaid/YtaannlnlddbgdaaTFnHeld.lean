/-
  The trees of what FnHeld calls: plain functions, and that the engine reckons just these. No condition.
-/
import Derived.Test.YtaannlnlddbgdaaKFnHeld
import Derived.Test.YtaannlnlddbgdaaE31
import Derived.KernelRfl
namespace Go.Proofs.Ytaannlnlddbgdaa.KFnHeld
open Go.Eng
set_option linter.unusedVariables false
set_option maxRecDepth 100000
def lib : FuncId → List AV → Option AV := fun _ _ => none
/-! ### laws.big -/
def A_laws_big (x0 : List (List PV)) : List AV := [(.c (.p (.ls x0)))]
def U_laws_big (x0 : List (List PV)) : List Go.Eng.Frame := []
def O_laws_big (r : Bool) : Res := ⟨(.c (.p (.b r))), [], []⟩
abbrev CT_laws_big (n : Nat) : CTab := mkCT []
abbrev LT_laws_big (n : Nat) : LTab := mkLT []
def T_laws_big (n : Nat) (x0 : List (List PV)) : Tr (Bool) := (.done (decide ((x0.length : Int) > (1048576 : Int))))
def F_laws_big : Nat → List (List PV) → Option (Bool)
  | 0, _ => none
  | n + 1, x0 => (T_laws_big n x0).run
theorem ft_laws_big (n : Nat) (x0 : List (List PV)) : funT (CT_laws_big n) (LT_laws_big n) K_laws_big (A_laws_big x0) (U_laws_big x0) = (T_laws_big n x0).bind fun r => .done (O_laws_big r) := by kernel_rfl
theorem ct_laws_big (n : Nat) : CTok (CT_laws_big n) (runs KP lib n) := mkCT_nil
theorem th_laws_big : ∀ (n : Nat) (x0 : List (List PV)) (r : Bool), F_laws_big n x0 = some r → runs KP lib n 22 (A_laws_big x0) (U_laws_big x0) = some (O_laws_big r)
  | 0, x0, r, h => by cases h
  | n + 1, x0, r, h => fun_step (kf := K_laws_big) rfl (ct_laws_big n) (noLoops rfl) (ft_laws_big n x0) h
def FH_laws_big (n : Nat) : Cont → Option (Bool)
  | ([[[.r x0]]], []) => F_laws_big n x0
  | _ => none
def E_laws_big (n : Nat) (d : List AV → List Go.Eng.Frame → Tr Res) : List AV → List Go.Eng.Frame → Tr Res := cent (A_laws_big ([])) (U_laws_big ([])) (FH_laws_big n) O_laws_big d
theorem eo_laws_big (n : Nat) {d : List AV → List Go.Eng.Frame → Tr Res} (hd : ∀ ar up r, (d ar up).run = some r → runs KP lib n 22 ar up = some r) : ∀ ar up r, (E_laws_big n d ar up).run = some r → runs KP lib n 22 ar up = some r :=
  cent_ok (fun hs r h => by
    unfold FH_laws_big at h
    split at h
    · exact ⟨A_laws_big _, U_laws_big _, rfl, rfl, th_laws_big n _ r h⟩
    · cases h) hd
/-! ### spec.l1Open -/
def A_spec_l1Open (x0 : List (List PV)) : List AV := [(.c (.p (.ls x0)))]
def U_spec_l1Open (x0 : List (List PV)) : List Go.Eng.Frame := []
def O_spec_l1Open (r : (List (List PV)) × Int) : Res := ⟨(.c (.ptr 0 0 0 0 0)), [], [⟨0, 2, 66, (.box [(.p (.ls r.1)), (.p (.i .i64 r.2))])⟩]⟩
abbrev CT_spec_l1Open (n : Nat) : CTab := mkCT []
abbrev LT_spec_l1Open (n : Nat) : LTab := mkLT []
def T_spec_l1Open (n : Nat) (x0 : List (List PV)) : Tr ((List (List PV)) × Int) := (.done (x0, (0 : Int)))
def F_spec_l1Open : Nat → List (List PV) → Option ((List (List PV)) × Int)
  | 0, _ => none
  | n + 1, x0 => (T_spec_l1Open n x0).run
theorem ft_spec_l1Open (n : Nat) (x0 : List (List PV)) : funT (CT_spec_l1Open n) (LT_spec_l1Open n) K_spec_l1Open (A_spec_l1Open x0) (U_spec_l1Open x0) = (T_spec_l1Open n x0).bind fun r => .done (O_spec_l1Open r) := by kernel_rfl
theorem ct_spec_l1Open (n : Nat) : CTok (CT_spec_l1Open n) (runs KP lib n) := mkCT_nil
theorem th_spec_l1Open : ∀ (n : Nat) (x0 : List (List PV)) (r : (List (List PV)) × Int), F_spec_l1Open n x0 = some r → runs KP lib n 50 (A_spec_l1Open x0) (U_spec_l1Open x0) = some (O_spec_l1Open r)
  | 0, x0, r, h => by cases h
  | n + 1, x0, r, h => fun_step (kf := K_spec_l1Open) rfl (ct_spec_l1Open n) (noLoops rfl) (ft_spec_l1Open n x0) h
def FH_spec_l1Open (n : Nat) : Cont → Option ((List (List PV)) × Int)
  | ([[[.r x0]]], []) => F_spec_l1Open n x0
  | _ => none
def E_spec_l1Open (n : Nat) (d : List AV → List Go.Eng.Frame → Tr Res) : List AV → List Go.Eng.Frame → Tr Res := cent (A_spec_l1Open ([])) (U_spec_l1Open ([])) (FH_spec_l1Open n) O_spec_l1Open d
theorem eo_spec_l1Open (n : Nat) {d : List AV → List Go.Eng.Frame → Tr Res} (hd : ∀ ar up r, (d ar up).run = some r → runs KP lib n 50 ar up = some r) : ∀ ar up r, (E_spec_l1Open n d ar up).run = some r → runs KP lib n 50 ar up = some r :=
  cent_ok (fun hs r h => by
    unfold FH_spec_l1Open at h
    split at h
    · exact ⟨A_spec_l1Open _, U_spec_l1Open _, rfl, rfl, th_spec_l1Open n _ r h⟩
    · cases h) hd
/-! ### (*spec.l1Rd).next -/
def A_spec_l1Rd_next (x0 : List (List PV)) (x1 : Int) : List AV := [(.c (.ptr 0 0 0 0 0))]
def U_spec_l1Rd_next (x0 : List (List PV)) (x1 : Int) : List Go.Eng.Frame := [[(0, ⟨0, 2, 66, (.box [(.p (.ls x0)), (.p (.i .i64 x1))])⟩)]]
def O_spec_l1Rd_next (r : Int × (List (List PV)) × Int) : Res := ⟨(.c (.p (.i .i64 r.1))), [[(0, ⟨0, 2, 66, (.box [(.p (.ls r.2.1)), (.p (.i .i64 r.2.2))])⟩)]], []⟩
abbrev CT_spec_l1Rd_next (n : Nat) : CTab := mkCT []
abbrev LT_spec_l1Rd_next (n : Nat) : LTab := mkLT []
def T_spec_l1Rd_next (n : Nat) (x0 : List (List PV)) (x1 : Int) : Tr (Int × (List (List PV)) × Int) := (.ask ((decide (x1 ≥ (x0.length : Int)))) (.done ((0 : Int), x0, x1)) (.ask (decide (0 ≤ (IntKind.i64.wrap ((IntKind.i64.wrap (x1 + (1 : Int))) - (1 : Int))) ∧ (IntKind.i64.wrap ((IntKind.i64.wrap (x1 + (1 : Int))) - (1 : Int))) < x0.length)) (.opt (x0[((IntKind.i64.wrap ((IntKind.i64.wrap (x1 + (1 : Int))) - (1 : Int)))).toNat]?) fun e3 => (.ask (decide (e3.length = 1)) (.opt (cellI .u8 e3 0) fun y4 => (.done ((IntKind.i64.wrap y4), x0, (IntKind.i64.wrap (x1 + (1 : Int)))))) .fail)) .fail))
def F_spec_l1Rd_next : Nat → List (List PV) → Int → Option (Int × (List (List PV)) × Int)
  | 0, _, _ => none
  | n + 1, x0, x1 => (T_spec_l1Rd_next n x0 x1).run
theorem ft_spec_l1Rd_next (n : Nat) (x0 : List (List PV)) (x1 : Int) : funT (CT_spec_l1Rd_next n) (LT_spec_l1Rd_next n) K_spec_l1Rd_next (A_spec_l1Rd_next x0 x1) (U_spec_l1Rd_next x0 x1) = (T_spec_l1Rd_next n x0 x1).bind fun r => .done (O_spec_l1Rd_next r) := by kernel_rfl
theorem ct_spec_l1Rd_next (n : Nat) : CTok (CT_spec_l1Rd_next n) (runs KP lib n) := mkCT_nil
theorem th_spec_l1Rd_next : ∀ (n : Nat) (x0 : List (List PV)) (x1 : Int) (r : Int × (List (List PV)) × Int), F_spec_l1Rd_next n x0 x1 = some r → runs KP lib n 70 (A_spec_l1Rd_next x0 x1) (U_spec_l1Rd_next x0 x1) = some (O_spec_l1Rd_next r)
  | 0, x0, x1, r, h => by cases h
  | n + 1, x0, x1, r, h => fun_step (kf := K_spec_l1Rd_next) rfl (ct_spec_l1Rd_next n) (noLoops rfl) (ft_spec_l1Rd_next n x0 x1) h
def FH_spec_l1Rd_next (n : Nat) : Cont → Option (Int × (List (List PV)) × Int)
  | ([[[]]], [[[[.r x0], [.i x1]]]]) => F_spec_l1Rd_next n x0 x1
  | _ => none
def E_spec_l1Rd_next (n : Nat) (d : List AV → List Go.Eng.Frame → Tr Res) : List AV → List Go.Eng.Frame → Tr Res := cent (A_spec_l1Rd_next ([]) (0)) (U_spec_l1Rd_next ([]) (0)) (FH_spec_l1Rd_next n) O_spec_l1Rd_next d
theorem eo_spec_l1Rd_next (n : Nat) {d : List AV → List Go.Eng.Frame → Tr Res} (hd : ∀ ar up r, (d ar up).run = some r → runs KP lib n 70 ar up = some r) : ∀ ar up r, (E_spec_l1Rd_next n d ar up).run = some r → runs KP lib n 70 ar up = some r :=
  cent_ok (fun hs r h => by
    unfold FH_spec_l1Rd_next at h
    split at h
    · exact ⟨A_spec_l1Rd_next _ _, U_spec_l1Rd_next _ _, rfl, rfl, th_spec_l1Rd_next n _ _ r h⟩
    · cases h) hd
/-! ### (*spec.l1Rd).below -/
def A_spec_l1Rd_below (x0 : Int) (x1 : List (List PV)) (x2 : Int) : List AV := [(.c (.ptr 0 0 0 0 0)), (.c (.p (.i .i64 x0)))]
def U_spec_l1Rd_below (x0 : Int) (x1 : List (List PV)) (x2 : Int) : List Go.Eng.Frame := [[(0, ⟨0, 2, 66, (.box [(.p (.ls x1)), (.p (.i .i64 x2))])⟩)]]
def O_spec_l1Rd_below (r : Int × (List (List PV)) × Int) : Res := ⟨(.c (.p (.i .i64 r.1))), [[(0, ⟨0, 2, 66, (.box [(.p (.ls r.2.1)), (.p (.i .i64 r.2.2))])⟩)]], []⟩
abbrev CT_spec_l1Rd_below (n : Nat) : CTab := mkCT [(70, E_spec_l1Rd_next n (noEnt))]
abbrev LT_spec_l1Rd_below (n : Nat) : LTab := mkLT []
def T_spec_l1Rd_below (n : Nat) (x0 : Int) (x1 : List (List PV)) (x2 : Int) : Tr (Int × (List (List PV)) × Int) := (.ask ((decide (x0 ≤ (1 : Int)))) (.done ((0 : Int), x1, x2)) (.ask ((decide (x0 ≤ (256 : Int)))) (.opt (F_spec_l1Rd_next n x1 x2) fun r5 => (.ask (decide (x0 = 0)) .fail (.done ((Int.tmod r5.1 x0), r5.2.1, r5.2.2)))) (.opt (F_spec_l1Rd_next n x1 x2) fun r6 => (.opt (F_spec_l1Rd_next n r6.2.1 r6.2.2) fun r7 => (.ask (decide (x0 = 0)) .fail (.done ((Int.tmod (IntKind.i64.wrap ((IntKind.i64.wrap (r6.1 * (256 : Int))) + r7.1)) x0), r7.2.1, r7.2.2)))))))
def F_spec_l1Rd_below : Nat → Int → List (List PV) → Int → Option (Int × (List (List PV)) × Int)
  | 0, _, _, _ => none
  | n + 1, x0, x1, x2 => (T_spec_l1Rd_below n x0 x1 x2).run
theorem ft_spec_l1Rd_below (n : Nat) (x0 : Int) (x1 : List (List PV)) (x2 : Int) : funT (CT_spec_l1Rd_below n) (LT_spec_l1Rd_below n) K_spec_l1Rd_below (A_spec_l1Rd_below x0 x1 x2) (U_spec_l1Rd_below x0 x1 x2) = (T_spec_l1Rd_below n x0 x1 x2).bind fun r => .done (O_spec_l1Rd_below r) := by kernel_rfl
theorem ct_spec_l1Rd_below (n : Nat) : CTok (CT_spec_l1Rd_below n) (runs KP lib n) := mkCT_cons (eo_spec_l1Rd_next n (noEnt_ok)) (mkCT_nil)
theorem th_spec_l1Rd_below : ∀ (n : Nat) (x0 : Int) (x1 : List (List PV)) (x2 : Int) (r : Int × (List (List PV)) × Int), F_spec_l1Rd_below n x0 x1 x2 = some r → runs KP lib n 65 (A_spec_l1Rd_below x0 x1 x2) (U_spec_l1Rd_below x0 x1 x2) = some (O_spec_l1Rd_below r)
  | 0, x0, x1, x2, r, h => by cases h
  | n + 1, x0, x1, x2, r, h => fun_step (kf := K_spec_l1Rd_below) rfl (ct_spec_l1Rd_below n) (noLoops rfl) (ft_spec_l1Rd_below n x0 x1 x2) h
def FH_spec_l1Rd_below (n : Nat) : Cont → Option (Int × (List (List PV)) × Int)
  | ([[[]], [[.i x0]]], [[[[.r x1], [.i x2]]]]) => F_spec_l1Rd_below n x0 x1 x2
  | _ => none
def E_spec_l1Rd_below (n : Nat) (d : List AV → List Go.Eng.Frame → Tr Res) : List AV → List Go.Eng.Frame → Tr Res := cent (A_spec_l1Rd_below (0) ([]) (0)) (U_spec_l1Rd_below (0) ([]) (0)) (FH_spec_l1Rd_below n) O_spec_l1Rd_below d
theorem eo_spec_l1Rd_below (n : Nat) {d : List AV → List Go.Eng.Frame → Tr Res} (hd : ∀ ar up r, (d ar up).run = some r → runs KP lib n 65 ar up = some r) : ∀ ar up r, (E_spec_l1Rd_below n d ar up).run = some r → runs KP lib n 65 ar up = some r :=
  cent_ok (fun hs r h => by
    unfold FH_spec_l1Rd_below at h
    split at h
    · exact ⟨A_spec_l1Rd_below _ _ _, U_spec_l1Rd_below _ _ _, rfl, rfl, th_spec_l1Rd_below n _ _ _ r h⟩
    · cases h) hd
/-! ### (*spec.l1Rd).once -/
def A_spec_l1Rd_once (x0 : Int) (x1 : List (List PV)) (x2 : Int) : List AV := [(.c (.ptr 0 0 0 0 0)), (.c (.p (.i .i64 x0)))]
def U_spec_l1Rd_once (x0 : Int) (x1 : List (List PV)) (x2 : Int) : List Go.Eng.Frame := [[(0, ⟨0, 2, 66, (.box [(.p (.ls x1)), (.p (.i .i64 x2))])⟩)]]
def O_spec_l1Rd_once (r : Bool × (List (List PV)) × Int) : Res := ⟨(.c (.p (.b r.1))), [[(0, ⟨0, 2, 66, (.box [(.p (.ls r.2.1)), (.p (.i .i64 r.2.2))])⟩)]], []⟩
abbrev CT_spec_l1Rd_once (n : Nat) : CTab := mkCT [(65, E_spec_l1Rd_below n (noEnt))]
abbrev LT_spec_l1Rd_once (n : Nat) : LTab := mkLT []
def T_spec_l1Rd_once (n : Nat) (x0 : Int) (x1 : List (List PV)) (x2 : Int) : Tr (Bool × (List (List PV)) × Int) := (.opt (F_spec_l1Rd_below n x0 x1 x2) fun r8 => (.done ((r8.1 == (IntKind.i64.wrap (x0 - (1 : Int)))), r8.2.1, r8.2.2)))
def F_spec_l1Rd_once : Nat → Int → List (List PV) → Int → Option (Bool × (List (List PV)) × Int)
  | 0, _, _, _ => none
  | n + 1, x0, x1, x2 => (T_spec_l1Rd_once n x0 x1 x2).run
theorem ft_spec_l1Rd_once (n : Nat) (x0 : Int) (x1 : List (List PV)) (x2 : Int) : funT (CT_spec_l1Rd_once n) (LT_spec_l1Rd_once n) K_spec_l1Rd_once (A_spec_l1Rd_once x0 x1 x2) (U_spec_l1Rd_once x0 x1 x2) = (T_spec_l1Rd_once n x0 x1 x2).bind fun r => .done (O_spec_l1Rd_once r) := by kernel_rfl
theorem ct_spec_l1Rd_once (n : Nat) : CTok (CT_spec_l1Rd_once n) (runs KP lib n) := mkCT_cons (eo_spec_l1Rd_below n (noEnt_ok)) (mkCT_nil)
theorem th_spec_l1Rd_once : ∀ (n : Nat) (x0 : Int) (x1 : List (List PV)) (x2 : Int) (r : Bool × (List (List PV)) × Int), F_spec_l1Rd_once n x0 x1 x2 = some r → runs KP lib n 52 (A_spec_l1Rd_once x0 x1 x2) (U_spec_l1Rd_once x0 x1 x2) = some (O_spec_l1Rd_once r)
  | 0, x0, x1, x2, r, h => by cases h
  | n + 1, x0, x1, x2, r, h => fun_step (kf := K_spec_l1Rd_once) rfl (ct_spec_l1Rd_once n) (noLoops rfl) (ft_spec_l1Rd_once n x0 x1 x2) h
def FH_spec_l1Rd_once (n : Nat) : Cont → Option (Bool × (List (List PV)) × Int)
  | ([[[]], [[.i x0]]], [[[[.r x1], [.i x2]]]]) => F_spec_l1Rd_once n x0 x1 x2
  | _ => none
def E_spec_l1Rd_once (n : Nat) (d : List AV → List Go.Eng.Frame → Tr Res) : List AV → List Go.Eng.Frame → Tr Res := cent (A_spec_l1Rd_once (0) ([]) (0)) (U_spec_l1Rd_once (0) ([]) (0)) (FH_spec_l1Rd_once n) O_spec_l1Rd_once d
theorem eo_spec_l1Rd_once (n : Nat) {d : List AV → List Go.Eng.Frame → Tr Res} (hd : ∀ ar up r, (d ar up).run = some r → runs KP lib n 52 ar up = some r) : ∀ ar up r, (E_spec_l1Rd_once n d ar up).run = some r → runs KP lib n 52 ar up = some r :=
  cent_ok (fun hs r h => by
    unfold FH_spec_l1Rd_once at h
    split at h
    · exact ⟨A_spec_l1Rd_once _ _ _, U_spec_l1Rd_once _ _ _, rfl, rfl, th_spec_l1Rd_once n _ _ _ r h⟩
    · cases h) hd
/-! ### (*spec.l1Rd).word -/
def A_spec_l1Rd_word (x0 : List (List PV)) (x1 : Int) : List AV := [(.c (.ptr 0 0 0 0 0))]
def U_spec_l1Rd_word (x0 : List (List PV)) (x1 : Int) : List Go.Eng.Frame := [[(0, ⟨0, 2, 66, (.box [(.p (.ls x0)), (.p (.i .i64 x1))])⟩)]]
def O_spec_l1Rd_word (r : Int × (List (List PV)) × Int) : Res := ⟨(.c (.p (.i .u64 r.1))), [[(0, ⟨0, 2, 66, (.box [(.p (.ls r.2.1)), (.p (.i .i64 r.2.2))])⟩)]], []⟩
abbrev CT_spec_l1Rd_word (n : Nat) : CTab := mkCT [(70, E_spec_l1Rd_next n (noEnt))]
def S_spec_l1Rd_word_29 (v : Int × Int × (List (List PV)) × Int) : St := ⟨[(0, (.c (.ptr 0 0 0 0 0))), (3, (.c (.p (.i .u64 v.1)))), (4, (.c (.p (.i .i64 v.2.1))))], [], [[(0, ⟨0, 2, 66, (.box [(.p (.ls v.2.2.1)), (.p (.i .i64 v.2.2.2))])⟩)]]⟩
def B_spec_l1Rd_word_29 (n : Nat) (v : Int × Int × (List (List PV)) × Int) : Tr ((Int × Int × (List (List PV)) × Int) ⊕ ((Int × (List (List PV)) × Int))) := (.ask ((decide (v.2.1 < (8 : Int)))) (.opt (F_spec_l1Rd_next n v.2.2.1 v.2.2.2) fun r14 => (.done (.inl ((IntKind.u64.wrap ((BitVec.ofInt IntKind.u64.bits (IntKind.u64.wrap (v.1 * (2 : Int) ^ (8 : Nat))) ||| BitVec.ofInt IntKind.u64.bits (IntKind.u64.wrap r14.1)).toNat : Int)), (IntKind.i64.wrap (v.2.1 + (1 : Int))), r14.2.1, r14.2.2)))) (.done (.inr ((v.1, v.2.2.1, v.2.2.2)))))
def D_spec_l1Rd_word_29 : (Int × (List (List PV)) × Int) → Ex × St := fun r => ((.exit 0), ⟨[(3, (.c (.p (.i .u64 r.1))))], [], [[(0, ⟨0, 2, 66, (.box [(.p (.ls r.2.1)), (.p (.i .i64 r.2.2))])⟩)]]⟩)
def DT_spec_l1Rd_word_29 : (Int × (List (List PV)) × Int) → Tr (Ex × St) := fun r => .done ((.exit 0), ⟨[(3, (.c (.p (.i .u64 r.1))))], [], [[(0, ⟨0, 2, 66, (.box [(.p (.ls r.2.1)), (.p (.i .i64 r.2.2))])⟩)]]⟩)
def VH_spec_l1Rd_word_29 : Cont3 → Option (Int × Int × (List (List PV)) × Int)
  | ([[[]], [[.i w0]], [[.i w1]]], [], [[[[.r w2], [.i w3]]]]) => some (w0, w1, w2, w3)
  | _ => none
abbrev LE_spec_l1Rd_word_29 (n : Nat) : St → Tr (Ex × St) := lent (S_spec_l1Rd_word_29 (0, 0, [], 0)) VH_spec_l1Rd_word_29 (B_spec_l1Rd_word_29 n) DT_spec_l1Rd_word_29 n
abbrev LT_spec_l1Rd_word (n : Nat) : LTab := mkLT [(29, LE_spec_l1Rd_word_29 n)]
def T_spec_l1Rd_word (n : Nat) (x0 : List (List PV)) (x1 : Int) : Tr (Int × (List (List PV)) × Int) := (.opt (loopF (B_spec_l1Rd_word_29 n) n ((0 : Int), (0 : Int), x0, x1)) fun r15 => (.done (r15.1, r15.2.1, r15.2.2)))
def F_spec_l1Rd_word : Nat → List (List PV) → Int → Option (Int × (List (List PV)) × Int)
  | 0, _, _ => none
  | n + 1, x0, x1 => (T_spec_l1Rd_word n x0 x1).run
theorem ft_spec_l1Rd_word (n : Nat) (x0 : List (List PV)) (x1 : Int) : funT (CT_spec_l1Rd_word n) (LT_spec_l1Rd_word n) K_spec_l1Rd_word (A_spec_l1Rd_word x0 x1) (U_spec_l1Rd_word x0 x1) = (T_spec_l1Rd_word n x0 x1).bind fun r => .done (O_spec_l1Rd_word r) := by kernel_rfl
theorem ct_spec_l1Rd_word (n : Nat) : CTok (CT_spec_l1Rd_word n) (runs KP lib n) := mkCT_cons (eo_spec_l1Rd_next n (noEnt_ok)) (mkCT_nil)
theorem lt_spec_l1Rd_word_29 (n : Nat) (v : Int × Int × (List (List PV)) × Int) : (evalCT (CT_spec_l1Rd_word n) (mkLT []) K_spec_l1Rd_word_L29 (S_spec_l1Rd_word_29 v) []).bind (ltail [0, 3, 4] [(.ret, [2]), ((.exit 0), [3])]) = (B_spec_l1Rd_word_29 n v).bind (lenc S_spec_l1Rd_word_29 D_spec_l1Rd_word_29) := by
  obtain ⟨w0, w1, w2, w3⟩ := v
  kernel_rfl
theorem le_spec_l1Rd_word_29 (n : Nat) : LEok (runs KP lib n) n (29, [0, 3, 4], [(.ret, [2]), ((.exit 0), [3])], K_spec_l1Rd_word_L29) (LE_spec_l1Rd_word_29 n) := fun st e s h =>
  lent_ok (ct_spec_l1Rd_word n) (noLoops rfl) (lt_spec_l1Rd_word_29 n) (fun r h => by cases h) (fun r y h => by cases h; rfl) (fun hs v h => by
    unfold VH_spec_l1Rd_word_29 at h
    split at h <;> cases h
    rfl) h
theorem lo_spec_l1Rd_word (n : Nat) : LTok (LT_spec_l1Rd_word n) (runs KP lib n) n K_spec_l1Rd_word.body := mkLT_ok (by
  intro x hx
  have hx : x ∈ ([(29, [0, 3, 4], [(.ret, [2]), ((.exit 0), [3])], K_spec_l1Rd_word_L29)] : List (Nat × List Nat × List (Ex × List Nat) × KCode)) := hx
  simp only [List.mem_cons, List.not_mem_nil, or_false] at hx
  rcases hx with rfl
  · exact ⟨LE_spec_l1Rd_word_29 n, fun st => rfl, le_spec_l1Rd_word_29 n⟩)
theorem th_spec_l1Rd_word : ∀ (n : Nat) (x0 : List (List PV)) (x1 : Int) (r : Int × (List (List PV)) × Int), F_spec_l1Rd_word n x0 x1 = some r → runs KP lib n 71 (A_spec_l1Rd_word x0 x1) (U_spec_l1Rd_word x0 x1) = some (O_spec_l1Rd_word r)
  | 0, x0, x1, r, h => by cases h
  | n + 1, x0, x1, r, h => fun_step (kf := K_spec_l1Rd_word) rfl (ct_spec_l1Rd_word n) (lo_spec_l1Rd_word n) (ft_spec_l1Rd_word n x0 x1) h
def FH_spec_l1Rd_word (n : Nat) : Cont → Option (Int × (List (List PV)) × Int)
  | ([[[]]], [[[[.r x0], [.i x1]]]]) => F_spec_l1Rd_word n x0 x1
  | _ => none
def E_spec_l1Rd_word (n : Nat) (d : List AV → List Go.Eng.Frame → Tr Res) : List AV → List Go.Eng.Frame → Tr Res := cent (A_spec_l1Rd_word ([]) (0)) (U_spec_l1Rd_word ([]) (0)) (FH_spec_l1Rd_word n) O_spec_l1Rd_word d
theorem eo_spec_l1Rd_word (n : Nat) {d : List AV → List Go.Eng.Frame → Tr Res} (hd : ∀ ar up r, (d ar up).run = some r → runs KP lib n 71 ar up = some r) : ∀ ar up r, (E_spec_l1Rd_word n d ar up).run = some r → runs KP lib n 71 ar up = some r :=
  cent_ok (fun hs r h => by
    unfold FH_spec_l1Rd_word at h
    split at h
    · exact ⟨A_spec_l1Rd_word _ _, U_spec_l1Rd_word _ _, rfl, rfl, th_spec_l1Rd_word n _ _ r h⟩
    · cases h) hd
/-! ### (*spec.l1Rd).near -/
def A_spec_l1Rd_near (x0 : Int) (x1 : Int) (x2 : List (List PV)) (x3 : Int) : List AV := [(.c (.ptr 0 0 0 0 0)), (.c (.p (.i .i64 x0))), (.c (.p (.i .i64 x1)))]
def U_spec_l1Rd_near (x0 : Int) (x1 : Int) (x2 : List (List PV)) (x3 : Int) : List Go.Eng.Frame := [[(0, ⟨0, 2, 66, (.box [(.p (.ls x2)), (.p (.i .i64 x3))])⟩)]]
def O_spec_l1Rd_near (r : Int × (List (List PV)) × Int) : Res := ⟨(.c (.p (.i .i64 r.1))), [[(0, ⟨0, 2, 66, (.box [(.p (.ls r.2.1)), (.p (.i .i64 r.2.2))])⟩)]], []⟩
abbrev CT_spec_l1Rd_near (n : Nat) : CTab := mkCT [(65, E_spec_l1Rd_below n (noEnt)), (71, E_spec_l1Rd_word n (noEnt))]
abbrev LT_spec_l1Rd_near (n : Nat) : LTab := mkLT []
def T_spec_l1Rd_near (n : Nat) (x0 : Int) (x1 : Int) (x2 : List (List PV)) (x3 : Int) : Tr (Int × (List (List PV)) × Int) := (.opt (F_spec_l1Rd_below n (8 : Int) x2 x3) fun r13 => (.ask ((r13.1 == (0 : Int))) (.done (x0, r13.2.1, r13.2.2)) (.ask ((r13.1 == (1 : Int))) (.done (x1, r13.2.1, r13.2.2)) (.ask ((decide (x1 < x0))) (.done (x0, r13.2.1, r13.2.2)) (.opt (F_spec_l1Rd_word n r13.2.1 r13.2.2) fun r16 => (.ask (decide ((IntKind.u64.wrap (IntKind.i64.wrap ((IntKind.i64.wrap (x1 - x0)) + (1 : Int)))) = 0)) .fail (.done ((IntKind.i64.wrap (x0 + (IntKind.i64.wrap (Int.tmod (Int.fdiv r16.1 ((2 : Int) ^ (1 : Nat))) (IntKind.u64.wrap (IntKind.i64.wrap ((IntKind.i64.wrap (x1 - x0)) + (1 : Int)))))))), r16.2.1, r16.2.2))))))))
def F_spec_l1Rd_near : Nat → Int → Int → List (List PV) → Int → Option (Int × (List (List PV)) × Int)
  | 0, _, _, _, _ => none
  | n + 1, x0, x1, x2, x3 => (T_spec_l1Rd_near n x0 x1 x2 x3).run
theorem ft_spec_l1Rd_near (n : Nat) (x0 : Int) (x1 : Int) (x2 : List (List PV)) (x3 : Int) : funT (CT_spec_l1Rd_near n) (LT_spec_l1Rd_near n) K_spec_l1Rd_near (A_spec_l1Rd_near x0 x1 x2 x3) (U_spec_l1Rd_near x0 x1 x2 x3) = (T_spec_l1Rd_near n x0 x1 x2 x3).bind fun r => .done (O_spec_l1Rd_near r) := by kernel_rfl
theorem ct_spec_l1Rd_near (n : Nat) : CTok (CT_spec_l1Rd_near n) (runs KP lib n) := mkCT_cons (eo_spec_l1Rd_below n (noEnt_ok)) (mkCT_cons (eo_spec_l1Rd_word n (noEnt_ok)) (mkCT_nil))
theorem th_spec_l1Rd_near : ∀ (n : Nat) (x0 : Int) (x1 : Int) (x2 : List (List PV)) (x3 : Int) (r : Int × (List (List PV)) × Int), F_spec_l1Rd_near n x0 x1 x2 x3 = some r → runs KP lib n 69 (A_spec_l1Rd_near x0 x1 x2 x3) (U_spec_l1Rd_near x0 x1 x2 x3) = some (O_spec_l1Rd_near r)
  | 0, x0, x1, x2, x3, r, h => by cases h
  | n + 1, x0, x1, x2, x3, r, h => fun_step (kf := K_spec_l1Rd_near) rfl (ct_spec_l1Rd_near n) (noLoops rfl) (ft_spec_l1Rd_near n x0 x1 x2 x3) h
def FH_spec_l1Rd_near (n : Nat) : Cont → Option (Int × (List (List PV)) × Int)
  | ([[[]], [[.i x0]], [[.i x1]]], [[[[.r x2], [.i x3]]]]) => F_spec_l1Rd_near n x0 x1 x2 x3
  | _ => none
def E_spec_l1Rd_near (n : Nat) (d : List AV → List Go.Eng.Frame → Tr Res) : List AV → List Go.Eng.Frame → Tr Res := cent (A_spec_l1Rd_near (0) (0) ([]) (0)) (U_spec_l1Rd_near (0) (0) ([]) (0)) (FH_spec_l1Rd_near n) O_spec_l1Rd_near d
theorem eo_spec_l1Rd_near (n : Nat) {d : List AV → List Go.Eng.Frame → Tr Res} (hd : ∀ ar up r, (d ar up).run = some r → runs KP lib n 69 ar up = some r) : ∀ ar up r, (E_spec_l1Rd_near n d ar up).run = some r → runs KP lib n 69 ar up = some r :=
  cent_ok (fun hs r h => by
    unfold FH_spec_l1Rd_near at h
    split at h
    · exact ⟨A_spec_l1Rd_near _ _ _ _, U_spec_l1Rd_near _ _ _ _, rfl, rfl, th_spec_l1Rd_near n _ _ _ _ r h⟩
    · cases h) hd
/-! ### (*spec.l1Rd).off -/
def A_spec_l1Rd_off (x0 : Int) (x1 : Int) (x2 : List (List PV)) (x3 : Int) : List AV := [(.c (.ptr 0 0 0 0 0)), (.c (.p (.i .i64 x0))), (.c (.p (.i .i64 x1)))]
def U_spec_l1Rd_off (x0 : Int) (x1 : Int) (x2 : List (List PV)) (x3 : Int) : List Go.Eng.Frame := [[(0, ⟨0, 2, 66, (.box [(.p (.ls x2)), (.p (.i .i64 x3))])⟩)]]
def O_spec_l1Rd_off (r : Int × (List (List PV)) × Int) : Res := ⟨(.c (.p (.i .i64 r.1))), [[(0, ⟨0, 2, 66, (.box [(.p (.ls r.2.1)), (.p (.i .i64 r.2.2))])⟩)]], []⟩
abbrev CT_spec_l1Rd_off (n : Nat) : CTab := mkCT [(52, E_spec_l1Rd_once n (noEnt)), (65, E_spec_l1Rd_below n (noEnt)), (69, E_spec_l1Rd_near n (noEnt))]
abbrev LT_spec_l1Rd_off (n : Nat) : LTab := mkLT []
def T_spec_l1Rd_off (n : Nat) (x0 : Int) (x1 : Int) (x2 : List (List PV)) (x3 : Int) : Tr (Int × (List (List PV)) × Int) := (.opt (F_spec_l1Rd_once n (24 : Int) x2 x3) fun r9 => (.ask (r9.1) (.opt (F_spec_l1Rd_below n (4 : Int) r9.2.1 r9.2.2) fun r10 => (.ask (decide (4 = ([[(.i .i64 (IntKind.i64.wrap (x0 - (1 : Int))))], [(.i .i64 (IntKind.i64.wrap (x1 + (1 : Int))))], [(.i .i64 (-9223372036854775808 : Int))], [(.i .i64 (9223372036854775807 : Int))]] : List (List PV)).length ∧ 0 ≤ r10.1 ∧ r10.1 < ((4 : Nat) : Int))) (.opt (([[(.i .i64 (IntKind.i64.wrap (x0 - (1 : Int))))], [(.i .i64 (IntKind.i64.wrap (x1 + (1 : Int))))], [(.i .i64 (-9223372036854775808 : Int))], [(.i .i64 (9223372036854775807 : Int))]] : List (List PV))[(r10.1).toNat]?) fun e11 => (.opt (cellI .i64 e11 0) fun y12 => (.done (y12, r10.2.1, r10.2.2)))) .fail)) (.opt (F_spec_l1Rd_near n x0 x1 r9.2.1 r9.2.2) fun r17 => (.done (r17.1, r17.2.1, r17.2.2)))))
def F_spec_l1Rd_off : Nat → Int → Int → List (List PV) → Int → Option (Int × (List (List PV)) × Int)
  | 0, _, _, _, _ => none
  | n + 1, x0, x1, x2, x3 => (T_spec_l1Rd_off n x0 x1 x2 x3).run
theorem ft_spec_l1Rd_off (n : Nat) (x0 : Int) (x1 : Int) (x2 : List (List PV)) (x3 : Int) : funT (CT_spec_l1Rd_off n) (LT_spec_l1Rd_off n) K_spec_l1Rd_off (A_spec_l1Rd_off x0 x1 x2 x3) (U_spec_l1Rd_off x0 x1 x2 x3) = (T_spec_l1Rd_off n x0 x1 x2 x3).bind fun r => .done (O_spec_l1Rd_off r) := by kernel_rfl
theorem ct_spec_l1Rd_off (n : Nat) : CTok (CT_spec_l1Rd_off n) (runs KP lib n) := mkCT_cons (eo_spec_l1Rd_once n (noEnt_ok)) (mkCT_cons (eo_spec_l1Rd_below n (noEnt_ok)) (mkCT_cons (eo_spec_l1Rd_near n (noEnt_ok)) (mkCT_nil)))
theorem th_spec_l1Rd_off : ∀ (n : Nat) (x0 : Int) (x1 : Int) (x2 : List (List PV)) (x3 : Int) (r : Int × (List (List PV)) × Int), F_spec_l1Rd_off n x0 x1 x2 x3 = some r → runs KP lib n 60 (A_spec_l1Rd_off x0 x1 x2 x3) (U_spec_l1Rd_off x0 x1 x2 x3) = some (O_spec_l1Rd_off r)
  | 0, x0, x1, x2, x3, r, h => by cases h
  | n + 1, x0, x1, x2, x3, r, h => fun_step (kf := K_spec_l1Rd_off) rfl (ct_spec_l1Rd_off n) (noLoops rfl) (ft_spec_l1Rd_off n x0 x1 x2 x3) h
def FH_spec_l1Rd_off (n : Nat) : Cont → Option (Int × (List (List PV)) × Int)
  | ([[[]], [[.i x0]], [[.i x1]]], [[[[.r x2], [.i x3]]]]) => F_spec_l1Rd_off n x0 x1 x2 x3
  | _ => none
def E_spec_l1Rd_off (n : Nat) (d : List AV → List Go.Eng.Frame → Tr Res) : List AV → List Go.Eng.Frame → Tr Res := cent (A_spec_l1Rd_off (0) (0) ([]) (0)) (U_spec_l1Rd_off (0) (0) ([]) (0)) (FH_spec_l1Rd_off n) O_spec_l1Rd_off d
theorem eo_spec_l1Rd_off (n : Nat) {d : List AV → List Go.Eng.Frame → Tr Res} (hd : ∀ ar up r, (d ar up).run = some r → runs KP lib n 60 ar up = some r) : ∀ ar up r, (E_spec_l1Rd_off n d ar up).run = some r → runs KP lib n 60 ar up = some r :=
  cent_ok (fun hs r h => by
    unfold FH_spec_l1Rd_off at h
    split at h
    · exact ⟨A_spec_l1Rd_off _ _ _ _, U_spec_l1Rd_off _ _ _ _, rfl, rfl, th_spec_l1Rd_off n _ _ _ _ r h⟩
    · cases h) hd
/-! ### (*spec.l1Rd).num -/
def A_spec_l1Rd_num (x0 : List (List PV)) (x1 : Int) : List AV := [(.c (.ptr 0 0 0 0 0))]
def U_spec_l1Rd_num (x0 : List (List PV)) (x1 : Int) : List Go.Eng.Frame := [[(0, ⟨0, 2, 66, (.box [(.p (.ls x0)), (.p (.i .i64 x1))])⟩)]]
def O_spec_l1Rd_num (r : Int × (List (List PV)) × Int) : Res := ⟨(.c (.p (.i .i64 r.1))), [[(0, ⟨0, 2, 66, (.box [(.p (.ls r.2.1)), (.p (.i .i64 r.2.2))])⟩)]], []⟩
abbrev CT_spec_l1Rd_num (n : Nat) : CTab := mkCT [(52, E_spec_l1Rd_once n (noEnt)), (65, E_spec_l1Rd_below n (noEnt))]
abbrev LT_spec_l1Rd_num (n : Nat) : LTab := mkLT []
def T_spec_l1Rd_num (n : Nat) (x0 : List (List PV)) (x1 : Int) : Tr (Int × (List (List PV)) × Int) := (.opt (F_spec_l1Rd_once n (5 : Int) x0 x1) fun r20 => (.ask (r20.1) (.opt (F_spec_l1Rd_below n (5 : Int) r20.2.1 r20.2.2) fun r21 => (.ask (decide (5 = ([[(.i .i64 (1000000000000000 : Int))], [(.i .i64 (-1000000000000000 : Int))], [(.i .i64 (999999999999999 : Int))], [(.i .i64 (31622776 : Int))], [(.i .i64 (-31622777 : Int))]] : List (List PV)).length ∧ 0 ≤ r21.1 ∧ r21.1 < ((5 : Nat) : Int))) (.opt (([[(.i .i64 (1000000000000000 : Int))], [(.i .i64 (-1000000000000000 : Int))], [(.i .i64 (999999999999999 : Int))], [(.i .i64 (31622776 : Int))], [(.i .i64 (-31622777 : Int))]] : List (List PV))[(r21.1).toNat]?) fun e22 => (.opt (cellI .i64 e22 0) fun y23 => (.done (y23, r21.2.1, r21.2.2)))) .fail)) (.opt (F_spec_l1Rd_below n (40 : Int) r20.2.1 r20.2.2) fun r24 => (.done ((IntKind.i64.wrap (r24.1 - (20 : Int))), r24.2.1, r24.2.2)))))
def F_spec_l1Rd_num : Nat → List (List PV) → Int → Option (Int × (List (List PV)) × Int)
  | 0, _, _ => none
  | n + 1, x0, x1 => (T_spec_l1Rd_num n x0 x1).run
theorem ft_spec_l1Rd_num (n : Nat) (x0 : List (List PV)) (x1 : Int) : funT (CT_spec_l1Rd_num n) (LT_spec_l1Rd_num n) K_spec_l1Rd_num (A_spec_l1Rd_num x0 x1) (U_spec_l1Rd_num x0 x1) = (T_spec_l1Rd_num n x0 x1).bind fun r => .done (O_spec_l1Rd_num r) := by kernel_rfl
theorem ct_spec_l1Rd_num (n : Nat) : CTok (CT_spec_l1Rd_num n) (runs KP lib n) := mkCT_cons (eo_spec_l1Rd_once n (noEnt_ok)) (mkCT_cons (eo_spec_l1Rd_below n (noEnt_ok)) (mkCT_nil))
theorem th_spec_l1Rd_num : ∀ (n : Nat) (x0 : List (List PV)) (x1 : Int) (r : Int × (List (List PV)) × Int), F_spec_l1Rd_num n x0 x1 = some r → runs KP lib n 66 (A_spec_l1Rd_num x0 x1) (U_spec_l1Rd_num x0 x1) = some (O_spec_l1Rd_num r)
  | 0, x0, x1, r, h => by cases h
  | n + 1, x0, x1, r, h => fun_step (kf := K_spec_l1Rd_num) rfl (ct_spec_l1Rd_num n) (noLoops rfl) (ft_spec_l1Rd_num n x0 x1) h
def FH_spec_l1Rd_num (n : Nat) : Cont → Option (Int × (List (List PV)) × Int)
  | ([[[]]], [[[[.r x0], [.i x1]]]]) => F_spec_l1Rd_num n x0 x1
  | _ => none
def E_spec_l1Rd_num (n : Nat) (d : List AV → List Go.Eng.Frame → Tr Res) : List AV → List Go.Eng.Frame → Tr Res := cent (A_spec_l1Rd_num ([]) (0)) (U_spec_l1Rd_num ([]) (0)) (FH_spec_l1Rd_num n) O_spec_l1Rd_num d
theorem eo_spec_l1Rd_num (n : Nat) {d : List AV → List Go.Eng.Frame → Tr Res} (hd : ∀ ar up r, (d ar up).run = some r → runs KP lib n 66 ar up = some r) : ∀ ar up r, (E_spec_l1Rd_num n d ar up).run = some r → runs KP lib n 66 ar up = some r :=
  cent_ok (fun hs r h => by
    unfold FH_spec_l1Rd_num at h
    split at h
    · exact ⟨A_spec_l1Rd_num _ _, U_spec_l1Rd_num _ _, rfl, rfl, th_spec_l1Rd_num n _ _ r h⟩
    · cases h) hd
/-! ### (*spec.l1Rd).value -/
def A_spec_l1Rd_value (x0 : List (List PV)) (x1 : Int) : List AV := [(.c (.ptr 0 0 0 0 0))]
def U_spec_l1Rd_value (x0 : List (List PV)) (x1 : Int) : List Go.Eng.Frame := [[(0, ⟨0, 2, 66, (.box [(.p (.ls x0)), (.p (.i .i64 x1))])⟩)]]
def O_spec_l1Rd_value (r : Int × Int × ByteArray × (List (List PV)) × Int) : Res := ⟨(.agg [(.p (.i .i64 r.1)), (.p (.i .i64 r.2.1)), (.p (.s r.2.2.1))]), [[(0, ⟨0, 2, 66, (.box [(.p (.ls r.2.2.2.1)), (.p (.i .i64 r.2.2.2.2))])⟩)]], []⟩
abbrev CT_spec_l1Rd_value (n : Nat) : CTab := mkCT [(65, E_spec_l1Rd_below n (noEnt)), (66, E_spec_l1Rd_num n (noEnt)), (52, E_spec_l1Rd_once n (noEnt)), (60, E_spec_l1Rd_off n (noEnt))]
abbrev LT_spec_l1Rd_value (n : Nat) : LTab := mkLT []
def T_spec_l1Rd_value (n : Nat) (x0 : List (List PV)) (x1 : Int) : Tr (Int × Int × ByteArray × (List (List PV)) × Int) := (.opt (F_spec_l1Rd_below n (8 : Int) x0 x1) fun r19 => (.ask ((r19.1 == (0 : Int))) (.done ((0 : Int), (0 : Int), (⟨#[]⟩ : ByteArray), r19.2.1, r19.2.2)) (.ask ((r19.1 == (1 : Int))) (.opt (F_spec_l1Rd_num n r19.2.1 r19.2.2) fun r25 => (.done ((1 : Int), r25.1, (⟨#[]⟩ : ByteArray), r25.2.1, r25.2.2))) (.ask ((r19.1 == (2 : Int))) (.opt (F_spec_l1Rd_num n r19.2.1 r19.2.2) fun r26 => (.done ((1 : Int), r26.1, (⟨#[]⟩ : ByteArray), r26.2.1, r26.2.2))) (.ask ((r19.1 == (3 : Int))) (.opt (F_spec_l1Rd_num n r19.2.1 r19.2.2) fun r27 => (.done ((1 : Int), r27.1, (⟨#[]⟩ : ByteArray), r27.2.1, r27.2.2))) (.ask ((r19.1 == (4 : Int))) (.opt (F_spec_l1Rd_below n (6 : Int) r19.2.1 r19.2.2) fun r28 => (.ask (decide (6 = ([[(.s (⟨#[]⟩ : ByteArray))], [(.s (⟨#[97]⟩ : ByteArray))], [(.s (⟨#[97, 98]⟩ : ByteArray))], [(.s (⟨#[49]⟩ : ByteArray))], [(.s (⟨#[39]⟩ : ByteArray))], [(.s (⟨#[34, 113, 34]⟩ : ByteArray))]] : List (List PV)).length ∧ 0 ≤ r28.1 ∧ r28.1 < ((6 : Nat) : Int))) (.opt (([[(.s (⟨#[]⟩ : ByteArray))], [(.s (⟨#[97]⟩ : ByteArray))], [(.s (⟨#[97, 98]⟩ : ByteArray))], [(.s (⟨#[49]⟩ : ByteArray))], [(.s (⟨#[39]⟩ : ByteArray))], [(.s (⟨#[34, 113, 34]⟩ : ByteArray))]] : List (List PV))[(r28.1).toNat]?) fun e29 => (.opt (cellS e29 0) fun y30 => (.done ((2 : Int), (0 : Int), y30, r28.2.1, r28.2.2)))) .fail)) (.ask ((r19.1 == (5 : Int))) (.opt (F_spec_l1Rd_below n (2 : Int) r19.2.1 r19.2.2) fun r31 => (.done ((3 : Int), r31.1, (⟨#[]⟩ : ByteArray), r31.2.1, r31.2.2))) (.ask ((r19.1 == (6 : Int))) (.opt (F_spec_l1Rd_below n (5 : Int) r19.2.1 r19.2.2) fun r32 => (.done ((4 : Int), (IntKind.i64.wrap ((1 : Int) + r32.1)), (⟨#[]⟩ : ByteArray), r32.2.1, r32.2.2))) (.opt (F_spec_l1Rd_once n (4 : Int) r19.2.1 r19.2.2) fun r33 => (.ask (r33.1) (.opt (F_spec_l1Rd_off n (0 : Int) (4 : Int) r33.2.1 r33.2.2) fun r34 => (.opt (F_spec_l1Rd_off n (0 : Int) (5 : Int) r34.2.1 r34.2.2) fun r35 => (.done (r34.1, r35.1, (⟨#[]⟩ : ByteArray), r35.2.1, r35.2.2)))) (.opt (F_spec_l1Rd_below n (5 : Int) r33.2.1 r33.2.2) fun r36 => (.done ((1 : Int), r36.1, (⟨#[]⟩ : ByteArray), r36.2.1, r36.2.2)))))))))))))
def F_spec_l1Rd_value : Nat → List (List PV) → Int → Option (Int × Int × ByteArray × (List (List PV)) × Int)
  | 0, _, _ => none
  | n + 1, x0, x1 => (T_spec_l1Rd_value n x0 x1).run
theorem ft_spec_l1Rd_value (n : Nat) (x0 : List (List PV)) (x1 : Int) : funT (CT_spec_l1Rd_value n) (LT_spec_l1Rd_value n) K_spec_l1Rd_value (A_spec_l1Rd_value x0 x1) (U_spec_l1Rd_value x0 x1) = (T_spec_l1Rd_value n x0 x1).bind fun r => .done (O_spec_l1Rd_value r) := by kernel_rfl
theorem ct_spec_l1Rd_value (n : Nat) : CTok (CT_spec_l1Rd_value n) (runs KP lib n) := mkCT_cons (eo_spec_l1Rd_below n (noEnt_ok)) (mkCT_cons (eo_spec_l1Rd_num n (noEnt_ok)) (mkCT_cons (eo_spec_l1Rd_once n (noEnt_ok)) (mkCT_cons (eo_spec_l1Rd_off n (noEnt_ok)) (mkCT_nil))))
theorem th_spec_l1Rd_value : ∀ (n : Nat) (x0 : List (List PV)) (x1 : Int) (r : Int × Int × ByteArray × (List (List PV)) × Int), F_spec_l1Rd_value n x0 x1 = some r → runs KP lib n 51 (A_spec_l1Rd_value x0 x1) (U_spec_l1Rd_value x0 x1) = some (O_spec_l1Rd_value r)
  | 0, x0, x1, r, h => by cases h
  | n + 1, x0, x1, r, h => fun_step (kf := K_spec_l1Rd_value) rfl (ct_spec_l1Rd_value n) (noLoops rfl) (ft_spec_l1Rd_value n x0 x1) h
def FH_spec_l1Rd_value (n : Nat) : Cont → Option (Int × Int × ByteArray × (List (List PV)) × Int)
  | ([[[]]], [[[[.r x0], [.i x1]]]]) => F_spec_l1Rd_value n x0 x1
  | _ => none
def E_spec_l1Rd_value (n : Nat) (d : List AV → List Go.Eng.Frame → Tr Res) : List AV → List Go.Eng.Frame → Tr Res := cent (A_spec_l1Rd_value ([]) (0)) (U_spec_l1Rd_value ([]) (0)) (FH_spec_l1Rd_value n) O_spec_l1Rd_value d
theorem eo_spec_l1Rd_value (n : Nat) {d : List AV → List Go.Eng.Frame → Tr Res} (hd : ∀ ar up r, (d ar up).run = some r → runs KP lib n 51 ar up = some r) : ∀ ar up r, (E_spec_l1Rd_value n d ar up).run = some r → runs KP lib n 51 ar up = some r :=
  cent_ok (fun hs r h => by
    unfold FH_spec_l1Rd_value at h
    split at h
    · exact ⟨A_spec_l1Rd_value _ _, U_spec_l1Rd_value _ _, rfl, rfl, th_spec_l1Rd_value n _ _ r h⟩
    · cases h) hd
/-! ### spec.DrawHeld -/
def A_spec_DrawHeld (x0 : List (List PV)) : List AV := [(.c (.p (.ls x0)))]
def U_spec_DrawHeld (x0 : List (List PV)) : List Go.Eng.Frame := []
def O_spec_DrawHeld (r : Int × Int × Int × ByteArray × Int × Int × ByteArray) : Res := ⟨(.tup [(false, [(.p (.i .i64 r.1))]), (true, [(.p (.i .i64 r.2.1)), (.p (.i .i64 r.2.2.1)), (.p (.s r.2.2.2.1))]), (true, [(.p (.i .i64 r.2.2.2.2.1)), (.p (.i .i64 r.2.2.2.2.2.1)), (.p (.s r.2.2.2.2.2.2))])]), [], []⟩
abbrev CT_spec_DrawHeld (n : Nat) : CTab := mkCT [(50, E_spec_l1Open n (noEnt)), (60, E_spec_l1Rd_off n (noEnt)), (51, E_spec_l1Rd_value n (noEnt)), (52, E_spec_l1Rd_once n (noEnt))]
abbrev LT_spec_DrawHeld (n : Nat) : LTab := mkLT []
def T_spec_DrawHeld (n : Nat) (x0 : List (List PV)) : Tr (Int × Int × Int × ByteArray × Int × Int × ByteArray) := (.opt (F_spec_l1Open n x0) fun r2 => (.opt (F_spec_l1Rd_off n (6 : Int) (11 : Int) r2.1 r2.2) fun r18 => (.opt (F_spec_l1Rd_value n r18.2.1 r18.2.2) fun r37 => (.opt (F_spec_l1Rd_once n (5 : Int) r37.2.2.2.1 r37.2.2.2.2) fun r38 => (.ask (r38.1) (.done (r18.1, r37.1, r37.2.1, r37.2.2.1, r37.1, r37.2.1, r37.2.2.1)) (.opt (F_spec_l1Rd_value n r38.2.1 r38.2.2) fun r39 => (.done (r18.1, r37.1, r37.2.1, r37.2.2.1, r39.1, r39.2.1, r39.2.2.1))))))))
def F_spec_DrawHeld : Nat → List (List PV) → Option (Int × Int × Int × ByteArray × Int × Int × ByteArray)
  | 0, _ => none
  | n + 1, x0 => (T_spec_DrawHeld n x0).run
theorem ft_spec_DrawHeld (n : Nat) (x0 : List (List PV)) : funT (CT_spec_DrawHeld n) (LT_spec_DrawHeld n) K_spec_DrawHeld (A_spec_DrawHeld x0) (U_spec_DrawHeld x0) = (T_spec_DrawHeld n x0).bind fun r => .done (O_spec_DrawHeld r) := by kernel_rfl
theorem ct_spec_DrawHeld (n : Nat) : CTok (CT_spec_DrawHeld n) (runs KP lib n) := mkCT_cons (eo_spec_l1Open n (noEnt_ok)) (mkCT_cons (eo_spec_l1Rd_off n (noEnt_ok)) (mkCT_cons (eo_spec_l1Rd_value n (noEnt_ok)) (mkCT_cons (eo_spec_l1Rd_once n (noEnt_ok)) (mkCT_nil))))
theorem th_spec_DrawHeld : ∀ (n : Nat) (x0 : List (List PV)) (r : Int × Int × Int × ByteArray × Int × Int × ByteArray), F_spec_DrawHeld n x0 = some r → runs KP lib n 34 (A_spec_DrawHeld x0) (U_spec_DrawHeld x0) = some (O_spec_DrawHeld r)
  | 0, x0, r, h => by cases h
  | n + 1, x0, r, h => fun_step (kf := K_spec_DrawHeld) rfl (ct_spec_DrawHeld n) (noLoops rfl) (ft_spec_DrawHeld n x0) h
def FH_spec_DrawHeld (n : Nat) : Cont → Option (Int × Int × Int × ByteArray × Int × Int × ByteArray)
  | ([[[.r x0]]], []) => F_spec_DrawHeld n x0
  | _ => none
def E_spec_DrawHeld (n : Nat) (d : List AV → List Go.Eng.Frame → Tr Res) : List AV → List Go.Eng.Frame → Tr Res := cent (A_spec_DrawHeld ([])) (U_spec_DrawHeld ([])) (FH_spec_DrawHeld n) O_spec_DrawHeld d
theorem eo_spec_DrawHeld (n : Nat) {d : List AV → List Go.Eng.Frame → Tr Res} (hd : ∀ ar up r, (d ar up).run = some r → runs KP lib n 34 ar up = some r) : ∀ ar up r, (E_spec_DrawHeld n d ar up).run = some r → runs KP lib n 34 ar up = some r :=
  cent_ok (fun hs r h => by
    unfold FH_spec_DrawHeld at h
    split at h
    · exact ⟨A_spec_DrawHeld _, U_spec_DrawHeld _, rfl, rfl, th_spec_DrawHeld n _ r h⟩
    · cases h) hd
/-! ### impl.isText -/
def A_impl_isText (x0 : ByteArray) (x1 : Int) : List AV := [(.c (.p (.s x0))), (.c (.p (.i .i64 x1)))]
def U_impl_isText (x0 : ByteArray) (x1 : Int) : List Go.Eng.Frame := []
def O_impl_isText (r : Bool) : Res := ⟨(.c (.p (.b r))), [], []⟩
abbrev CT_impl_isText (n : Nat) : CTab := mkCT []
def S_impl_isText_13 (v : ByteArray × Int × Int × Int) : St := ⟨[(0, (.c (.p (.s v.1)))), (1, (.c (.p (.i .i64 v.2.1)))), (7, (.c (.p (.i .i64 v.2.2.1)))), (8, (.c (.p (.i .i64 v.2.2.2))))], [], []⟩
def B_impl_isText_13 (n : Nat) (v : ByteArray × Int × Int × Int) : Tr ((ByteArray × Int × Int × Int) ⊕ ((Bool) ⊕ (ByteArray × Int))) := (.ask ((decide (v.2.2.2 < v.2.2.1))) (.ask (decide (0 ≤ v.2.2.2)) (.opt (v.1.toList[(v.2.2.2).toNat]?) fun c41 => (.ask ((decide ((c41.toNat : Int) < (32 : Int)))) (.done (.inr (.inl (false)))) (.ask (decide (0 ≤ v.2.2.2)) (.opt (v.1.toList[(v.2.2.2).toNat]?) fun c42 => (.ask ((decide ((c42.toNat : Int) > (126 : Int)))) (.done (.inr (.inl (false)))) (.done (.inl (v.1, v.2.1, v.2.2.1, (IntKind.i64.wrap (v.2.2.2 + (1 : Int)))))))) .fail))) .fail) (.done (.inr (.inr ((v.1, v.2.1))))))
def D_impl_isText_13 : ((Bool) ⊕ (ByteArray × Int)) → Ex × St := fun | .inl r => (.ret, ⟨[(4, (.c (.p (.b r))))], [], []⟩) | .inr r => (fun r => ((.exit 0), ⟨[(0, (.c (.p (.s r.1)))), (1, (.c (.p (.i .i64 r.2))))], [], []⟩)) r
def DT_impl_isText_13 : ((Bool) ⊕ (ByteArray × Int)) → Tr (Ex × St) := fun r => .alt r (fun r => .done (.ret, ⟨[(4, (.c (.p (.b r))))], [], []⟩)) (fun r => .done ((.exit 0), ⟨[(0, (.c (.p (.s r.1)))), (1, (.c (.p (.i .i64 r.2))))], [], []⟩))
def VH_impl_isText_13 : Cont3 → Option (ByteArray × Int × Int × Int)
  | ([[[.s w0]], [[.i w1]], [[.i w2]], [[.i w3]]], [], []) => some (w0, w1, w2, w3)
  | _ => none
abbrev LE_impl_isText_13 (n : Nat) : St → Tr (Ex × St) := lent (S_impl_isText_13 (⟨#[]⟩, 0, 0, 0)) VH_impl_isText_13 (B_impl_isText_13 n) DT_impl_isText_13 n
abbrev LT_impl_isText (n : Nat) : LTab := mkLT [(13, LE_impl_isText_13 n)]
def T_impl_isText (n : Nat) (x0 : ByteArray) (x1 : Int) : Tr (Bool) := (.opt (loopF (B_impl_isText_13 n) n (x0, x1, (x0.size : Int), (0 : Int))) fun r43 => (.alt r43 (fun r44 => (.done r44)) (fun r45 => (.done (decide ((r45.1.size : Int) ≤ r45.2))))))
def F_impl_isText : Nat → ByteArray → Int → Option (Bool)
  | 0, _, _ => none
  | n + 1, x0, x1 => (T_impl_isText n x0 x1).run
theorem ft_impl_isText (n : Nat) (x0 : ByteArray) (x1 : Int) : funT (CT_impl_isText n) (LT_impl_isText n) K_impl_isText (A_impl_isText x0 x1) (U_impl_isText x0 x1) = (T_impl_isText n x0 x1).bind fun r => .done (O_impl_isText r) := by kernel_rfl
theorem ct_impl_isText (n : Nat) : CTok (CT_impl_isText n) (runs KP lib n) := mkCT_nil
theorem lt_impl_isText_13 (n : Nat) (v : ByteArray × Int × Int × Int) : (evalCT (CT_impl_isText n) (mkLT []) K_impl_isText_L13 (S_impl_isText_13 v) []).bind (ltail [0, 1, 7, 8] [(.ret, [4]), ((.exit 0), [0, 1])]) = (B_impl_isText_13 n v).bind (lenc S_impl_isText_13 D_impl_isText_13) := by
  obtain ⟨w0, w1, w2, w3⟩ := v
  kernel_rfl
theorem le_impl_isText_13 (n : Nat) : LEok (runs KP lib n) n (13, [0, 1, 7, 8], [(.ret, [4]), ((.exit 0), [0, 1])], K_impl_isText_L13) (LE_impl_isText_13 n) := fun st e s h =>
  lent_ok (ct_impl_isText n) (noLoops rfl) (lt_impl_isText_13 n) (fun r => by
    rcases r with r | r <;> (intro h; cases h)) (fun r y h => by
    rcases r with r | r <;> (cases h; rfl)) (fun hs v h => by
    unfold VH_impl_isText_13 at h
    split at h <;> cases h
    rfl) h
theorem lo_impl_isText (n : Nat) : LTok (LT_impl_isText n) (runs KP lib n) n K_impl_isText.body := mkLT_ok (by
  intro x hx
  have hx : x ∈ ([(13, [0, 1, 7, 8], [(.ret, [4]), ((.exit 0), [0, 1])], K_impl_isText_L13)] : List (Nat × List Nat × List (Ex × List Nat) × KCode)) := hx
  simp only [List.mem_cons, List.not_mem_nil, or_false] at hx
  rcases hx with rfl
  · exact ⟨LE_impl_isText_13 n, fun st => rfl, le_impl_isText_13 n⟩)
theorem th_impl_isText : ∀ (n : Nat) (x0 : ByteArray) (x1 : Int) (r : Bool), F_impl_isText n x0 x1 = some r → runs KP lib n 64 (A_impl_isText x0 x1) (U_impl_isText x0 x1) = some (O_impl_isText r)
  | 0, x0, x1, r, h => by cases h
  | n + 1, x0, x1, r, h => fun_step (kf := K_impl_isText) rfl (ct_impl_isText n) (lo_impl_isText n) (ft_impl_isText n x0 x1) h
def FH_impl_isText (n : Nat) : Cont → Option (Bool)
  | ([[[.s x0]], [[.i x1]]], []) => F_impl_isText n x0 x1
  | _ => none
def E_impl_isText (n : Nat) (d : List AV → List Go.Eng.Frame → Tr Res) : List AV → List Go.Eng.Frame → Tr Res := cent (A_impl_isText (⟨#[]⟩) (0)) (U_impl_isText (⟨#[]⟩) (0)) (FH_impl_isText n) O_impl_isText d
theorem eo_impl_isText (n : Nat) {d : List AV → List Go.Eng.Frame → Tr Res} (hd : ∀ ar up r, (d ar up).run = some r → runs KP lib n 64 ar up = some r) : ∀ ar up r, (E_impl_isText n d ar up).run = some r → runs KP lib n 64 ar up = some r :=
  cent_ok (fun hs r h => by
    unfold FH_impl_isText at h
    split at h
    · exact ⟨A_impl_isText _ _, U_impl_isText _ _, rfl, rfl, th_impl_isText n _ _ r h⟩
    · cases h) hd
/-! ### impl.within -/
def A_impl_within (x0 : Int) (x1 : Int) (x2 : Int) : List AV := [(.c (.p (.i .i64 x0))), (.c (.p (.i .i64 x1))), (.c (.p (.i .i64 x2)))]
def U_impl_within (x0 : Int) (x1 : Int) (x2 : Int) : List Go.Eng.Frame := []
def O_impl_within (r : Bool) : Res := ⟨(.c (.p (.b r))), [], []⟩
abbrev CT_impl_within (n : Nat) : CTab := mkCT []
abbrev LT_impl_within (n : Nat) : LTab := mkLT []
def T_impl_within (n : Nat) (x0 : Int) (x1 : Int) (x2 : Int) : Tr (Bool) := (.ask ((decide (x0 ≥ x1))) (.done (decide (x0 ≤ x2))) (.done false))
def F_impl_within : Nat → Int → Int → Int → Option (Bool)
  | 0, _, _, _ => none
  | n + 1, x0, x1, x2 => (T_impl_within n x0 x1 x2).run
theorem ft_impl_within (n : Nat) (x0 : Int) (x1 : Int) (x2 : Int) : funT (CT_impl_within n) (LT_impl_within n) K_impl_within (A_impl_within x0 x1 x2) (U_impl_within x0 x1 x2) = (T_impl_within n x0 x1 x2).bind fun r => .done (O_impl_within r) := by kernel_rfl
theorem ct_impl_within (n : Nat) : CTok (CT_impl_within n) (runs KP lib n) := mkCT_nil
theorem th_impl_within : ∀ (n : Nat) (x0 : Int) (x1 : Int) (x2 : Int) (r : Bool), F_impl_within n x0 x1 x2 = some r → runs KP lib n 48 (A_impl_within x0 x1 x2) (U_impl_within x0 x1 x2) = some (O_impl_within r)
  | 0, x0, x1, x2, r, h => by cases h
  | n + 1, x0, x1, x2, r, h => fun_step (kf := K_impl_within) rfl (ct_impl_within n) (noLoops rfl) (ft_impl_within n x0 x1 x2) h
def FH_impl_within (n : Nat) : Cont → Option (Bool)
  | ([[[.i x0]], [[.i x1]], [[.i x2]]], []) => F_impl_within n x0 x1 x2
  | _ => none
def E_impl_within (n : Nat) (d : List AV → List Go.Eng.Frame → Tr Res) : List AV → List Go.Eng.Frame → Tr Res := cent (A_impl_within (0) (0) (0)) (U_impl_within (0) (0) (0)) (FH_impl_within n) O_impl_within d
theorem eo_impl_within (n : Nat) {d : List AV → List Go.Eng.Frame → Tr Res} (hd : ∀ ar up r, (d ar up).run = some r → runs KP lib n 48 ar up = some r) : ∀ ar up r, (E_impl_within n d ar up).run = some r → runs KP lib n 48 ar up = some r :=
  cent_ok (fun hs r h => by
    unfold FH_impl_within at h
    split at h
    · exact ⟨A_impl_within _ _ _, U_impl_within _ _ _, rfl, rfl, th_impl_within n _ _ _ r h⟩
    · cases h) hd
/-! ### impl.ValueOk -/
def A_impl_ValueOk (x0 : Int) (x1 : Int) (x2 : ByteArray) : List AV := [(.agg [(.p (.i .i64 x0)), (.p (.i .i64 x1)), (.p (.s x2))])]
def U_impl_ValueOk (x0 : Int) (x1 : Int) (x2 : ByteArray) : List Go.Eng.Frame := []
def O_impl_ValueOk (r : Bool) : Res := ⟨(.c (.p (.b r))), [], []⟩
abbrev CT_impl_ValueOk (n : Nat) : CTab := mkCT [(64, E_impl_isText n (noEnt)), (48, E_impl_within n (noEnt))]
abbrev LT_impl_ValueOk (n : Nat) : LTab := mkLT []
def T_impl_ValueOk (n : Nat) (x0 : Int) (x1 : Int) (x2 : ByteArray) : Tr (Bool) := (.ask ((x0 == (2 : Int))) (.ask ((x1 == (0 : Int))) (.opt (F_impl_isText n x2 (200 : Int)) fun r46 => (.done r46)) (.done false)) (.ask ((!(x2.toList == (⟨#[]⟩ : ByteArray).toList))) (.done false) (.ask ((x0 == (0 : Int))) (.done (x1 == (0 : Int))) (.ask ((x0 == (1 : Int))) (.opt (F_impl_within n x1 (-1000000000000000 : Int) (1000000000000000 : Int)) fun r47 => (.done r47)) (.ask ((x0 == (3 : Int))) (.opt (F_impl_within n x1 (0 : Int) (1 : Int)) fun r48 => (.done r48)) (.ask ((x0 == (4 : Int))) (.opt (F_impl_within n x1 (1 : Int) (5 : Int)) fun r49 => (.done r49)) (.done false)))))))
def F_impl_ValueOk : Nat → Int → Int → ByteArray → Option (Bool)
  | 0, _, _, _ => none
  | n + 1, x0, x1, x2 => (T_impl_ValueOk n x0 x1 x2).run
theorem ft_impl_ValueOk (n : Nat) (x0 : Int) (x1 : Int) (x2 : ByteArray) : funT (CT_impl_ValueOk n) (LT_impl_ValueOk n) K_impl_ValueOk (A_impl_ValueOk x0 x1 x2) (U_impl_ValueOk x0 x1 x2) = (T_impl_ValueOk n x0 x1 x2).bind fun r => .done (O_impl_ValueOk r) := by kernel_rfl
theorem ct_impl_ValueOk (n : Nat) : CTok (CT_impl_ValueOk n) (runs KP lib n) := mkCT_cons (eo_impl_isText n (noEnt_ok)) (mkCT_cons (eo_impl_within n (noEnt_ok)) (mkCT_nil))
theorem th_impl_ValueOk : ∀ (n : Nat) (x0 : Int) (x1 : Int) (x2 : ByteArray) (r : Bool), F_impl_ValueOk n x0 x1 x2 = some r → runs KP lib n 47 (A_impl_ValueOk x0 x1 x2) (U_impl_ValueOk x0 x1 x2) = some (O_impl_ValueOk r)
  | 0, x0, x1, x2, r, h => by cases h
  | n + 1, x0, x1, x2, r, h => fun_step (kf := K_impl_ValueOk) rfl (ct_impl_ValueOk n) (noLoops rfl) (ft_impl_ValueOk n x0 x1 x2) h
def FH_impl_ValueOk (n : Nat) : Cont → Option (Bool)
  | ([[[.i x0], [.i x1], [.s x2]]], []) => F_impl_ValueOk n x0 x1 x2
  | _ => none
def E_impl_ValueOk (n : Nat) (d : List AV → List Go.Eng.Frame → Tr Res) : List AV → List Go.Eng.Frame → Tr Res := cent (A_impl_ValueOk (0) (0) (⟨#[]⟩)) (U_impl_ValueOk (0) (0) (⟨#[]⟩)) (FH_impl_ValueOk n) O_impl_ValueOk d
theorem eo_impl_ValueOk (n : Nat) {d : List AV → List Go.Eng.Frame → Tr Res} (hd : ∀ ar up r, (d ar up).run = some r → runs KP lib n 47 ar up = some r) : ∀ ar up r, (E_impl_ValueOk n d ar up).run = some r → runs KP lib n 47 ar up = some r :=
  cent_ok (fun hs r h => by
    unfold FH_impl_ValueOk at h
    split at h
    · exact ⟨A_impl_ValueOk _ _ _, U_impl_ValueOk _ _ _, rfl, rfl, th_impl_ValueOk n _ _ _ r h⟩
    · cases h) hd
/-! ### impl.fault -/
def A_impl_fault (x0 : Int) : List AV := [(.c (.p (.i .i64 x0)))]
def U_impl_fault (x0 : Int) : List Go.Eng.Frame := []
def O_impl_fault (r : Int × Int × ByteArray) : Res := ⟨(.agg [(.p (.i .i64 r.1)), (.p (.i .i64 r.2.1)), (.p (.s r.2.2))]), [], []⟩
abbrev CT_impl_fault (n : Nat) : CTab := mkCT []
abbrev LT_impl_fault (n : Nat) : LTab := mkLT []
def T_impl_fault (n : Nat) (x0 : Int) : Tr (Int × Int × ByteArray) := (.done ((4 : Int), x0, (⟨#[]⟩ : ByteArray)))
def F_impl_fault : Nat → Int → Option (Int × Int × ByteArray)
  | 0, _ => none
  | n + 1, x0 => (T_impl_fault n x0).run
theorem ft_impl_fault (n : Nat) (x0 : Int) : funT (CT_impl_fault n) (LT_impl_fault n) K_impl_fault (A_impl_fault x0) (U_impl_fault x0) = (T_impl_fault n x0).bind fun r => .done (O_impl_fault r) := by kernel_rfl
theorem ct_impl_fault (n : Nat) : CTok (CT_impl_fault n) (runs KP lib n) := mkCT_nil
theorem th_impl_fault : ∀ (n : Nat) (x0 : Int) (r : Int × Int × ByteArray), F_impl_fault n x0 = some r → runs KP lib n 42 (A_impl_fault x0) (U_impl_fault x0) = some (O_impl_fault r)
  | 0, x0, r, h => by cases h
  | n + 1, x0, r, h => fun_step (kf := K_impl_fault) rfl (ct_impl_fault n) (noLoops rfl) (ft_impl_fault n x0) h
def FH_impl_fault (n : Nat) : Cont → Option (Int × Int × ByteArray)
  | ([[[.i x0]]], []) => F_impl_fault n x0
  | _ => none
def E_impl_fault (n : Nat) (d : List AV → List Go.Eng.Frame → Tr Res) : List AV → List Go.Eng.Frame → Tr Res := cent (A_impl_fault (0)) (U_impl_fault (0)) (FH_impl_fault n) O_impl_fault d
theorem eo_impl_fault (n : Nat) {d : List AV → List Go.Eng.Frame → Tr Res} (hd : ∀ ar up r, (d ar up).run = some r → runs KP lib n 42 ar up = some r) : ∀ ar up r, (E_impl_fault n d ar up).run = some r → runs KP lib n 42 ar up = some r :=
  cent_ok (fun hs r h => by
    unfold FH_impl_fault at h
    split at h
    · exact ⟨A_impl_fault _, U_impl_fault _, rfl, rfl, th_impl_fault n _ r h⟩
    · cases h) hd
/-! ### cmp.isNaN[int64] -/
def A_cmp_isNaN_int64 (x0 : Int) : List AV := [(.c (.p (.i .i64 x0)))]
def U_cmp_isNaN_int64 (x0 : Int) : List Go.Eng.Frame := []
def O_cmp_isNaN_int64 (r : Bool) : Res := ⟨(.c (.p (.b r))), [], []⟩
abbrev CT_cmp_isNaN_int64 (n : Nat) : CTab := mkCT []
abbrev LT_cmp_isNaN_int64 (n : Nat) : LTab := mkLT []
def T_cmp_isNaN_int64 (n : Nat) (x0 : Int) : Tr (Bool) := (.done (x0 != x0))
def F_cmp_isNaN_int64 : Nat → Int → Option (Bool)
  | 0, _ => none
  | n + 1, x0 => (T_cmp_isNaN_int64 n x0).run
theorem ft_cmp_isNaN_int64 (n : Nat) (x0 : Int) : funT (CT_cmp_isNaN_int64 n) (LT_cmp_isNaN_int64 n) K_cmp_isNaN_int64 (A_cmp_isNaN_int64 x0) (U_cmp_isNaN_int64 x0) = (T_cmp_isNaN_int64 n x0).bind fun r => .done (O_cmp_isNaN_int64 r) := by kernel_rfl
theorem ct_cmp_isNaN_int64 (n : Nat) : CTok (CT_cmp_isNaN_int64 n) (runs KP lib n) := mkCT_nil
theorem th_cmp_isNaN_int64 : ∀ (n : Nat) (x0 : Int) (r : Bool), F_cmp_isNaN_int64 n x0 = some r → runs KP lib n 67 (A_cmp_isNaN_int64 x0) (U_cmp_isNaN_int64 x0) = some (O_cmp_isNaN_int64 r)
  | 0, x0, r, h => by cases h
  | n + 1, x0, r, h => fun_step (kf := K_cmp_isNaN_int64) rfl (ct_cmp_isNaN_int64 n) (noLoops rfl) (ft_cmp_isNaN_int64 n x0) h
def FH_cmp_isNaN_int64 (n : Nat) : Cont → Option (Bool)
  | ([[[.i x0]]], []) => F_cmp_isNaN_int64 n x0
  | _ => none
def E_cmp_isNaN_int64 (n : Nat) (d : List AV → List Go.Eng.Frame → Tr Res) : List AV → List Go.Eng.Frame → Tr Res := cent (A_cmp_isNaN_int64 (0)) (U_cmp_isNaN_int64 (0)) (FH_cmp_isNaN_int64 n) O_cmp_isNaN_int64 d
theorem eo_cmp_isNaN_int64 (n : Nat) {d : List AV → List Go.Eng.Frame → Tr Res} (hd : ∀ ar up r, (d ar up).run = some r → runs KP lib n 67 ar up = some r) : ∀ ar up r, (E_cmp_isNaN_int64 n d ar up).run = some r → runs KP lib n 67 ar up = some r :=
  cent_ok (fun hs r h => by
    unfold FH_cmp_isNaN_int64 at h
    split at h
    · exact ⟨A_cmp_isNaN_int64 _, U_cmp_isNaN_int64 _, rfl, rfl, th_cmp_isNaN_int64 n _ r h⟩
    · cases h) hd
/-! ### cmp.Compare[int64] -/
def A_cmp_Compare_int64 (x0 : Int) (x1 : Int) : List AV := [(.c (.p (.i .i64 x0))), (.c (.p (.i .i64 x1)))]
def U_cmp_Compare_int64 (x0 : Int) (x1 : Int) : List Go.Eng.Frame := []
def O_cmp_Compare_int64 (r : Int) : Res := ⟨(.c (.p (.i .i64 r))), [], []⟩
abbrev CT_cmp_Compare_int64 (n : Nat) : CTab := mkCT [(67, E_cmp_isNaN_int64 n (noEnt))]
abbrev LT_cmp_Compare_int64 (n : Nat) : LTab := mkLT []
def T_cmp_Compare_int64 (n : Nat) (x0 : Int) (x1 : Int) : Tr (Int) := (.opt (F_cmp_isNaN_int64 n x0) fun r56 => (.opt (F_cmp_isNaN_int64 n x1) fun r57 => (.ask (r56) (.ask (r57) (.done (0 : Int)) (.done (-1 : Int))) (.ask (r57) (.done (1 : Int)) (.ask ((decide (x0 < x1))) (.done (-1 : Int)) (.ask ((decide (x0 > x1))) (.done (1 : Int)) (.done (0 : Int))))))))
def F_cmp_Compare_int64 : Nat → Int → Int → Option (Int)
  | 0, _, _ => none
  | n + 1, x0, x1 => (T_cmp_Compare_int64 n x0 x1).run
theorem ft_cmp_Compare_int64 (n : Nat) (x0 : Int) (x1 : Int) : funT (CT_cmp_Compare_int64 n) (LT_cmp_Compare_int64 n) K_cmp_Compare_int64 (A_cmp_Compare_int64 x0 x1) (U_cmp_Compare_int64 x0 x1) = (T_cmp_Compare_int64 n x0 x1).bind fun r => .done (O_cmp_Compare_int64 r) := by kernel_rfl
theorem ct_cmp_Compare_int64 (n : Nat) : CTok (CT_cmp_Compare_int64 n) (runs KP lib n) := mkCT_cons (eo_cmp_isNaN_int64 n (noEnt_ok)) (mkCT_nil)
theorem th_cmp_Compare_int64 : ∀ (n : Nat) (x0 : Int) (x1 : Int) (r : Int), F_cmp_Compare_int64 n x0 x1 = some r → runs KP lib n 54 (A_cmp_Compare_int64 x0 x1) (U_cmp_Compare_int64 x0 x1) = some (O_cmp_Compare_int64 r)
  | 0, x0, x1, r, h => by cases h
  | n + 1, x0, x1, r, h => fun_step (kf := K_cmp_Compare_int64) rfl (ct_cmp_Compare_int64 n) (noLoops rfl) (ft_cmp_Compare_int64 n x0 x1) h
def FH_cmp_Compare_int64 (n : Nat) : Cont → Option (Int)
  | ([[[.i x0]], [[.i x1]]], []) => F_cmp_Compare_int64 n x0 x1
  | _ => none
def E_cmp_Compare_int64 (n : Nat) (d : List AV → List Go.Eng.Frame → Tr Res) : List AV → List Go.Eng.Frame → Tr Res := cent (A_cmp_Compare_int64 (0) (0)) (U_cmp_Compare_int64 (0) (0)) (FH_cmp_Compare_int64 n) O_cmp_Compare_int64 d
theorem eo_cmp_Compare_int64 (n : Nat) {d : List AV → List Go.Eng.Frame → Tr Res} (hd : ∀ ar up r, (d ar up).run = some r → runs KP lib n 54 ar up = some r) : ∀ ar up r, (E_cmp_Compare_int64 n d ar up).run = some r → runs KP lib n 54 ar up = some r :=
  cent_ok (fun hs r h => by
    unfold FH_cmp_Compare_int64 at h
    split at h
    · exact ⟨A_cmp_Compare_int64 _ _, U_cmp_Compare_int64 _ _, rfl, rfl, th_cmp_Compare_int64 n _ _ r h⟩
    · cases h) hd
/-! ### cmp.isNaN[string] -/
def A_cmp_isNaN_string (x0 : ByteArray) : List AV := [(.c (.p (.s x0)))]
def U_cmp_isNaN_string (x0 : ByteArray) : List Go.Eng.Frame := []
def O_cmp_isNaN_string (r : Bool) : Res := ⟨(.c (.p (.b r))), [], []⟩
abbrev CT_cmp_isNaN_string (n : Nat) : CTab := mkCT []
abbrev LT_cmp_isNaN_string (n : Nat) : LTab := mkLT []
def T_cmp_isNaN_string (n : Nat) (x0 : ByteArray) : Tr (Bool) := (.done (!(x0.toList == x0.toList)))
def F_cmp_isNaN_string : Nat → ByteArray → Option (Bool)
  | 0, _ => none
  | n + 1, x0 => (T_cmp_isNaN_string n x0).run
theorem ft_cmp_isNaN_string (n : Nat) (x0 : ByteArray) : funT (CT_cmp_isNaN_string n) (LT_cmp_isNaN_string n) K_cmp_isNaN_string (A_cmp_isNaN_string x0) (U_cmp_isNaN_string x0) = (T_cmp_isNaN_string n x0).bind fun r => .done (O_cmp_isNaN_string r) := by kernel_rfl
theorem ct_cmp_isNaN_string (n : Nat) : CTok (CT_cmp_isNaN_string n) (runs KP lib n) := mkCT_nil
theorem th_cmp_isNaN_string : ∀ (n : Nat) (x0 : ByteArray) (r : Bool), F_cmp_isNaN_string n x0 = some r → runs KP lib n 68 (A_cmp_isNaN_string x0) (U_cmp_isNaN_string x0) = some (O_cmp_isNaN_string r)
  | 0, x0, r, h => by cases h
  | n + 1, x0, r, h => fun_step (kf := K_cmp_isNaN_string) rfl (ct_cmp_isNaN_string n) (noLoops rfl) (ft_cmp_isNaN_string n x0) h
def FH_cmp_isNaN_string (n : Nat) : Cont → Option (Bool)
  | ([[[.s x0]]], []) => F_cmp_isNaN_string n x0
  | _ => none
def E_cmp_isNaN_string (n : Nat) (d : List AV → List Go.Eng.Frame → Tr Res) : List AV → List Go.Eng.Frame → Tr Res := cent (A_cmp_isNaN_string (⟨#[]⟩)) (U_cmp_isNaN_string (⟨#[]⟩)) (FH_cmp_isNaN_string n) O_cmp_isNaN_string d
theorem eo_cmp_isNaN_string (n : Nat) {d : List AV → List Go.Eng.Frame → Tr Res} (hd : ∀ ar up r, (d ar up).run = some r → runs KP lib n 68 ar up = some r) : ∀ ar up r, (E_cmp_isNaN_string n d ar up).run = some r → runs KP lib n 68 ar up = some r :=
  cent_ok (fun hs r h => by
    unfold FH_cmp_isNaN_string at h
    split at h
    · exact ⟨A_cmp_isNaN_string _, U_cmp_isNaN_string _, rfl, rfl, th_cmp_isNaN_string n _ r h⟩
    · cases h) hd
/-! ### cmp.Compare[string] -/
def A_cmp_Compare_string (x0 : ByteArray) (x1 : ByteArray) : List AV := [(.c (.p (.s x0))), (.c (.p (.s x1)))]
def U_cmp_Compare_string (x0 : ByteArray) (x1 : ByteArray) : List Go.Eng.Frame := []
def O_cmp_Compare_string (r : Int) : Res := ⟨(.c (.p (.i .i64 r))), [], []⟩
abbrev CT_cmp_Compare_string (n : Nat) : CTab := mkCT [(68, E_cmp_isNaN_string n (noEnt))]
abbrev LT_cmp_Compare_string (n : Nat) : LTab := mkLT []
def T_cmp_Compare_string (n : Nat) (x0 : ByteArray) (x1 : ByteArray) : Tr (Int) := (.opt (F_cmp_isNaN_string n x0) fun r60 => (.opt (F_cmp_isNaN_string n x1) fun r61 => (.ask (r60) (.ask (r61) (.done (0 : Int)) (.done (-1 : Int))) (.ask (r61) (.done (1 : Int)) (.ask ((Op.bytesLess x0.toList x1.toList)) (.done (-1 : Int)) (.ask ((!(Op.bytesLess x0.toList x1.toList || x0.toList == x1.toList))) (.done (1 : Int)) (.done (0 : Int))))))))
def F_cmp_Compare_string : Nat → ByteArray → ByteArray → Option (Int)
  | 0, _, _ => none
  | n + 1, x0, x1 => (T_cmp_Compare_string n x0 x1).run
theorem ft_cmp_Compare_string (n : Nat) (x0 : ByteArray) (x1 : ByteArray) : funT (CT_cmp_Compare_string n) (LT_cmp_Compare_string n) K_cmp_Compare_string (A_cmp_Compare_string x0 x1) (U_cmp_Compare_string x0 x1) = (T_cmp_Compare_string n x0 x1).bind fun r => .done (O_cmp_Compare_string r) := by kernel_rfl
theorem ct_cmp_Compare_string (n : Nat) : CTok (CT_cmp_Compare_string n) (runs KP lib n) := mkCT_cons (eo_cmp_isNaN_string n (noEnt_ok)) (mkCT_nil)
theorem th_cmp_Compare_string : ∀ (n : Nat) (x0 : ByteArray) (x1 : ByteArray) (r : Int), F_cmp_Compare_string n x0 x1 = some r → runs KP lib n 55 (A_cmp_Compare_string x0 x1) (U_cmp_Compare_string x0 x1) = some (O_cmp_Compare_string r)
  | 0, x0, x1, r, h => by cases h
  | n + 1, x0, x1, r, h => fun_step (kf := K_cmp_Compare_string) rfl (ct_cmp_Compare_string n) (noLoops rfl) (ft_cmp_Compare_string n x0 x1) h
def FH_cmp_Compare_string (n : Nat) : Cont → Option (Int)
  | ([[[.s x0]], [[.s x1]]], []) => F_cmp_Compare_string n x0 x1
  | _ => none
def E_cmp_Compare_string (n : Nat) (d : List AV → List Go.Eng.Frame → Tr Res) : List AV → List Go.Eng.Frame → Tr Res := cent (A_cmp_Compare_string (⟨#[]⟩) (⟨#[]⟩)) (U_cmp_Compare_string (⟨#[]⟩) (⟨#[]⟩)) (FH_cmp_Compare_string n) O_cmp_Compare_string d
theorem eo_cmp_Compare_string (n : Nat) {d : List AV → List Go.Eng.Frame → Tr Res} (hd : ∀ ar up r, (d ar up).run = some r → runs KP lib n 55 ar up = some r) : ∀ ar up r, (E_cmp_Compare_string n d ar up).run = some r → runs KP lib n 55 ar up = some r :=
  cent_ok (fun hs r h => by
    unfold FH_cmp_Compare_string at h
    split at h
    · exact ⟨A_cmp_Compare_string _ _, U_cmp_Compare_string _ _, rfl, rfl, th_cmp_Compare_string n _ _ r h⟩
    · cases h) hd
/-! ### cmp.Or[int] -/
def A_cmp_Or_int (x0 : List (List PV)) : List AV := [(.c (.p (.ls x0)))]
def U_cmp_Or_int (x0 : List (List PV)) : List Go.Eng.Frame := []
def O_cmp_Or_int (r : Int) : Res := ⟨(.c (.p (.i .i64 r))), [], []⟩
abbrev CT_cmp_Or_int (n : Nat) : CTab := mkCT []
def S_cmp_Or_int_29 (v : Int × (List (List PV)) × Int × Int) : St := ⟨[(3, (.c (.p (.i .i64 v.1)))), (6, (.c (.p (.ls v.2.1)))), (7, (.c (.p (.i .i64 v.2.2.1)))), (8, (.c (.p (.i .i64 v.2.2.2))))], [], []⟩
def B_cmp_Or_int_29 (n : Nat) (v : Int × (List (List PV)) × Int × Int) : Tr ((Int × (List (List PV)) × Int × Int) ⊕ ((Int) ⊕ (Int))) := (.ask ((decide (v.2.2.2 < v.2.2.1))) (.ask (decide (0 ≤ v.2.2.2 ∧ v.2.2.2 < v.2.1.length)) (.opt (v.2.1[(v.2.2.2).toNat]?) fun e63 => (.ask (decide (e63.length = 1)) (.opt (cellI .i64 e63 0) fun y64 => (.ask ((y64 != v.1)) (.done (.inr (.inl (y64)))) (.done (.inl (v.1, v.2.1, v.2.2.1, (IntKind.i64.wrap (v.2.2.2 + (1 : Int)))))))) .fail)) .fail) (.done (.inr (.inr (v.1)))))
def D_cmp_Or_int_29 : ((Int) ⊕ (Int)) → Ex × St := fun | .inl r => (.ret, ⟨[(2, (.c (.p (.i .i64 r))))], [], []⟩) | .inr r => (fun r => ((.exit 0), ⟨[(3, (.c (.p (.i .i64 r))))], [], []⟩)) r
def DT_cmp_Or_int_29 : ((Int) ⊕ (Int)) → Tr (Ex × St) := fun r => .alt r (fun r => .done (.ret, ⟨[(2, (.c (.p (.i .i64 r))))], [], []⟩)) (fun r => .done ((.exit 0), ⟨[(3, (.c (.p (.i .i64 r))))], [], []⟩))
def VH_cmp_Or_int_29 : Cont3 → Option (Int × (List (List PV)) × Int × Int)
  | ([[[.i w0]], [[.r w1]], [[.i w2]], [[.i w3]]], [], []) => some (w0, w1, w2, w3)
  | _ => none
abbrev LE_cmp_Or_int_29 (n : Nat) : St → Tr (Ex × St) := lent (S_cmp_Or_int_29 (0, [], 0, 0)) VH_cmp_Or_int_29 (B_cmp_Or_int_29 n) DT_cmp_Or_int_29 n
abbrev LT_cmp_Or_int (n : Nat) : LTab := mkLT [(29, LE_cmp_Or_int_29 n)]
def T_cmp_Or_int (n : Nat) (x0 : List (List PV)) : Tr (Int) := (.opt (loopF (B_cmp_Or_int_29 n) n ((0 : Int), x0, (x0.length : Int), (0 : Int))) fun r65 => (.alt r65 (fun r66 => (.done r66)) (fun r67 => (.done r67))))
def F_cmp_Or_int : Nat → List (List PV) → Option (Int)
  | 0, _ => none
  | n + 1, x0 => (T_cmp_Or_int n x0).run
theorem ft_cmp_Or_int (n : Nat) (x0 : List (List PV)) : funT (CT_cmp_Or_int n) (LT_cmp_Or_int n) K_cmp_Or_int (A_cmp_Or_int x0) (U_cmp_Or_int x0) = (T_cmp_Or_int n x0).bind fun r => .done (O_cmp_Or_int r) := by kernel_rfl
theorem ct_cmp_Or_int (n : Nat) : CTok (CT_cmp_Or_int n) (runs KP lib n) := mkCT_nil
theorem lt_cmp_Or_int_29 (n : Nat) (v : Int × (List (List PV)) × Int × Int) : (evalCT (CT_cmp_Or_int n) (mkLT []) K_cmp_Or_int_L29 (S_cmp_Or_int_29 v) []).bind (ltail [3, 6, 7, 8] [(.ret, [2]), ((.exit 0), [3])]) = (B_cmp_Or_int_29 n v).bind (lenc S_cmp_Or_int_29 D_cmp_Or_int_29) := by
  obtain ⟨w0, w1, w2, w3⟩ := v
  kernel_rfl
theorem le_cmp_Or_int_29 (n : Nat) : LEok (runs KP lib n) n (29, [3, 6, 7, 8], [(.ret, [2]), ((.exit 0), [3])], K_cmp_Or_int_L29) (LE_cmp_Or_int_29 n) := fun st e s h =>
  lent_ok (ct_cmp_Or_int n) (noLoops rfl) (lt_cmp_Or_int_29 n) (fun r => by
    rcases r with r | r <;> (intro h; cases h)) (fun r y h => by
    rcases r with r | r <;> (cases h; rfl)) (fun hs v h => by
    unfold VH_cmp_Or_int_29 at h
    split at h <;> cases h
    rfl) h
theorem lo_cmp_Or_int (n : Nat) : LTok (LT_cmp_Or_int n) (runs KP lib n) n K_cmp_Or_int.body := mkLT_ok (by
  intro x hx
  have hx : x ∈ ([(29, [3, 6, 7, 8], [(.ret, [2]), ((.exit 0), [3])], K_cmp_Or_int_L29)] : List (Nat × List Nat × List (Ex × List Nat) × KCode)) := hx
  simp only [List.mem_cons, List.not_mem_nil, or_false] at hx
  rcases hx with rfl
  · exact ⟨LE_cmp_Or_int_29 n, fun st => rfl, le_cmp_Or_int_29 n⟩)
theorem th_cmp_Or_int : ∀ (n : Nat) (x0 : List (List PV)) (r : Int), F_cmp_Or_int n x0 = some r → runs KP lib n 53 (A_cmp_Or_int x0) (U_cmp_Or_int x0) = some (O_cmp_Or_int r)
  | 0, x0, r, h => by cases h
  | n + 1, x0, r, h => fun_step (kf := K_cmp_Or_int) rfl (ct_cmp_Or_int n) (lo_cmp_Or_int n) (ft_cmp_Or_int n x0) h
def FH_cmp_Or_int (n : Nat) : Cont → Option (Int)
  | ([[[.r x0]]], []) => F_cmp_Or_int n x0
  | _ => none
def E_cmp_Or_int (n : Nat) (d : List AV → List Go.Eng.Frame → Tr Res) : List AV → List Go.Eng.Frame → Tr Res := cent (A_cmp_Or_int ([])) (U_cmp_Or_int ([])) (FH_cmp_Or_int n) O_cmp_Or_int d
theorem eo_cmp_Or_int (n : Nat) {d : List AV → List Go.Eng.Frame → Tr Res} (hd : ∀ ar up r, (d ar up).run = some r → runs KP lib n 53 ar up = some r) : ∀ ar up r, (E_cmp_Or_int n d ar up).run = some r → runs KP lib n 53 ar up = some r :=
  cent_ok (fun hs r h => by
    unfold FH_cmp_Or_int at h
    split at h
    · exact ⟨A_cmp_Or_int _, U_cmp_Or_int _, rfl, rfl, th_cmp_Or_int n _ r h⟩
    · cases h) hd
/-! ### impl.Order -/
def A_impl_Order (x0 : Int) (x1 : Int) (x2 : ByteArray) (x3 : Int) (x4 : Int) (x5 : ByteArray) : List AV := [(.agg [(.p (.i .i64 x0)), (.p (.i .i64 x1)), (.p (.s x2))]), (.agg [(.p (.i .i64 x3)), (.p (.i .i64 x4)), (.p (.s x5))])]
def U_impl_Order (x0 : Int) (x1 : Int) (x2 : ByteArray) (x3 : Int) (x4 : Int) (x5 : ByteArray) : List Go.Eng.Frame := []
def O_impl_Order (r : Int) : Res := ⟨(.c (.p (.i .i64 r))), [], []⟩
abbrev CT_impl_Order (n : Nat) : CTab := mkCT [(54, E_cmp_Compare_int64 n (noEnt)), (55, E_cmp_Compare_string n (noEnt)), (53, E_cmp_Or_int n (noEnt))]
abbrev LT_impl_Order (n : Nat) : LTab := mkLT []
def T_impl_Order (n : Nat) (x0 : Int) (x1 : Int) (x2 : ByteArray) (x3 : Int) (x4 : Int) (x5 : ByteArray) : Tr (Int) := (.opt (F_cmp_Compare_int64 n x0 x3) fun r58 => (.opt (F_cmp_Compare_int64 n x1 x4) fun r59 => (.opt (F_cmp_Compare_string n x2 x5) fun r62 => (.ask (decide (3 = ([[(.i .i64 r58)], [(.i .i64 r59)], [(.i .i64 r62)]] : List (List PV)).length)) (.opt (F_cmp_Or_int n ([[(.i .i64 r58)], [(.i .i64 r59)], [(.i .i64 r62)]] : List (List PV))) fun r68 => (.ask (apartR (⟨(.c (.p (.i .i64 r68))), [], []⟩ : Res)) (.done r68) .fail)) .fail))))
def F_impl_Order : Nat → Int → Int → ByteArray → Int → Int → ByteArray → Option (Int)
  | 0, _, _, _, _, _, _ => none
  | n + 1, x0, x1, x2, x3, x4, x5 => (T_impl_Order n x0 x1 x2 x3 x4 x5).run
theorem ft_impl_Order (n : Nat) (x0 : Int) (x1 : Int) (x2 : ByteArray) (x3 : Int) (x4 : Int) (x5 : ByteArray) : funT (CT_impl_Order n) (LT_impl_Order n) K_impl_Order (A_impl_Order x0 x1 x2 x3 x4 x5) (U_impl_Order x0 x1 x2 x3 x4 x5) = (T_impl_Order n x0 x1 x2 x3 x4 x5).bind fun r => .done (O_impl_Order r) := by kernel_rfl
theorem ct_impl_Order (n : Nat) : CTok (CT_impl_Order n) (runs KP lib n) := mkCT_cons (eo_cmp_Compare_int64 n (noEnt_ok)) (mkCT_cons (eo_cmp_Compare_string n (noEnt_ok)) (mkCT_cons (eo_cmp_Or_int n (noEnt_ok)) (mkCT_nil)))
theorem th_impl_Order : ∀ (n : Nat) (x0 : Int) (x1 : Int) (x2 : ByteArray) (x3 : Int) (x4 : Int) (x5 : ByteArray) (r : Int), F_impl_Order n x0 x1 x2 x3 x4 x5 = some r → runs KP lib n 25 (A_impl_Order x0 x1 x2 x3 x4 x5) (U_impl_Order x0 x1 x2 x3 x4 x5) = some (O_impl_Order r)
  | 0, x0, x1, x2, x3, x4, x5, r, h => by cases h
  | n + 1, x0, x1, x2, x3, x4, x5, r, h => fun_step (kf := K_impl_Order) rfl (ct_impl_Order n) (noLoops rfl) (ft_impl_Order n x0 x1 x2 x3 x4 x5) h
def FH_impl_Order (n : Nat) : Cont → Option (Int)
  | ([[[.i x0], [.i x1], [.s x2]], [[.i x3], [.i x4], [.s x5]]], []) => F_impl_Order n x0 x1 x2 x3 x4 x5
  | _ => none
def E_impl_Order (n : Nat) (d : List AV → List Go.Eng.Frame → Tr Res) : List AV → List Go.Eng.Frame → Tr Res := cent (A_impl_Order (0) (0) (⟨#[]⟩) (0) (0) (⟨#[]⟩)) (U_impl_Order (0) (0) (⟨#[]⟩) (0) (0) (⟨#[]⟩)) (FH_impl_Order n) O_impl_Order d
theorem eo_impl_Order (n : Nat) {d : List AV → List Go.Eng.Frame → Tr Res} (hd : ∀ ar up r, (d ar up).run = some r → runs KP lib n 25 ar up = some r) : ∀ ar up r, (E_impl_Order n d ar up).run = some r → runs KP lib n 25 ar up = some r :=
  cent_ok (fun hs r h => by
    unfold FH_impl_Order at h
    split at h
    · exact ⟨A_impl_Order _ _ _ _ _ _, U_impl_Order _ _ _ _ _ _, rfl, rfl, th_impl_Order n _ _ _ _ _ _ r h⟩
    · cases h) hd
/-! ### impl.truth -/
def A_impl_truth (x0 : Bool) : List AV := [(.c (.p (.b x0)))]
def U_impl_truth (x0 : Bool) : List Go.Eng.Frame := []
def O_impl_truth (r : Int × Int × ByteArray) : Res := ⟨(.agg [(.p (.i .i64 r.1)), (.p (.i .i64 r.2.1)), (.p (.s r.2.2))]), [], []⟩
abbrev CT_impl_truth (n : Nat) : CTab := mkCT []
abbrev LT_impl_truth (n : Nat) : LTab := mkLT []
def T_impl_truth (n : Nat) (x0 : Bool) : Tr (Int × Int × ByteArray) := (.ask (x0) (.done ((3 : Int), (1 : Int), (⟨#[]⟩ : ByteArray))) (.done ((3 : Int), (0 : Int), (⟨#[]⟩ : ByteArray))))
def F_impl_truth : Nat → Bool → Option (Int × Int × ByteArray)
  | 0, _ => none
  | n + 1, x0 => (T_impl_truth n x0).run
theorem ft_impl_truth (n : Nat) (x0 : Bool) : funT (CT_impl_truth n) (LT_impl_truth n) K_impl_truth (A_impl_truth x0) (U_impl_truth x0) = (T_impl_truth n x0).bind fun r => .done (O_impl_truth r) := by kernel_rfl
theorem ct_impl_truth (n : Nat) : CTok (CT_impl_truth n) (runs KP lib n) := mkCT_nil
theorem th_impl_truth : ∀ (n : Nat) (x0 : Bool) (r : Int × Int × ByteArray), F_impl_truth n x0 = some r → runs KP lib n 49 (A_impl_truth x0) (U_impl_truth x0) = some (O_impl_truth r)
  | 0, x0, r, h => by cases h
  | n + 1, x0, r, h => fun_step (kf := K_impl_truth) rfl (ct_impl_truth n) (noLoops rfl) (ft_impl_truth n x0) h
def FH_impl_truth (n : Nat) : Cont → Option (Int × Int × ByteArray)
  | ([[[.b x0]]], []) => F_impl_truth n x0
  | _ => none
def E_impl_truth (n : Nat) (d : List AV → List Go.Eng.Frame → Tr Res) : List AV → List Go.Eng.Frame → Tr Res := cent (A_impl_truth (false)) (U_impl_truth (false)) (FH_impl_truth n) O_impl_truth d
theorem eo_impl_truth (n : Nat) {d : List AV → List Go.Eng.Frame → Tr Res} (hd : ∀ ar up r, (d ar up).run = some r → runs KP lib n 49 ar up = some r) : ∀ ar up r, (E_impl_truth n d ar up).run = some r → runs KP lib n 49 ar up = some r :=
  cent_ok (fun hs r h => by
    unfold FH_impl_truth at h
    split at h
    · exact ⟨A_impl_truth _, U_impl_truth _, rfl, rfl, th_impl_truth n _ r h⟩
    · cases h) hd
/-! ### impl.Held -/
def A_impl_Held (x0 : Int) (x1 : Int) (x2 : Int) (x3 : ByteArray) (x4 : Int) (x5 : Int) (x6 : ByteArray) : List AV := [(.c (.p (.i .i64 x0))), (.agg [(.p (.i .i64 x1)), (.p (.i .i64 x2)), (.p (.s x3))]), (.agg [(.p (.i .i64 x4)), (.p (.i .i64 x5)), (.p (.s x6))])]
def U_impl_Held (x0 : Int) (x1 : Int) (x2 : Int) (x3 : ByteArray) (x4 : Int) (x5 : Int) (x6 : ByteArray) : List Go.Eng.Frame := []
def O_impl_Held (r : Int × Int × ByteArray) : Res := ⟨(.agg [(.p (.i .i64 r.1)), (.p (.i .i64 r.2.1)), (.p (.s r.2.2))]), [], []⟩
abbrev CT_impl_Held (n : Nat) : CTab := mkCT [(47, E_impl_ValueOk n (noEnt)), (42, E_impl_fault n (noEnt)), (48, E_impl_within n (noEnt)), (25, E_impl_Order n (noEnt)), (49, E_impl_truth n (noEnt))]
abbrev LT_impl_Held (n : Nat) : LTab := mkLT []
def T_impl_Held (n : Nat) (x0 : Int) (x1 : Int) (x2 : Int) (x3 : ByteArray) (x4 : Int) (x5 : Int) (x6 : ByteArray) : Tr (Int × Int × ByteArray) := (.opt (F_impl_ValueOk n x1 x2 x3) fun r50 => (.ask ((!r50)) (.opt (F_impl_fault n (2 : Int)) fun r51 => (.done (r51.1, r51.2.1, r51.2.2))) (.opt (F_impl_ValueOk n x4 x5 x6) fun r52 => (.ask ((!r52)) (.opt (F_impl_fault n (2 : Int)) fun r53 => (.done (r53.1, r53.2.1, r53.2.2))) (.opt (F_impl_within n x0 (6 : Int) (11 : Int)) fun r54 => (.ask ((!r54)) (.opt (F_impl_fault n (2 : Int)) fun r55 => (.done (r55.1, r55.2.1, r55.2.2))) (.ask ((x1 == (4 : Int))) (.done (x1, x2, x3)) (.ask ((x4 == (4 : Int))) (.done (x4, x5, x6)) (.ask ((x1 == (0 : Int))) (.opt (F_impl_Order n x4 x2 x3 x4 x5 x6) fun r69 => (.ask (decide (6 = ([[(.b (r69 == (0 : Int)))], [(.b (r69 != (0 : Int)))], [(.b (decide (r69 < (0 : Int))))], [(.b (decide (r69 ≤ (0 : Int))))], [(.b (decide (r69 > (0 : Int))))], [(.b (decide (r69 ≥ (0 : Int))))]] : List (List PV)).length ∧ 0 ≤ (IntKind.i64.wrap (x0 - (6 : Int))) ∧ (IntKind.i64.wrap (x0 - (6 : Int))) < ((6 : Nat) : Int))) (.opt (([[(.b (r69 == (0 : Int)))], [(.b (r69 != (0 : Int)))], [(.b (decide (r69 < (0 : Int))))], [(.b (decide (r69 ≤ (0 : Int))))], [(.b (decide (r69 > (0 : Int))))], [(.b (decide (r69 ≥ (0 : Int))))]] : List (List PV))[((IntKind.i64.wrap (x0 - (6 : Int)))).toNat]?) fun e70 => (.opt (cellB e70 0) fun y71 => (.opt (F_impl_truth n y71) fun r72 => (.done (r72.1, r72.2.1, r72.2.2))))) .fail)) (.ask ((x4 == (0 : Int))) (.opt (F_impl_Order n x1 x2 x3 x1 x5 x6) fun r73 => (.ask (decide (6 = ([[(.b (r73 == (0 : Int)))], [(.b (r73 != (0 : Int)))], [(.b (decide (r73 < (0 : Int))))], [(.b (decide (r73 ≤ (0 : Int))))], [(.b (decide (r73 > (0 : Int))))], [(.b (decide (r73 ≥ (0 : Int))))]] : List (List PV)).length ∧ 0 ≤ (IntKind.i64.wrap (x0 - (6 : Int))) ∧ (IntKind.i64.wrap (x0 - (6 : Int))) < ((6 : Nat) : Int))) (.opt (([[(.b (r73 == (0 : Int)))], [(.b (r73 != (0 : Int)))], [(.b (decide (r73 < (0 : Int))))], [(.b (decide (r73 ≤ (0 : Int))))], [(.b (decide (r73 > (0 : Int))))], [(.b (decide (r73 ≥ (0 : Int))))]] : List (List PV))[((IntKind.i64.wrap (x0 - (6 : Int)))).toNat]?) fun e74 => (.opt (cellB e74 0) fun y75 => (.opt (F_impl_truth n y75) fun r76 => (.done (r76.1, r76.2.1, r76.2.2))))) .fail)) (.opt (F_impl_Order n x1 x2 x3 x4 x5 x6) fun r77 => (.ask (decide (6 = ([[(.b (r77 == (0 : Int)))], [(.b (r77 != (0 : Int)))], [(.b (decide (r77 < (0 : Int))))], [(.b (decide (r77 ≤ (0 : Int))))], [(.b (decide (r77 > (0 : Int))))], [(.b (decide (r77 ≥ (0 : Int))))]] : List (List PV)).length ∧ 0 ≤ (IntKind.i64.wrap (x0 - (6 : Int))) ∧ (IntKind.i64.wrap (x0 - (6 : Int))) < ((6 : Nat) : Int))) (.opt (([[(.b (r77 == (0 : Int)))], [(.b (r77 != (0 : Int)))], [(.b (decide (r77 < (0 : Int))))], [(.b (decide (r77 ≤ (0 : Int))))], [(.b (decide (r77 > (0 : Int))))], [(.b (decide (r77 ≥ (0 : Int))))]] : List (List PV))[((IntKind.i64.wrap (x0 - (6 : Int)))).toNat]?) fun e78 => (.opt (cellB e78 0) fun y79 => (.opt (F_impl_truth n y79) fun r80 => (.done (r80.1, r80.2.1, r80.2.2))))) .fail))))))))))))
def F_impl_Held : Nat → Int → Int → Int → ByteArray → Int → Int → ByteArray → Option (Int × Int × ByteArray)
  | 0, _, _, _, _, _, _, _ => none
  | n + 1, x0, x1, x2, x3, x4, x5, x6 => (T_impl_Held n x0 x1 x2 x3 x4 x5 x6).run
theorem ft_impl_Held (n : Nat) (x0 : Int) (x1 : Int) (x2 : Int) (x3 : ByteArray) (x4 : Int) (x5 : Int) (x6 : ByteArray) : funT (CT_impl_Held n) (LT_impl_Held n) K_impl_Held (A_impl_Held x0 x1 x2 x3 x4 x5 x6) (U_impl_Held x0 x1 x2 x3 x4 x5 x6) = (T_impl_Held n x0 x1 x2 x3 x4 x5 x6).bind fun r => .done (O_impl_Held r) := by kernel_rfl
theorem ct_impl_Held (n : Nat) : CTok (CT_impl_Held n) (runs KP lib n) := mkCT_cons (eo_impl_ValueOk n (noEnt_ok)) (mkCT_cons (eo_impl_fault n (noEnt_ok)) (mkCT_cons (eo_impl_within n (noEnt_ok)) (mkCT_cons (eo_impl_Order n (noEnt_ok)) (mkCT_cons (eo_impl_truth n (noEnt_ok)) (mkCT_nil)))))
theorem th_impl_Held : ∀ (n : Nat) (x0 : Int) (x1 : Int) (x2 : Int) (x3 : ByteArray) (x4 : Int) (x5 : Int) (x6 : ByteArray) (r : Int × Int × ByteArray), F_impl_Held n x0 x1 x2 x3 x4 x5 x6 = some r → runs KP lib n 21 (A_impl_Held x0 x1 x2 x3 x4 x5 x6) (U_impl_Held x0 x1 x2 x3 x4 x5 x6) = some (O_impl_Held r)
  | 0, x0, x1, x2, x3, x4, x5, x6, r, h => by cases h
  | n + 1, x0, x1, x2, x3, x4, x5, x6, r, h => fun_step (kf := K_impl_Held) rfl (ct_impl_Held n) (noLoops rfl) (ft_impl_Held n x0 x1 x2 x3 x4 x5 x6) h
def FH_impl_Held (n : Nat) : Cont → Option (Int × Int × ByteArray)
  | ([[[.i x0]], [[.i x1], [.i x2], [.s x3]], [[.i x4], [.i x5], [.s x6]]], []) => F_impl_Held n x0 x1 x2 x3 x4 x5 x6
  | _ => none
def E_impl_Held (n : Nat) (d : List AV → List Go.Eng.Frame → Tr Res) : List AV → List Go.Eng.Frame → Tr Res := cent (A_impl_Held (0) (0) (0) (⟨#[]⟩) (0) (0) (⟨#[]⟩)) (U_impl_Held (0) (0) (0) (⟨#[]⟩) (0) (0) (⟨#[]⟩)) (FH_impl_Held n) O_impl_Held d
theorem eo_impl_Held (n : Nat) {d : List AV → List Go.Eng.Frame → Tr Res} (hd : ∀ ar up r, (d ar up).run = some r → runs KP lib n 21 ar up = some r) : ∀ ar up r, (E_impl_Held n d ar up).run = some r → runs KP lib n 21 ar up = some r :=
  cent_ok (fun hs r h => by
    unfold FH_impl_Held at h
    split at h
    · exact ⟨A_impl_Held _ _ _ _ _ _ _, U_impl_Held _ _ _ _ _ _ _, rfl, rfl, th_impl_Held n _ _ _ _ _ _ _ r h⟩
    · cases h) hd
/-! ### spec.l1In -/
def A_spec_l1In (x0 : Int) (x1 : Int) (x2 : Int) : List AV := [(.c (.p (.i .i64 x0))), (.c (.p (.i .i64 x1))), (.c (.p (.i .i64 x2)))]
def U_spec_l1In (x0 : Int) (x1 : Int) (x2 : Int) : List Go.Eng.Frame := []
def O_spec_l1In (r : Bool) : Res := ⟨(.c (.p (.b r))), [], []⟩
abbrev CT_spec_l1In (n : Nat) : CTab := mkCT []
abbrev LT_spec_l1In (n : Nat) : LTab := mkLT []
def T_spec_l1In (n : Nat) (x0 : Int) (x1 : Int) (x2 : Int) : Tr (Bool) := (.ask ((decide (x0 ≥ x1))) (.done (decide (x0 ≤ x2))) (.done false))
def F_spec_l1In : Nat → Int → Int → Int → Option (Bool)
  | 0, _, _, _ => none
  | n + 1, x0, x1, x2 => (T_spec_l1In n x0 x1 x2).run
theorem ft_spec_l1In (n : Nat) (x0 : Int) (x1 : Int) (x2 : Int) : funT (CT_spec_l1In n) (LT_spec_l1In n) K_spec_l1In (A_spec_l1In x0 x1 x2) (U_spec_l1In x0 x1 x2) = (T_spec_l1In n x0 x1 x2).bind fun r => .done (O_spec_l1In r) := by kernel_rfl
theorem ct_spec_l1In (n : Nat) : CTok (CT_spec_l1In n) (runs KP lib n) := mkCT_nil
theorem th_spec_l1In : ∀ (n : Nat) (x0 : Int) (x1 : Int) (x2 : Int) (r : Bool), F_spec_l1In n x0 x1 x2 = some r → runs KP lib n 44 (A_spec_l1In x0 x1 x2) (U_spec_l1In x0 x1 x2) = some (O_spec_l1In r)
  | 0, x0, x1, x2, r, h => by cases h
  | n + 1, x0, x1, x2, r, h => fun_step (kf := K_spec_l1In) rfl (ct_spec_l1In n) (noLoops rfl) (ft_spec_l1In n x0 x1 x2) h
def FH_spec_l1In (n : Nat) : Cont → Option (Bool)
  | ([[[.i x0]], [[.i x1]], [[.i x2]]], []) => F_spec_l1In n x0 x1 x2
  | _ => none
def E_spec_l1In (n : Nat) (d : List AV → List Go.Eng.Frame → Tr Res) : List AV → List Go.Eng.Frame → Tr Res := cent (A_spec_l1In (0) (0) (0)) (U_spec_l1In (0) (0) (0)) (FH_spec_l1In n) O_spec_l1In d
theorem eo_spec_l1In (n : Nat) {d : List AV → List Go.Eng.Frame → Tr Res} (hd : ∀ ar up r, (d ar up).run = some r → runs KP lib n 44 ar up = some r) : ∀ ar up r, (E_spec_l1In n d ar up).run = some r → runs KP lib n 44 ar up = some r :=
  cent_ok (fun hs r h => by
    unfold FH_spec_l1In at h
    split at h
    · exact ⟨A_spec_l1In _ _ _, U_spec_l1In _ _ _, rfl, rfl, th_spec_l1In n _ _ _ r h⟩
    · cases h) hd
/-! ### spec.l2Plain -/
def A_spec_l2Plain (x0 : ByteArray) : List AV := [(.c (.p (.s x0)))]
def U_spec_l2Plain (x0 : ByteArray) : List Go.Eng.Frame := []
def O_spec_l2Plain (r : Bool) : Res := ⟨(.c (.p (.b r))), [], []⟩
abbrev CT_spec_l2Plain (n : Nat) : CTab := mkCT []
def S_spec_l2Plain_13 (v : ByteArray × Int) : St := ⟨[(0, (.c (.p (.s v.1)))), (3, (.c (.p (.i .i64 v.2))))], [], []⟩
def B_spec_l2Plain_13 (n : Nat) (v : ByteArray × Int) : Tr ((ByteArray × Int) ⊕ ((Bool) ⊕ (ByteArray))) := (.ask ((decide (v.2 < (v.1.size : Int)))) (.ask (decide (0 ≤ v.2)) (.opt (v.1.toList[(v.2).toNat]?) fun c83 => (.ask ((decide ((c83.toNat : Int) < (32 : Int)))) (.done (.inr (.inl (false)))) (.ask (decide (0 ≤ v.2)) (.opt (v.1.toList[(v.2).toNat]?) fun c84 => (.ask ((decide ((c84.toNat : Int) > (126 : Int)))) (.done (.inr (.inl (false)))) (.done (.inl (v.1, (IntKind.i64.wrap (v.2 + (1 : Int)))))))) .fail))) .fail) (.done (.inr (.inr (v.1)))))
def D_spec_l2Plain_13 : ((Bool) ⊕ (ByteArray)) → Ex × St := fun | .inl r => (.ret, ⟨[(2, (.c (.p (.b r))))], [], []⟩) | .inr r => (fun r => ((.exit 0), ⟨[(0, (.c (.p (.s r))))], [], []⟩)) r
def DT_spec_l2Plain_13 : ((Bool) ⊕ (ByteArray)) → Tr (Ex × St) := fun r => .alt r (fun r => .done (.ret, ⟨[(2, (.c (.p (.b r))))], [], []⟩)) (fun r => .done ((.exit 0), ⟨[(0, (.c (.p (.s r))))], [], []⟩))
def VH_spec_l2Plain_13 : Cont3 → Option (ByteArray × Int)
  | ([[[.s w0]], [[.i w1]]], [], []) => some (w0, w1)
  | _ => none
abbrev LE_spec_l2Plain_13 (n : Nat) : St → Tr (Ex × St) := lent (S_spec_l2Plain_13 (⟨#[]⟩, 0)) VH_spec_l2Plain_13 (B_spec_l2Plain_13 n) DT_spec_l2Plain_13 n
abbrev LT_spec_l2Plain (n : Nat) : LTab := mkLT [(13, LE_spec_l2Plain_13 n)]
def T_spec_l2Plain (n : Nat) (x0 : ByteArray) : Tr (Bool) := (.opt (loopF (B_spec_l2Plain_13 n) n (x0, (0 : Int))) fun r85 => (.alt r85 (fun r86 => (.done r86)) (fun r87 => (.done (decide ((r87.size : Int) ≤ (200 : Int)))))))
def F_spec_l2Plain : Nat → ByteArray → Option (Bool)
  | 0, _ => none
  | n + 1, x0 => (T_spec_l2Plain n x0).run
theorem ft_spec_l2Plain (n : Nat) (x0 : ByteArray) : funT (CT_spec_l2Plain n) (LT_spec_l2Plain n) K_spec_l2Plain (A_spec_l2Plain x0) (U_spec_l2Plain x0) = (T_spec_l2Plain n x0).bind fun r => .done (O_spec_l2Plain r) := by kernel_rfl
theorem ct_spec_l2Plain (n : Nat) : CTok (CT_spec_l2Plain n) (runs KP lib n) := mkCT_nil
theorem lt_spec_l2Plain_13 (n : Nat) (v : ByteArray × Int) : (evalCT (CT_spec_l2Plain n) (mkLT []) K_spec_l2Plain_L13 (S_spec_l2Plain_13 v) []).bind (ltail [0, 3] [(.ret, [2]), ((.exit 0), [0])]) = (B_spec_l2Plain_13 n v).bind (lenc S_spec_l2Plain_13 D_spec_l2Plain_13) := by
  obtain ⟨w0, w1⟩ := v
  kernel_rfl
theorem le_spec_l2Plain_13 (n : Nat) : LEok (runs KP lib n) n (13, [0, 3], [(.ret, [2]), ((.exit 0), [0])], K_spec_l2Plain_L13) (LE_spec_l2Plain_13 n) := fun st e s h =>
  lent_ok (ct_spec_l2Plain n) (noLoops rfl) (lt_spec_l2Plain_13 n) (fun r => by
    rcases r with r | r <;> (intro h; cases h)) (fun r y h => by
    rcases r with r | r <;> (cases h; rfl)) (fun hs v h => by
    unfold VH_spec_l2Plain_13 at h
    split at h <;> cases h
    rfl) h
theorem lo_spec_l2Plain (n : Nat) : LTok (LT_spec_l2Plain n) (runs KP lib n) n K_spec_l2Plain.body := mkLT_ok (by
  intro x hx
  have hx : x ∈ ([(13, [0, 3], [(.ret, [2]), ((.exit 0), [0])], K_spec_l2Plain_L13)] : List (Nat × List Nat × List (Ex × List Nat) × KCode)) := hx
  simp only [List.mem_cons, List.not_mem_nil, or_false] at hx
  rcases hx with rfl
  · exact ⟨LE_spec_l2Plain_13 n, fun st => rfl, le_spec_l2Plain_13 n⟩)
theorem th_spec_l2Plain : ∀ (n : Nat) (x0 : ByteArray) (r : Bool), F_spec_l2Plain n x0 = some r → runs KP lib n 57 (A_spec_l2Plain x0) (U_spec_l2Plain x0) = some (O_spec_l2Plain r)
  | 0, x0, r, h => by cases h
  | n + 1, x0, r, h => fun_step (kf := K_spec_l2Plain) rfl (ct_spec_l2Plain n) (lo_spec_l2Plain n) (ft_spec_l2Plain n x0) h
def FH_spec_l2Plain (n : Nat) : Cont → Option (Bool)
  | ([[[.s x0]]], []) => F_spec_l2Plain n x0
  | _ => none
def E_spec_l2Plain (n : Nat) (d : List AV → List Go.Eng.Frame → Tr Res) : List AV → List Go.Eng.Frame → Tr Res := cent (A_spec_l2Plain (⟨#[]⟩)) (U_spec_l2Plain (⟨#[]⟩)) (FH_spec_l2Plain n) O_spec_l2Plain d
theorem eo_spec_l2Plain (n : Nat) {d : List AV → List Go.Eng.Frame → Tr Res} (hd : ∀ ar up r, (d ar up).run = some r → runs KP lib n 57 ar up = some r) : ∀ ar up r, (E_spec_l2Plain n d ar up).run = some r → runs KP lib n 57 ar up = some r :=
  cent_ok (fun hs r h => by
    unfold FH_spec_l2Plain at h
    split at h
    · exact ⟨A_spec_l2Plain _, U_spec_l2Plain _, rfl, rfl, th_spec_l2Plain n _ r h⟩
    · cases h) hd
/-! ### spec.ValueOk -/
def A_spec_ValueOk (x0 : Int) (x1 : Int) (x2 : ByteArray) : List AV := [(.agg [(.p (.i .i64 x0)), (.p (.i .i64 x1)), (.p (.s x2))])]
def U_spec_ValueOk (x0 : Int) (x1 : Int) (x2 : ByteArray) : List Go.Eng.Frame := []
def O_spec_ValueOk (r : Bool) : Res := ⟨(.c (.p (.b r))), [], []⟩
abbrev CT_spec_ValueOk (n : Nat) : CTab := mkCT [(44, E_spec_l1In n (noEnt)), (57, E_spec_l2Plain n (noEnt))]
abbrev LT_spec_ValueOk (n : Nat) : LTab := mkLT []
def T_spec_ValueOk (n : Nat) (x0 : Int) (x1 : Int) (x2 : ByteArray) : Tr (Bool) := (.ask ((x0 == (0 : Int))) (.ask ((x1 == (0 : Int))) (.done (x2.toList == (⟨#[]⟩ : ByteArray).toList)) (.done false)) (.ask ((x0 == (1 : Int))) (.opt (F_spec_l1In n x1 (-1000000000000000 : Int) (1000000000000000 : Int)) fun r82 => (.ask (r82) (.done (x2.toList == (⟨#[]⟩ : ByteArray).toList)) (.done false))) (.ask ((x0 == (2 : Int))) (.ask ((x1 == (0 : Int))) (.opt (F_spec_l2Plain n x2) fun r88 => (.done r88)) (.done false)) (.ask ((x0 == (3 : Int))) (.opt (F_spec_l1In n x1 (0 : Int) (1 : Int)) fun r89 => (.ask (r89) (.done (x2.toList == (⟨#[]⟩ : ByteArray).toList)) (.done false))) (.ask ((x0 == (4 : Int))) (.opt (F_spec_l1In n x1 (1 : Int) (5 : Int)) fun r90 => (.ask (r90) (.done (x2.toList == (⟨#[]⟩ : ByteArray).toList)) (.done false))) (.done false))))))
def F_spec_ValueOk : Nat → Int → Int → ByteArray → Option (Bool)
  | 0, _, _, _ => none
  | n + 1, x0, x1, x2 => (T_spec_ValueOk n x0 x1 x2).run
theorem ft_spec_ValueOk (n : Nat) (x0 : Int) (x1 : Int) (x2 : ByteArray) : funT (CT_spec_ValueOk n) (LT_spec_ValueOk n) K_spec_ValueOk (A_spec_ValueOk x0 x1 x2) (U_spec_ValueOk x0 x1 x2) = (T_spec_ValueOk n x0 x1 x2).bind fun r => .done (O_spec_ValueOk r) := by kernel_rfl
theorem ct_spec_ValueOk (n : Nat) : CTok (CT_spec_ValueOk n) (runs KP lib n) := mkCT_cons (eo_spec_l1In n (noEnt_ok)) (mkCT_cons (eo_spec_l2Plain n (noEnt_ok)) (mkCT_nil))
theorem th_spec_ValueOk : ∀ (n : Nat) (x0 : Int) (x1 : Int) (x2 : ByteArray) (r : Bool), F_spec_ValueOk n x0 x1 x2 = some r → runs KP lib n 28 (A_spec_ValueOk x0 x1 x2) (U_spec_ValueOk x0 x1 x2) = some (O_spec_ValueOk r)
  | 0, x0, x1, x2, r, h => by cases h
  | n + 1, x0, x1, x2, r, h => fun_step (kf := K_spec_ValueOk) rfl (ct_spec_ValueOk n) (noLoops rfl) (ft_spec_ValueOk n x0 x1 x2) h
def FH_spec_ValueOk (n : Nat) : Cont → Option (Bool)
  | ([[[.i x0], [.i x1], [.s x2]]], []) => F_spec_ValueOk n x0 x1 x2
  | _ => none
def E_spec_ValueOk (n : Nat) (d : List AV → List Go.Eng.Frame → Tr Res) : List AV → List Go.Eng.Frame → Tr Res := cent (A_spec_ValueOk (0) (0) (⟨#[]⟩)) (U_spec_ValueOk (0) (0) (⟨#[]⟩)) (FH_spec_ValueOk n) O_spec_ValueOk d
theorem eo_spec_ValueOk (n : Nat) {d : List AV → List Go.Eng.Frame → Tr Res} (hd : ∀ ar up r, (d ar up).run = some r → runs KP lib n 28 ar up = some r) : ∀ ar up r, (E_spec_ValueOk n d ar up).run = some r → runs KP lib n 28 ar up = some r :=
  cent_ok (fun hs r h => by
    unfold FH_spec_ValueOk at h
    split at h
    · exact ⟨A_spec_ValueOk _ _ _, U_spec_ValueOk _ _ _, rfl, rfl, th_spec_ValueOk n _ _ _ r h⟩
    · cases h) hd
/-! ### spec.l2Error -/
def A_spec_l2Error (x0 : Int) : List AV := [(.c (.p (.i .i64 x0)))]
def U_spec_l2Error (x0 : Int) : List Go.Eng.Frame := []
def O_spec_l2Error (r : Int × Int × ByteArray) : Res := ⟨(.agg [(.p (.i .i64 r.1)), (.p (.i .i64 r.2.1)), (.p (.s r.2.2))]), [], []⟩
abbrev CT_spec_l2Error (n : Nat) : CTab := mkCT []
abbrev LT_spec_l2Error (n : Nat) : LTab := mkLT []
def T_spec_l2Error (n : Nat) (x0 : Int) : Tr (Int × Int × ByteArray) := (.done ((4 : Int), x0, (⟨#[]⟩ : ByteArray)))
def F_spec_l2Error : Nat → Int → Option (Int × Int × ByteArray)
  | 0, _ => none
  | n + 1, x0 => (T_spec_l2Error n x0).run
theorem ft_spec_l2Error (n : Nat) (x0 : Int) : funT (CT_spec_l2Error n) (LT_spec_l2Error n) K_spec_l2Error (A_spec_l2Error x0) (U_spec_l2Error x0) = (T_spec_l2Error n x0).bind fun r => .done (O_spec_l2Error r) := by kernel_rfl
theorem ct_spec_l2Error (n : Nat) : CTok (CT_spec_l2Error n) (runs KP lib n) := mkCT_nil
theorem th_spec_l2Error : ∀ (n : Nat) (x0 : Int) (r : Int × Int × ByteArray), F_spec_l2Error n x0 = some r → runs KP lib n 40 (A_spec_l2Error x0) (U_spec_l2Error x0) = some (O_spec_l2Error r)
  | 0, x0, r, h => by cases h
  | n + 1, x0, r, h => fun_step (kf := K_spec_l2Error) rfl (ct_spec_l2Error n) (noLoops rfl) (ft_spec_l2Error n x0) h
def FH_spec_l2Error (n : Nat) : Cont → Option (Int × Int × ByteArray)
  | ([[[.i x0]]], []) => F_spec_l2Error n x0
  | _ => none
def E_spec_l2Error (n : Nat) (d : List AV → List Go.Eng.Frame → Tr Res) : List AV → List Go.Eng.Frame → Tr Res := cent (A_spec_l2Error (0)) (U_spec_l2Error (0)) (FH_spec_l2Error n) O_spec_l2Error d
theorem eo_spec_l2Error (n : Nat) {d : List AV → List Go.Eng.Frame → Tr Res} (hd : ∀ ar up r, (d ar up).run = some r → runs KP lib n 40 ar up = some r) : ∀ ar up r, (E_spec_l2Error n d ar up).run = some r → runs KP lib n 40 ar up = some r :=
  cent_ok (fun hs r h => by
    unfold FH_spec_l2Error at h
    split at h
    · exact ⟨A_spec_l2Error _, U_spec_l2Error _, rfl, rfl, th_spec_l2Error n _ r h⟩
    · cases h) hd
/-! ### spec.l2Like -/
def A_spec_l2Like (x0 : Int) (x1 : Int) (x2 : ByteArray) (x3 : Int) (x4 : Int) (x5 : ByteArray) : List AV := [(.agg [(.p (.i .i64 x0)), (.p (.i .i64 x1)), (.p (.s x2))]), (.agg [(.p (.i .i64 x3)), (.p (.i .i64 x4)), (.p (.s x5))])]
def U_spec_l2Like (x0 : Int) (x1 : Int) (x2 : ByteArray) (x3 : Int) (x4 : Int) (x5 : ByteArray) : List Go.Eng.Frame := []
def O_spec_l2Like (r : Int × Int × ByteArray) : Res := ⟨(.agg [(.p (.i .i64 r.1)), (.p (.i .i64 r.2.1)), (.p (.s r.2.2))]), [], []⟩
abbrev CT_spec_l2Like (n : Nat) : CTab := mkCT []
abbrev LT_spec_l2Like (n : Nat) : LTab := mkLT []
def T_spec_l2Like (n : Nat) (x0 : Int) (x1 : Int) (x2 : ByteArray) (x3 : Int) (x4 : Int) (x5 : ByteArray) : Tr (Int × Int × ByteArray) := (.ask ((x0 == (0 : Int))) (.done (x3, x1, x2)) (.done (x0, x1, x2)))
def F_spec_l2Like : Nat → Int → Int → ByteArray → Int → Int → ByteArray → Option (Int × Int × ByteArray)
  | 0, _, _, _, _, _, _ => none
  | n + 1, x0, x1, x2, x3, x4, x5 => (T_spec_l2Like n x0 x1 x2 x3 x4 x5).run
theorem ft_spec_l2Like (n : Nat) (x0 : Int) (x1 : Int) (x2 : ByteArray) (x3 : Int) (x4 : Int) (x5 : ByteArray) : funT (CT_spec_l2Like n) (LT_spec_l2Like n) K_spec_l2Like (A_spec_l2Like x0 x1 x2 x3 x4 x5) (U_spec_l2Like x0 x1 x2 x3 x4 x5) = (T_spec_l2Like n x0 x1 x2 x3 x4 x5).bind fun r => .done (O_spec_l2Like r) := by kernel_rfl
theorem ct_spec_l2Like (n : Nat) : CTok (CT_spec_l2Like n) (runs KP lib n) := mkCT_nil
theorem th_spec_l2Like : ∀ (n : Nat) (x0 : Int) (x1 : Int) (x2 : ByteArray) (x3 : Int) (x4 : Int) (x5 : ByteArray) (r : Int × Int × ByteArray), F_spec_l2Like n x0 x1 x2 x3 x4 x5 = some r → runs KP lib n 45 (A_spec_l2Like x0 x1 x2 x3 x4 x5) (U_spec_l2Like x0 x1 x2 x3 x4 x5) = some (O_spec_l2Like r)
  | 0, x0, x1, x2, x3, x4, x5, r, h => by cases h
  | n + 1, x0, x1, x2, x3, x4, x5, r, h => fun_step (kf := K_spec_l2Like) rfl (ct_spec_l2Like n) (noLoops rfl) (ft_spec_l2Like n x0 x1 x2 x3 x4 x5) h
def FH_spec_l2Like (n : Nat) : Cont → Option (Int × Int × ByteArray)
  | ([[[.i x0], [.i x1], [.s x2]], [[.i x3], [.i x4], [.s x5]]], []) => F_spec_l2Like n x0 x1 x2 x3 x4 x5
  | _ => none
def E_spec_l2Like (n : Nat) (d : List AV → List Go.Eng.Frame → Tr Res) : List AV → List Go.Eng.Frame → Tr Res := cent (A_spec_l2Like (0) (0) (⟨#[]⟩) (0) (0) (⟨#[]⟩)) (U_spec_l2Like (0) (0) (⟨#[]⟩) (0) (0) (⟨#[]⟩)) (FH_spec_l2Like n) O_spec_l2Like d
theorem eo_spec_l2Like (n : Nat) {d : List AV → List Go.Eng.Frame → Tr Res} (hd : ∀ ar up r, (d ar up).run = some r → runs KP lib n 45 ar up = some r) : ∀ ar up r, (E_spec_l2Like n d ar up).run = some r → runs KP lib n 45 ar up = some r :=
  cent_ok (fun hs r h => by
    unfold FH_spec_l2Like at h
    split at h
    · exact ⟨A_spec_l2Like _ _ _ _ _ _, U_spec_l2Like _ _ _ _ _ _, rfl, rfl, th_spec_l2Like n _ _ _ _ _ _ r h⟩
    · cases h) hd
/-! ### spec.l2Sign -/
def A_spec_l2Sign (x0 : Bool) (x1 : Bool) : List AV := [(.c (.p (.b x0))), (.c (.p (.b x1)))]
def U_spec_l2Sign (x0 : Bool) (x1 : Bool) : List Go.Eng.Frame := []
def O_spec_l2Sign (r : Int) : Res := ⟨(.c (.p (.i .i64 r))), [], []⟩
abbrev CT_spec_l2Sign (n : Nat) : CTab := mkCT []
abbrev LT_spec_l2Sign (n : Nat) : LTab := mkLT []
def T_spec_l2Sign (n : Nat) (x0 : Bool) (x1 : Bool) : Tr (Int) := (.ask (x0) (.done (-1 : Int)) (.ask (x1) (.done (1 : Int)) (.done (0 : Int))))
def F_spec_l2Sign : Nat → Bool → Bool → Option (Int)
  | 0, _, _ => none
  | n + 1, x0, x1 => (T_spec_l2Sign n x0 x1).run
theorem ft_spec_l2Sign (n : Nat) (x0 : Bool) (x1 : Bool) : funT (CT_spec_l2Sign n) (LT_spec_l2Sign n) K_spec_l2Sign (A_spec_l2Sign x0 x1) (U_spec_l2Sign x0 x1) = (T_spec_l2Sign n x0 x1).bind fun r => .done (O_spec_l2Sign r) := by kernel_rfl
theorem ct_spec_l2Sign (n : Nat) : CTok (CT_spec_l2Sign n) (runs KP lib n) := mkCT_nil
theorem th_spec_l2Sign : ∀ (n : Nat) (x0 : Bool) (x1 : Bool) (r : Int), F_spec_l2Sign n x0 x1 = some r → runs KP lib n 56 (A_spec_l2Sign x0 x1) (U_spec_l2Sign x0 x1) = some (O_spec_l2Sign r)
  | 0, x0, x1, r, h => by cases h
  | n + 1, x0, x1, r, h => fun_step (kf := K_spec_l2Sign) rfl (ct_spec_l2Sign n) (noLoops rfl) (ft_spec_l2Sign n x0 x1) h
def FH_spec_l2Sign (n : Nat) : Cont → Option (Int)
  | ([[[.b x0]], [[.b x1]]], []) => F_spec_l2Sign n x0 x1
  | _ => none
def E_spec_l2Sign (n : Nat) (d : List AV → List Go.Eng.Frame → Tr Res) : List AV → List Go.Eng.Frame → Tr Res := cent (A_spec_l2Sign (false) (false)) (U_spec_l2Sign (false) (false)) (FH_spec_l2Sign n) O_spec_l2Sign d
theorem eo_spec_l2Sign (n : Nat) {d : List AV → List Go.Eng.Frame → Tr Res} (hd : ∀ ar up r, (d ar up).run = some r → runs KP lib n 56 ar up = some r) : ∀ ar up r, (E_spec_l2Sign n d ar up).run = some r → runs KP lib n 56 ar up = some r :=
  cent_ok (fun hs r h => by
    unfold FH_spec_l2Sign at h
    split at h
    · exact ⟨A_spec_l2Sign _ _, U_spec_l2Sign _ _, rfl, rfl, th_spec_l2Sign n _ _ r h⟩
    · cases h) hd
/-! ### spec.Order -/
def A_spec_Order (x0 : Int) (x1 : Int) (x2 : ByteArray) (x3 : Int) (x4 : Int) (x5 : ByteArray) : List AV := [(.agg [(.p (.i .i64 x0)), (.p (.i .i64 x1)), (.p (.s x2))]), (.agg [(.p (.i .i64 x3)), (.p (.i .i64 x4)), (.p (.s x5))])]
def U_spec_Order (x0 : Int) (x1 : Int) (x2 : ByteArray) (x3 : Int) (x4 : Int) (x5 : ByteArray) : List Go.Eng.Frame := []
def O_spec_Order (r : Int) : Res := ⟨(.c (.p (.i .i64 r))), [], []⟩
abbrev CT_spec_Order (n : Nat) : CTab := mkCT [(56, E_spec_l2Sign n (noEnt))]
abbrev LT_spec_Order (n : Nat) : LTab := mkLT []
def T_spec_Order (n : Nat) (x0 : Int) (x1 : Int) (x2 : ByteArray) (x3 : Int) (x4 : Int) (x5 : ByteArray) : Tr (Int) := (.ask ((x0 != x3)) (.opt (F_spec_l2Sign n (decide (x0 < x3)) true) fun r99 => (.done r99)) (.ask ((x1 != x4)) (.opt (F_spec_l2Sign n (decide (x1 < x4)) true) fun r100 => (.done r100)) (.opt (F_spec_l2Sign n (Op.bytesLess x2.toList x5.toList) (!(Op.bytesLess x2.toList x5.toList || x2.toList == x5.toList))) fun r101 => (.done r101))))
def F_spec_Order : Nat → Int → Int → ByteArray → Int → Int → ByteArray → Option (Int)
  | 0, _, _, _, _, _, _ => none
  | n + 1, x0, x1, x2, x3, x4, x5 => (T_spec_Order n x0 x1 x2 x3 x4 x5).run
theorem ft_spec_Order (n : Nat) (x0 : Int) (x1 : Int) (x2 : ByteArray) (x3 : Int) (x4 : Int) (x5 : ByteArray) : funT (CT_spec_Order n) (LT_spec_Order n) K_spec_Order (A_spec_Order x0 x1 x2 x3 x4 x5) (U_spec_Order x0 x1 x2 x3 x4 x5) = (T_spec_Order n x0 x1 x2 x3 x4 x5).bind fun r => .done (O_spec_Order r) := by kernel_rfl
theorem ct_spec_Order (n : Nat) : CTok (CT_spec_Order n) (runs KP lib n) := mkCT_cons (eo_spec_l2Sign n (noEnt_ok)) (mkCT_nil)
theorem th_spec_Order : ∀ (n : Nat) (x0 : Int) (x1 : Int) (x2 : ByteArray) (x3 : Int) (x4 : Int) (x5 : ByteArray) (r : Int), F_spec_Order n x0 x1 x2 x3 x4 x5 = some r → runs KP lib n 26 (A_spec_Order x0 x1 x2 x3 x4 x5) (U_spec_Order x0 x1 x2 x3 x4 x5) = some (O_spec_Order r)
  | 0, x0, x1, x2, x3, x4, x5, r, h => by cases h
  | n + 1, x0, x1, x2, x3, x4, x5, r, h => fun_step (kf := K_spec_Order) rfl (ct_spec_Order n) (noLoops rfl) (ft_spec_Order n x0 x1 x2 x3 x4 x5) h
def FH_spec_Order (n : Nat) : Cont → Option (Int)
  | ([[[.i x0], [.i x1], [.s x2]], [[.i x3], [.i x4], [.s x5]]], []) => F_spec_Order n x0 x1 x2 x3 x4 x5
  | _ => none
def E_spec_Order (n : Nat) (d : List AV → List Go.Eng.Frame → Tr Res) : List AV → List Go.Eng.Frame → Tr Res := cent (A_spec_Order (0) (0) (⟨#[]⟩) (0) (0) (⟨#[]⟩)) (U_spec_Order (0) (0) (⟨#[]⟩) (0) (0) (⟨#[]⟩)) (FH_spec_Order n) O_spec_Order d
theorem eo_spec_Order (n : Nat) {d : List AV → List Go.Eng.Frame → Tr Res} (hd : ∀ ar up r, (d ar up).run = some r → runs KP lib n 26 ar up = some r) : ∀ ar up r, (E_spec_Order n d ar up).run = some r → runs KP lib n 26 ar up = some r :=
  cent_ok (fun hs r h => by
    unfold FH_spec_Order at h
    split at h
    · exact ⟨A_spec_Order _ _ _ _ _ _, U_spec_Order _ _ _ _ _ _, rfl, rfl, th_spec_Order n _ _ _ _ _ _ r h⟩
    · cases h) hd
/-! ### spec.l2Flag -/
def A_spec_l2Flag (x0 : Bool) : List AV := [(.c (.p (.b x0)))]
def U_spec_l2Flag (x0 : Bool) : List Go.Eng.Frame := []
def O_spec_l2Flag (r : Int × Int × ByteArray) : Res := ⟨(.agg [(.p (.i .i64 r.1)), (.p (.i .i64 r.2.1)), (.p (.s r.2.2))]), [], []⟩
abbrev CT_spec_l2Flag (n : Nat) : CTab := mkCT []
abbrev LT_spec_l2Flag (n : Nat) : LTab := mkLT []
def T_spec_l2Flag (n : Nat) (x0 : Bool) : Tr (Int × Int × ByteArray) := (.ask (x0) (.done ((3 : Int), (1 : Int), (⟨#[]⟩ : ByteArray))) (.done ((3 : Int), (0 : Int), (⟨#[]⟩ : ByteArray))))
def F_spec_l2Flag : Nat → Bool → Option (Int × Int × ByteArray)
  | 0, _ => none
  | n + 1, x0 => (T_spec_l2Flag n x0).run
theorem ft_spec_l2Flag (n : Nat) (x0 : Bool) : funT (CT_spec_l2Flag n) (LT_spec_l2Flag n) K_spec_l2Flag (A_spec_l2Flag x0) (U_spec_l2Flag x0) = (T_spec_l2Flag n x0).bind fun r => .done (O_spec_l2Flag r) := by kernel_rfl
theorem ct_spec_l2Flag (n : Nat) : CTok (CT_spec_l2Flag n) (runs KP lib n) := mkCT_nil
theorem th_spec_l2Flag : ∀ (n : Nat) (x0 : Bool) (r : Int × Int × ByteArray), F_spec_l2Flag n x0 = some r → runs KP lib n 46 (A_spec_l2Flag x0) (U_spec_l2Flag x0) = some (O_spec_l2Flag r)
  | 0, x0, r, h => by cases h
  | n + 1, x0, r, h => fun_step (kf := K_spec_l2Flag) rfl (ct_spec_l2Flag n) (noLoops rfl) (ft_spec_l2Flag n x0) h
def FH_spec_l2Flag (n : Nat) : Cont → Option (Int × Int × ByteArray)
  | ([[[.b x0]]], []) => F_spec_l2Flag n x0
  | _ => none
def E_spec_l2Flag (n : Nat) (d : List AV → List Go.Eng.Frame → Tr Res) : List AV → List Go.Eng.Frame → Tr Res := cent (A_spec_l2Flag (false)) (U_spec_l2Flag (false)) (FH_spec_l2Flag n) O_spec_l2Flag d
theorem eo_spec_l2Flag (n : Nat) {d : List AV → List Go.Eng.Frame → Tr Res} (hd : ∀ ar up r, (d ar up).run = some r → runs KP lib n 46 ar up = some r) : ∀ ar up r, (E_spec_l2Flag n d ar up).run = some r → runs KP lib n 46 ar up = some r :=
  cent_ok (fun hs r h => by
    unfold FH_spec_l2Flag at h
    split at h
    · exact ⟨A_spec_l2Flag _, U_spec_l2Flag _, rfl, rfl, th_spec_l2Flag n _ r h⟩
    · cases h) hd
/-! ### spec.Held -/
def A_spec_Held (x0 : Int) (x1 : Int) (x2 : Int) (x3 : ByteArray) (x4 : Int) (x5 : Int) (x6 : ByteArray) : List AV := [(.c (.p (.i .i64 x0))), (.agg [(.p (.i .i64 x1)), (.p (.i .i64 x2)), (.p (.s x3))]), (.agg [(.p (.i .i64 x4)), (.p (.i .i64 x5)), (.p (.s x6))])]
def U_spec_Held (x0 : Int) (x1 : Int) (x2 : Int) (x3 : ByteArray) (x4 : Int) (x5 : Int) (x6 : ByteArray) : List Go.Eng.Frame := []
def O_spec_Held (r : Int × Int × ByteArray) : Res := ⟨(.agg [(.p (.i .i64 r.1)), (.p (.i .i64 r.2.1)), (.p (.s r.2.2))]), [], []⟩
abbrev CT_spec_Held (n : Nat) : CTab := mkCT [(28, E_spec_ValueOk n (noEnt)), (40, E_spec_l2Error n (noEnt)), (44, E_spec_l1In n (noEnt)), (45, E_spec_l2Like n (noEnt)), (26, E_spec_Order n (noEnt)), (46, E_spec_l2Flag n (noEnt))]
abbrev LT_spec_Held (n : Nat) : LTab := mkLT []
def T_spec_Held (n : Nat) (x0 : Int) (x1 : Int) (x2 : Int) (x3 : ByteArray) (x4 : Int) (x5 : Int) (x6 : ByteArray) : Tr (Int × Int × ByteArray) := (.opt (F_spec_ValueOk n x1 x2 x3) fun r91 => (.ask ((!r91)) (.opt (F_spec_l2Error n (2 : Int)) fun r92 => (.done (r92.1, r92.2.1, r92.2.2))) (.opt (F_spec_ValueOk n x4 x5 x6) fun r93 => (.ask ((!r93)) (.opt (F_spec_l2Error n (2 : Int)) fun r94 => (.done (r94.1, r94.2.1, r94.2.2))) (.opt (F_spec_l1In n x0 (6 : Int) (11 : Int)) fun r95 => (.ask ((!r95)) (.opt (F_spec_l2Error n (2 : Int)) fun r96 => (.done (r96.1, r96.2.1, r96.2.2))) (.ask ((x1 == (4 : Int))) (.done (x1, x2, x3)) (.ask ((x4 == (4 : Int))) (.done (x4, x5, x6)) (.opt (F_spec_l2Like n x1 x2 x3 x4 x5 x6) fun r97 => (.opt (F_spec_l2Like n x4 x5 x6 x1 x2 x3) fun r98 => (.opt (F_spec_Order n r97.1 r97.2.1 r97.2.2 r98.1 r98.2.1 r98.2.2) fun r102 => (.ask ((x0 == (6 : Int))) (.opt (F_spec_l2Flag n (r102 == (0 : Int))) fun r103 => (.done (r103.1, r103.2.1, r103.2.2))) (.ask ((x0 == (7 : Int))) (.opt (F_spec_l2Flag n (r102 != (0 : Int))) fun r104 => (.done (r104.1, r104.2.1, r104.2.2))) (.ask ((x0 == (8 : Int))) (.opt (F_spec_l2Flag n (decide (r102 < (0 : Int)))) fun r105 => (.done (r105.1, r105.2.1, r105.2.2))) (.ask ((x0 == (9 : Int))) (.opt (F_spec_l2Flag n (decide (r102 ≤ (0 : Int)))) fun r106 => (.done (r106.1, r106.2.1, r106.2.2))) (.ask ((x0 == (10 : Int))) (.opt (F_spec_l2Flag n (decide (r102 > (0 : Int)))) fun r107 => (.done (r107.1, r107.2.1, r107.2.2))) (.opt (F_spec_l2Flag n (decide (r102 ≥ (0 : Int)))) fun r108 => (.done (r108.1, r108.2.1, r108.2.2)))))))))))))))))))
def F_spec_Held : Nat → Int → Int → Int → ByteArray → Int → Int → ByteArray → Option (Int × Int × ByteArray)
  | 0, _, _, _, _, _, _, _ => none
  | n + 1, x0, x1, x2, x3, x4, x5, x6 => (T_spec_Held n x0 x1 x2 x3 x4 x5 x6).run
theorem ft_spec_Held (n : Nat) (x0 : Int) (x1 : Int) (x2 : Int) (x3 : ByteArray) (x4 : Int) (x5 : Int) (x6 : ByteArray) : funT (CT_spec_Held n) (LT_spec_Held n) K_spec_Held (A_spec_Held x0 x1 x2 x3 x4 x5 x6) (U_spec_Held x0 x1 x2 x3 x4 x5 x6) = (T_spec_Held n x0 x1 x2 x3 x4 x5 x6).bind fun r => .done (O_spec_Held r) := by kernel_rfl
theorem ct_spec_Held (n : Nat) : CTok (CT_spec_Held n) (runs KP lib n) := mkCT_cons (eo_spec_ValueOk n (noEnt_ok)) (mkCT_cons (eo_spec_l2Error n (noEnt_ok)) (mkCT_cons (eo_spec_l1In n (noEnt_ok)) (mkCT_cons (eo_spec_l2Like n (noEnt_ok)) (mkCT_cons (eo_spec_Order n (noEnt_ok)) (mkCT_cons (eo_spec_l2Flag n (noEnt_ok)) (mkCT_nil))))))
theorem th_spec_Held : ∀ (n : Nat) (x0 : Int) (x1 : Int) (x2 : Int) (x3 : ByteArray) (x4 : Int) (x5 : Int) (x6 : ByteArray) (r : Int × Int × ByteArray), F_spec_Held n x0 x1 x2 x3 x4 x5 x6 = some r → runs KP lib n 20 (A_spec_Held x0 x1 x2 x3 x4 x5 x6) (U_spec_Held x0 x1 x2 x3 x4 x5 x6) = some (O_spec_Held r)
  | 0, x0, x1, x2, x3, x4, x5, x6, r, h => by cases h
  | n + 1, x0, x1, x2, x3, x4, x5, x6, r, h => fun_step (kf := K_spec_Held) rfl (ct_spec_Held n) (noLoops rfl) (ft_spec_Held n x0 x1 x2 x3 x4 x5 x6) h
def FH_spec_Held (n : Nat) : Cont → Option (Int × Int × ByteArray)
  | ([[[.i x0]], [[.i x1], [.i x2], [.s x3]], [[.i x4], [.i x5], [.s x6]]], []) => F_spec_Held n x0 x1 x2 x3 x4 x5 x6
  | _ => none
def E_spec_Held (n : Nat) (d : List AV → List Go.Eng.Frame → Tr Res) : List AV → List Go.Eng.Frame → Tr Res := cent (A_spec_Held (0) (0) (0) (⟨#[]⟩) (0) (0) (⟨#[]⟩)) (U_spec_Held (0) (0) (0) (⟨#[]⟩) (0) (0) (⟨#[]⟩)) (FH_spec_Held n) O_spec_Held d
theorem eo_spec_Held (n : Nat) {d : List AV → List Go.Eng.Frame → Tr Res} (hd : ∀ ar up r, (d ar up).run = some r → runs KP lib n 20 ar up = some r) : ∀ ar up r, (E_spec_Held n d ar up).run = some r → runs KP lib n 20 ar up = some r :=
  cent_ok (fun hs r h => by
    unfold FH_spec_Held at h
    split at h
    · exact ⟨A_spec_Held _ _ _ _ _ _ _, U_spec_Held _ _ _ _ _ _ _, rfl, rfl, th_spec_Held n _ _ _ _ _ _ _ r h⟩
    · cases h) hd
/-! ### laws.FnHeld -/
def A_laws_FnHeld (x0 : List (List PV)) : List AV := [(.c (.p (.ls x0)))]
def U_laws_FnHeld (x0 : List (List PV)) : List Go.Eng.Frame := []
def O_laws_FnHeld (r : Bool) : Res := ⟨(.c (.p (.b r))), [], []⟩
abbrev CT_laws_FnHeld (n : Nat) : CTab := mkCT [(22, E_laws_big n (noEnt)), (34, E_spec_DrawHeld n (noEnt)), (21, E_impl_Held n (noEnt)), (20, E_spec_Held n (noEnt))]
abbrev LT_laws_FnHeld (n : Nat) : LTab := mkLT []
def T_laws_FnHeld (n : Nat) (x0 : List (List PV)) : Tr (Bool) := (.opt (F_laws_big n x0) fun r1 => (.ask (r1) (.done true) (.opt (F_spec_DrawHeld n x0) fun r40 => (.opt (F_impl_Held n r40.1 r40.2.1 r40.2.2.1 r40.2.2.2.1 r40.2.2.2.2.1 r40.2.2.2.2.2.1 r40.2.2.2.2.2.2) fun r81 => (.opt (F_spec_Held n r40.1 r40.2.1 r40.2.2.1 r40.2.2.2.1 r40.2.2.2.2.1 r40.2.2.2.2.2.1 r40.2.2.2.2.2.2) fun r109 => (.ask ((!((r81.1 == r109.1) && ((r81.2.1 == r109.2.1) && ((r81.2.2.toList == r109.2.2.toList) && true))))) (.done false) (.opt (F_impl_Held n (6 : Int) r40.2.1 r40.2.2.1 r40.2.2.2.1 r40.2.2.2.2.1 r40.2.2.2.2.2.1 r40.2.2.2.2.2.2) fun r110 => (.ask ((r110.1 != (3 : Int))) (.ask ((r110.1 == (4 : Int))) (.opt (F_impl_Held n (8 : Int) r40.2.1 r40.2.2.1 r40.2.2.2.1 r40.2.2.2.2.1 r40.2.2.2.2.2.1 r40.2.2.2.2.2.2) fun r111 => (.ask (((r111.1 == r110.1) && ((r111.2.1 == r110.2.1) && ((r111.2.2.toList == r110.2.2.toList) && true)))) (.opt (F_impl_Held n (11 : Int) r40.2.1 r40.2.2.1 r40.2.2.2.1 r40.2.2.2.2.1 r40.2.2.2.2.2.1 r40.2.2.2.2.2.2) fun r112 => (.done ((r112.1 == r110.1) && ((r112.2.1 == r110.2.1) && ((r112.2.2.toList == r110.2.2.toList) && true))))) (.done false))) (.done false)) (.opt (F_impl_Held n (8 : Int) r40.2.1 r40.2.2.1 r40.2.2.2.1 r40.2.2.2.2.1 r40.2.2.2.2.2.1 r40.2.2.2.2.2.2) fun r113 => (.opt (F_impl_Held n (10 : Int) r40.2.1 r40.2.2.1 r40.2.2.2.1 r40.2.2.2.2.1 r40.2.2.2.2.2.1 r40.2.2.2.2.2.2) fun r114 => (.ask (((IntKind.i64.wrap ((IntKind.i64.wrap (r110.2.1 + r113.2.1)) + r114.2.1)) == (1 : Int))) (.opt (F_impl_Held n (7 : Int) r40.2.1 r40.2.2.1 r40.2.2.2.1 r40.2.2.2.2.1 r40.2.2.2.2.2.1 r40.2.2.2.2.2.2) fun r115 => (.ask ((r115.2.1 == (IntKind.i64.wrap ((1 : Int) - r110.2.1)))) (.opt (F_impl_Held n (9 : Int) r40.2.1 r40.2.2.1 r40.2.2.2.1 r40.2.2.2.2.1 r40.2.2.2.2.2.1 r40.2.2.2.2.2.2) fun r116 => (.ask ((r116.2.1 == (IntKind.i64.wrap ((1 : Int) - r114.2.1)))) (.opt (F_impl_Held n (11 : Int) r40.2.1 r40.2.2.1 r40.2.2.2.1 r40.2.2.2.2.1 r40.2.2.2.2.2.1 r40.2.2.2.2.2.2) fun r117 => (.ask ((r117.2.1 == (IntKind.i64.wrap ((1 : Int) - r113.2.1)))) (.opt (F_impl_Held n (8 : Int) r40.2.2.2.2.1 r40.2.2.2.2.2.1 r40.2.2.2.2.2.2 r40.2.1 r40.2.2.1 r40.2.2.2.1) fun r118 => (.done ((r118.1 == r114.1) && ((r118.2.1 == r114.2.1) && ((r118.2.2.toList == r114.2.2.toList) && true))))) (.done false))) (.done false))) (.done false))) (.done false))))))))))))
def F_laws_FnHeld : Nat → List (List PV) → Option (Bool)
  | 0, _ => none
  | n + 1, x0 => (T_laws_FnHeld n x0).run
theorem ft_laws_FnHeld (n : Nat) (x0 : List (List PV)) : funT (CT_laws_FnHeld n) (LT_laws_FnHeld n) K_laws_FnHeld (A_laws_FnHeld x0) (U_laws_FnHeld x0) = (T_laws_FnHeld n x0).bind fun r => .done (O_laws_FnHeld r) := by kernel_rfl
theorem ct_laws_FnHeld (n : Nat) : CTok (CT_laws_FnHeld n) (runs KP lib n) := mkCT_cons (eo_laws_big n (noEnt_ok)) (mkCT_cons (eo_spec_DrawHeld n (noEnt_ok)) (mkCT_cons (eo_impl_Held n (noEnt_ok)) (mkCT_cons (eo_spec_Held n (noEnt_ok)) (mkCT_nil))))
theorem th_laws_FnHeld : ∀ (n : Nat) (x0 : List (List PV)) (r : Bool), F_laws_FnHeld n x0 = some r → runs KP lib n 10 (A_laws_FnHeld x0) (U_laws_FnHeld x0) = some (O_laws_FnHeld r)
  | 0, x0, r, h => by cases h
  | n + 1, x0, r, h => fun_step (kf := K_laws_FnHeld) rfl (ct_laws_FnHeld n) (noLoops rfl) (ft_laws_FnHeld n x0) h
def FH_laws_FnHeld (n : Nat) : Cont → Option (Bool)
  | ([[[.r x0]]], []) => F_laws_FnHeld n x0
  | _ => none
def E_laws_FnHeld (n : Nat) (d : List AV → List Go.Eng.Frame → Tr Res) : List AV → List Go.Eng.Frame → Tr Res := cent (A_laws_FnHeld ([])) (U_laws_FnHeld ([])) (FH_laws_FnHeld n) O_laws_FnHeld d
theorem eo_laws_FnHeld (n : Nat) {d : List AV → List Go.Eng.Frame → Tr Res} (hd : ∀ ar up r, (d ar up).run = some r → runs KP lib n 10 ar up = some r) : ∀ ar up r, (E_laws_FnHeld n d ar up).run = some r → runs KP lib n 10 ar up = some r :=
  cent_ok (fun hs r h => by
    unfold FH_laws_FnHeld at h
    split at h
    · exact ⟨A_laws_FnHeld _, U_laws_FnHeld _, rfl, rfl, th_laws_FnHeld n _ r h⟩
    · cases h) hd
end Go.Proofs.Ytaannlnlddbgdaa.KFnHeld
