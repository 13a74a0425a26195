/-
  The tables of what FnExactOrder calls, and that they are the functions' own texts. No condition.
-/
import Derived.Test.YtoodcplobkflfaaChecked
import Derived.Test.YtoodcplobkflfaaE28
import Derived.KernelRfl
namespace Go.Proofs.Ytoodcplobkflfaa.KFnExactOrder
open Go.Eng
set_option linter.unusedVariables false
set_option maxRecDepth 100000
/- laws.FnExactOrder -/
def K_laws_FnExactOrder : KFun := ⟨[0, 1], [(.inl 4)], true, (.seq (.ops [⟨(some 2), (.box 45 3 (.t 0)), none⟩, ⟨(some 3), (.box 45 3 (.t 1)), none⟩, ⟨(some 4), (.mv (.k (.c (.p (.b false))))), none⟩]) (.seq (.ops [⟨(some 5), (.mv (.k (.c (.p (.i .i64 1048576))))), none⟩]) (.seq (.ops [⟨(some 8), (.load true 3 [1, 1, 2] (.t 2)), none⟩, ⟨(some 9), (.mv (.t 5)), none⟩, ⟨(some 10), (.call true (.k (.c (.fn 28 []))) [(.t 8), (.t 9)]), none⟩, ⟨(some 5), (.mv (.t 10)), none⟩]) (.seq (.seq (.ops [⟨(some 11), (.mv (.t 5)), none⟩, ⟨(some 12), (.bin .lss (.t 11) (.k (.c (.p (.i .i64 0))))), none⟩]) (.cond (.t 12) (.seq (.ops [⟨(some 4), (.mv (.k (.c (.p (.b true))))), none⟩]) .ret) .skip)) (.seq (.ops [⟨(some 13), (.load true 3 [1, 1, 2] (.t 3)), none⟩, ⟨(some 14), (.mv (.t 5)), none⟩, ⟨(some 15), (.call true (.k (.c (.fn 28 []))) [(.t 13), (.t 14)]), none⟩, ⟨(some 5), (.mv (.t 15)), none⟩]) (.seq (.seq (.ops [⟨(some 16), (.mv (.t 5)), none⟩, ⟨(some 17), (.bin .lss (.t 16) (.k (.c (.p (.i .i64 0))))), none⟩]) (.cond (.t 17) (.seq (.ops [⟨(some 4), (.mv (.k (.c (.p (.b true))))), none⟩]) .ret) .skip)) (.seq (.ops [⟨(some 18), (.load true 3 [1, 1, 2] (.t 2)), none⟩, ⟨(some 20), (.load true 3 [1, 1, 2] (.t 3)), none⟩, ⟨(some 19), (.call true (.k (.c (.fn 30 []))) [(.t 18)]), none⟩, ⟨(some 21), (.call true (.k (.c (.fn 30 []))) [(.t 20)]), none⟩, ⟨(some 22), (.call true (.k (.c (.fn 32 []))) [(.t 19), (.t 21)]), none⟩, ⟨(some 6), (.mv (.t 22)), none⟩]) (.seq (.ops [⟨(some 23), (.load true 3 [1, 1, 2] (.t 2)), none⟩, ⟨(some 25), (.load true 3 [1, 1, 2] (.t 3)), none⟩, ⟨(some 24), (.call true (.k (.c (.fn 30 []))) [(.t 23)]), none⟩, ⟨(some 26), (.call true (.k (.c (.fn 30 []))) [(.t 25)]), none⟩, ⟨(some 27), (.call true (.k (.c (.fn 33 []))) [(.t 24), (.t 26)]), none⟩, ⟨(some 7), (.mv (.t 27)), none⟩]) (.seq (.seq (.ops [⟨(some 28), (.mv (.t 7)), none⟩, ⟨(some 29), (.mv (.t 6)), none⟩, ⟨(some 30), (.bin .neq (.t 28) (.t 29)), none⟩]) (.cond (.t 30) (.seq (.ops [⟨(some 4), (.mv (.k (.c (.p (.b false))))), none⟩]) .ret) .skip)) (.seq (.ops [⟨(some 4), (.mv (.k (.c (.p (.b true))))), none⟩]) .ret))))))))))⟩
/- laws.szValue -/
def K_laws_szValue : KFun := ⟨[0, 1], [(.inl 4)], true, (.seq (.ops [⟨(some 2), (.box 45 3 (.t 0)), none⟩, ⟨(some 4), (.mv (.k (.c (.p (.i .i64 0))))), none⟩]) (.seq (.ops [⟨(some 5), (.mv (.t 1)), none⟩, ⟨(some 6), (.faddr 2 (.t 2)), none⟩, ⟨(some 7), (.load false 1 [2] (.t 6)), none⟩, ⟨(some 8), (.len true (.t 7)), none⟩, ⟨(some 9), (.bin .sub (.t 5) (.t 8)), none⟩, ⟨(some 1), (.mv (.t 9)), none⟩]) (.seq (.seq (.ops [⟨(some 10), (.mv (.t 1)), none⟩, ⟨(some 11), (.bin .lss (.t 10) (.k (.c (.p (.i .i64 0))))), none⟩]) (.cond (.t 11) (.seq (.ops [⟨(some 4), (.mv (.k (.c (.p (.i .i64 (-1)))))), none⟩]) .ret) .skip)) (.seq (.ops [⟨(some 12), (.mv (.t 1)), none⟩, ⟨(some 4), (.mv (.t 12)), none⟩]) .ret))))⟩
/- laws.toValue -/
def K_laws_toValue : KFun := ⟨[0], [(.inr (2, (true, 3)))], true, (.seq (.ops [⟨(some 1), (.box 45 3 (.t 0)), none⟩, ⟨(some 2), (.box 48 3 (.k (.agg [(.p (.i .i64 0)), (.p (.i .i64 0)), (.p (.s ⟨#[]⟩))]))), none⟩]) (.seq (.ops [⟨(some 3), (.box 48 3 (.k (.agg [(.p (.i .i64 0)), (.p (.i .i64 0)), (.p (.s ⟨#[]⟩))]))), none⟩]) (.seq (.ops [⟨(some 4), (.faddr 0 (.t 1)), none⟩, ⟨(some 5), (.load false 1 [1] (.t 4)), none⟩, ⟨(some 6), (.faddr 0 (.t 3)), none⟩, ⟨none, (.store 1 (.t 6) (.t 5)), none⟩]) (.seq (.ops [⟨(some 7), (.faddr 1 (.t 1)), none⟩, ⟨(some 8), (.load false 1 [1] (.t 7)), none⟩, ⟨(some 9), (.faddr 1 (.t 3)), none⟩, ⟨none, (.store 1 (.t 9) (.t 8)), none⟩]) (.seq (.ops [⟨(some 10), (.faddr 2 (.t 1)), none⟩, ⟨(some 11), (.load false 1 [2] (.t 10)), none⟩, ⟨(some 12), (.faddr 2 (.t 3)), none⟩, ⟨none, (.store 1 (.t 12) (.t 11)), none⟩]) (.seq (.ops [⟨(some 13), (.load true 3 [1, 1, 2] (.t 3)), none⟩, ⟨none, (.store 3 (.t 2) (.t 13)), none⟩]) .ret))))))⟩
/- spec.Order -/
def K_spec_Order : KFun := ⟨[0, 1], [(.inl 4)], true, (.seq (.ops [⟨(some 2), (.box 48 3 (.t 0)), none⟩, ⟨(some 3), (.box 48 3 (.t 1)), none⟩, ⟨(some 4), (.mv (.k (.c (.p (.i .i64 0))))), none⟩]) (.seq (.seq (.ops [⟨(some 5), (.faddr 0 (.t 2)), none⟩, ⟨(some 6), (.load false 1 [1] (.t 5)), none⟩, ⟨(some 7), (.faddr 0 (.t 3)), none⟩, ⟨(some 8), (.load false 1 [1] (.t 7)), none⟩, ⟨(some 9), (.bin .neq (.t 6) (.t 8)), none⟩]) (.cond (.t 9) (.seq (.ops [⟨(some 10), (.faddr 0 (.t 2)), none⟩, ⟨(some 11), (.load false 1 [1] (.t 10)), none⟩, ⟨(some 12), (.faddr 0 (.t 3)), none⟩, ⟨(some 13), (.load false 1 [1] (.t 12)), none⟩, ⟨(some 14), (.bin .lss (.t 11) (.t 13)), none⟩, ⟨(some 15), (.call true (.k (.c (.fn 56 []))) [(.t 14), (.k (.c (.p (.b true))))]), none⟩, ⟨(some 4), (.mv (.t 15)), none⟩]) .ret) .skip)) (.seq (.seq (.ops [⟨(some 16), (.faddr 1 (.t 2)), none⟩, ⟨(some 17), (.load false 1 [1] (.t 16)), none⟩, ⟨(some 18), (.faddr 1 (.t 3)), none⟩, ⟨(some 19), (.load false 1 [1] (.t 18)), none⟩, ⟨(some 20), (.bin .neq (.t 17) (.t 19)), none⟩]) (.cond (.t 20) (.seq (.ops [⟨(some 21), (.faddr 1 (.t 2)), none⟩, ⟨(some 22), (.load false 1 [1] (.t 21)), none⟩, ⟨(some 23), (.faddr 1 (.t 3)), none⟩, ⟨(some 24), (.load false 1 [1] (.t 23)), none⟩, ⟨(some 25), (.bin .lss (.t 22) (.t 24)), none⟩, ⟨(some 26), (.call true (.k (.c (.fn 56 []))) [(.t 25), (.k (.c (.p (.b true))))]), none⟩, ⟨(some 4), (.mv (.t 26)), none⟩]) .ret) .skip)) (.seq (.ops [⟨(some 27), (.faddr 2 (.t 2)), none⟩, ⟨(some 28), (.load false 1 [2] (.t 27)), none⟩, ⟨(some 29), (.faddr 2 (.t 3)), none⟩, ⟨(some 30), (.load false 1 [2] (.t 29)), none⟩, ⟨(some 31), (.bin .lss (.t 28) (.t 30)), none⟩, ⟨(some 32), (.faddr 2 (.t 2)), none⟩, ⟨(some 33), (.load false 1 [2] (.t 32)), none⟩, ⟨(some 34), (.faddr 2 (.t 3)), none⟩, ⟨(some 35), (.load false 1 [2] (.t 34)), none⟩, ⟨(some 36), (.bin .gtr (.t 33) (.t 35)), none⟩, ⟨(some 37), (.call true (.k (.c (.fn 56 []))) [(.t 31), (.t 36)]), none⟩, ⟨(some 4), (.mv (.t 37)), none⟩]) .ret))))⟩
/- impl.Order -/
def K_impl_Order : KFun := ⟨[0, 1], [(.inl 4)], true, (.seq (.ops [⟨(some 2), (.box 48 3 (.t 0)), none⟩, ⟨(some 3), (.box 48 3 (.t 1)), none⟩, ⟨(some 4), (.mv (.k (.c (.p (.i .i64 0))))), none⟩]) (.seq (.ops [⟨(some 5), (.faddr 0 (.t 2)), none⟩, ⟨(some 6), (.load false 1 [1] (.t 5)), none⟩, ⟨(some 7), (.faddr 0 (.t 3)), none⟩, ⟨(some 8), (.load false 1 [1] (.t 7)), none⟩, ⟨(some 10), (.faddr 1 (.t 2)), none⟩, ⟨(some 11), (.load false 1 [1] (.t 10)), none⟩, ⟨(some 12), (.faddr 1 (.t 3)), none⟩, ⟨(some 13), (.load false 1 [1] (.t 12)), none⟩, ⟨(some 15), (.faddr 2 (.t 2)), none⟩, ⟨(some 16), (.load false 1 [2] (.t 15)), none⟩, ⟨(some 17), (.faddr 2 (.t 3)), none⟩, ⟨(some 18), (.load false 1 [2] (.t 17)), none⟩, ⟨(some 9), (.call true (.k (.c (.fn 58 []))) [(.t 6), (.t 8)]), none⟩, ⟨(some 14), (.call true (.k (.c (.fn 58 []))) [(.t 11), (.t 13)]), none⟩, ⟨(some 19), (.call true (.k (.c (.fn 59 []))) [(.t 16), (.t 18)]), none⟩, ⟨(some 20), (.bslice 3 1 3 [(.i .i64 0)] [(0, (.t 9)), (1, (.t 14)), (2, (.t 19))]), none⟩, ⟨(some 21), (.call true (.k (.c (.fn 57 []))) [(.t 20)]), none⟩, ⟨(some 4), (.mv (.t 21)), none⟩]) .ret))⟩
/- spec.l2Sign -/
def K_spec_l2Sign : KFun := ⟨[0, 1], [(.inl 4)], true, (.seq (.ops [⟨(some 4), (.mv (.k (.c (.p (.i .i64 0))))), none⟩]) (.seq (.seq (.ops [⟨(some 5), (.mv (.t 0)), none⟩]) (.cond (.t 5) (.seq (.ops [⟨(some 4), (.mv (.k (.c (.p (.i .i64 (-1)))))), none⟩]) .ret) .skip)) (.seq (.seq (.ops [⟨(some 6), (.mv (.t 1)), none⟩]) (.cond (.t 6) (.seq (.ops [⟨(some 4), (.mv (.k (.c (.p (.i .i64 1))))), none⟩]) .ret) .skip)) (.seq (.ops [⟨(some 4), (.mv (.k (.c (.p (.i .i64 0))))), none⟩]) .ret))))⟩
def K_cmp_Or_int_L29 : KCode := (.seq (.ops [⟨(some 9), (.bin .lss (.t 8) (.t 7)), none⟩]) (.seq (.cond (.t 9) .skip (.exit 0)) (.seq (.block 1 (.seq (.ops [⟨(some 10), (.iaddr 1 (.t 6) (.t 8)), none⟩, ⟨(some 11), (.load false 1 [1] (.t 10)), none⟩, ⟨(some 5), (.mv (.t 11)), none⟩]) (.seq (.ops [⟨(some 12), (.mv (.t 5)), none⟩, ⟨(some 13), (.mv (.t 3)), none⟩, ⟨(some 14), (.bin .neq (.t 12) (.t 13)), none⟩]) (.cond (.t 14) (.seq (.ops [⟨(some 15), (.mv (.t 5)), none⟩, ⟨(some 2), (.mv (.t 15)), none⟩]) .ret) .skip)))) (.ops [⟨(some 16), (.bin .add (.t 8) (.k (.c (.p (.i .i64 1))))), none⟩, ⟨(some 8), (.mv (.t 16)), none⟩]))))
/- cmp.Or[int] -/
def K_cmp_Or_int : KFun := ⟨[0], [(.inl 2)], true, (.seq (.ops [⟨(some 2), (.mv (.k (.c (.p (.i .i64 0))))), none⟩]) (.seq (.ops [⟨(some 3), (.mv (.k (.c (.p (.i .i64 0))))), none⟩]) (.seq (.seq (.ops [⟨(some 6), (.mv (.t 0)), none⟩, ⟨(some 7), (.len false (.t 6)), none⟩, ⟨(some 8), (.mv (.k (.c (.p (.i .i64 0))))), none⟩]) (.block 0 (.loop 29 [3, 6, 7, 8] [(.ret, [2]), ((.exit 0), [3])] K_cmp_Or_int_L29))) (.seq (.ops [⟨(some 17), (.mv (.t 3)), none⟩, ⟨(some 2), (.mv (.t 17)), none⟩]) .ret))))⟩
/- cmp.Compare[int64] -/
def K_cmp_Compare_int64 : KFun := ⟨[0, 1], [(.inl 4)], true, (.seq (.ops [⟨(some 4), (.mv (.k (.c (.p (.i .i64 0))))), none⟩]) (.seq (.ops [⟨(some 7), (.mv (.t 0)), none⟩, ⟨(some 8), (.call true (.k (.c (.fn 71 []))) [(.t 7)]), none⟩, ⟨(some 5), (.mv (.t 8)), none⟩]) (.seq (.ops [⟨(some 9), (.mv (.t 1)), none⟩, ⟨(some 10), (.call true (.k (.c (.fn 71 []))) [(.t 9)]), none⟩, ⟨(some 6), (.mv (.t 10)), none⟩]) (.seq (.seq (.ops [⟨(some 11), (.mv (.t 5)), none⟩]) (.cond (.t 11) (.seq (.seq (.ops [⟨(some 12), (.mv (.t 6)), none⟩]) (.cond (.t 12) (.seq (.ops [⟨(some 4), (.mv (.k (.c (.p (.i .i64 0))))), none⟩]) .ret) .skip)) (.seq (.ops [⟨(some 4), (.mv (.k (.c (.p (.i .i64 (-1)))))), none⟩]) .ret)) .skip)) (.seq (.seq (.ops [⟨(some 13), (.mv (.t 6)), none⟩]) (.cond (.t 13) (.seq (.ops [⟨(some 4), (.mv (.k (.c (.p (.i .i64 1))))), none⟩]) .ret) .skip)) (.seq (.seq (.ops [⟨(some 14), (.mv (.t 0)), none⟩, ⟨(some 15), (.mv (.t 1)), none⟩, ⟨(some 16), (.bin .lss (.t 14) (.t 15)), none⟩]) (.cond (.t 16) (.seq (.ops [⟨(some 4), (.mv (.k (.c (.p (.i .i64 (-1)))))), none⟩]) .ret) .skip)) (.seq (.seq (.ops [⟨(some 17), (.mv (.t 0)), none⟩, ⟨(some 18), (.mv (.t 1)), none⟩, ⟨(some 19), (.bin .gtr (.t 17) (.t 18)), none⟩]) (.cond (.t 19) (.seq (.ops [⟨(some 4), (.mv (.k (.c (.p (.i .i64 1))))), none⟩]) .ret) .skip)) (.seq (.ops [⟨(some 4), (.mv (.k (.c (.p (.i .i64 0))))), none⟩]) .ret))))))))⟩
/- cmp.Compare[string] -/
def K_cmp_Compare_string : KFun := ⟨[0, 1], [(.inl 4)], true, (.seq (.ops [⟨(some 4), (.mv (.k (.c (.p (.i .i64 0))))), none⟩]) (.seq (.ops [⟨(some 7), (.mv (.t 0)), none⟩, ⟨(some 8), (.call true (.k (.c (.fn 72 []))) [(.t 7)]), none⟩, ⟨(some 5), (.mv (.t 8)), none⟩]) (.seq (.ops [⟨(some 9), (.mv (.t 1)), none⟩, ⟨(some 10), (.call true (.k (.c (.fn 72 []))) [(.t 9)]), none⟩, ⟨(some 6), (.mv (.t 10)), none⟩]) (.seq (.seq (.ops [⟨(some 11), (.mv (.t 5)), none⟩]) (.cond (.t 11) (.seq (.seq (.ops [⟨(some 12), (.mv (.t 6)), none⟩]) (.cond (.t 12) (.seq (.ops [⟨(some 4), (.mv (.k (.c (.p (.i .i64 0))))), none⟩]) .ret) .skip)) (.seq (.ops [⟨(some 4), (.mv (.k (.c (.p (.i .i64 (-1)))))), none⟩]) .ret)) .skip)) (.seq (.seq (.ops [⟨(some 13), (.mv (.t 6)), none⟩]) (.cond (.t 13) (.seq (.ops [⟨(some 4), (.mv (.k (.c (.p (.i .i64 1))))), none⟩]) .ret) .skip)) (.seq (.seq (.ops [⟨(some 14), (.mv (.t 0)), none⟩, ⟨(some 15), (.mv (.t 1)), none⟩, ⟨(some 16), (.bin .lss (.t 14) (.t 15)), none⟩]) (.cond (.t 16) (.seq (.ops [⟨(some 4), (.mv (.k (.c (.p (.i .i64 (-1)))))), none⟩]) .ret) .skip)) (.seq (.seq (.ops [⟨(some 17), (.mv (.t 0)), none⟩, ⟨(some 18), (.mv (.t 1)), none⟩, ⟨(some 19), (.bin .gtr (.t 17) (.t 18)), none⟩]) (.cond (.t 19) (.seq (.ops [⟨(some 4), (.mv (.k (.c (.p (.i .i64 1))))), none⟩]) .ret) .skip)) (.seq (.ops [⟨(some 4), (.mv (.k (.c (.p (.i .i64 0))))), none⟩]) .ret))))))))⟩
/- cmp.isNaN[int64] -/
def K_cmp_isNaN_int64 : KFun := ⟨[0], [(.inl 2)], true, (.seq (.ops [⟨(some 2), (.mv (.k (.c (.p (.b false))))), none⟩]) (.seq (.ops [⟨(some 3), (.mv (.t 0)), none⟩, ⟨(some 4), (.mv (.t 0)), none⟩, ⟨(some 5), (.bin .neq (.t 3) (.t 4)), none⟩, ⟨(some 2), (.mv (.t 5)), none⟩]) .ret))⟩
/- cmp.isNaN[string] -/
def K_cmp_isNaN_string : KFun := ⟨[0], [(.inl 2)], true, (.seq (.ops [⟨(some 2), (.mv (.k (.c (.p (.b false))))), none⟩]) (.seq (.ops [⟨(some 3), (.mv (.t 0)), none⟩, ⟨(some 4), (.mv (.t 0)), none⟩, ⟨(some 5), (.bin .neq (.t 3) (.t 4)), none⟩, ⟨(some 2), (.mv (.t 5)), none⟩]) .ret))⟩
def KP : FuncId → Option KFun
  | 10 => some K_laws_FnExactOrder
  | 28 => some K_laws_szValue
  | 30 => some K_laws_toValue
  | 32 => some K_spec_Order
  | 33 => some K_impl_Order
  | 56 => some K_spec_l2Sign
  | 57 => some K_cmp_Or_int
  | 58 => some K_cmp_Compare_int64
  | 59 => some K_cmp_Compare_string
  | 71 => some K_cmp_isNaN_int64
  | 72 => some K_cmp_isNaN_string
  | _ => none
def hints : Hints := ⟨[], [], []⟩
theorem c10 : compiled Try.prog hints 10 K_laws_FnExactOrder := ⟨Try.f10, by kernel_rfl, by kernel_rfl, by kernel_rfl, by kernel_rfl⟩
theorem c28 : compiled Try.prog hints 28 K_laws_szValue := ⟨Try.f28, by kernel_rfl, by kernel_rfl, by kernel_rfl, by kernel_rfl⟩
theorem c30 : compiled Try.prog hints 30 K_laws_toValue := ⟨Try.f30, by kernel_rfl, by kernel_rfl, by kernel_rfl, by kernel_rfl⟩
theorem c32 : compiled Try.prog hints 32 K_spec_Order := ⟨Try.f32, by kernel_rfl, by kernel_rfl, by kernel_rfl, by kernel_rfl⟩
theorem c33 : compiled Try.prog hints 33 K_impl_Order := ⟨Try.f33, by kernel_rfl, by kernel_rfl, by kernel_rfl, by kernel_rfl⟩
theorem c56 : compiled Try.prog hints 56 K_spec_l2Sign := ⟨Try.f56, by kernel_rfl, by kernel_rfl, by kernel_rfl, by kernel_rfl⟩
theorem c57 : compiled Try.prog hints 57 K_cmp_Or_int := ⟨Try.f57, by kernel_rfl, by kernel_rfl, by kernel_rfl, by kernel_rfl⟩
theorem c58 : compiled Try.prog hints 58 K_cmp_Compare_int64 := ⟨Try.f58, by kernel_rfl, by kernel_rfl, by kernel_rfl, by kernel_rfl⟩
theorem c59 : compiled Try.prog hints 59 K_cmp_Compare_string := ⟨Try.f59, by kernel_rfl, by kernel_rfl, by kernel_rfl, by kernel_rfl⟩
theorem c71 : compiled Try.prog hints 71 K_cmp_isNaN_int64 := ⟨Try.f71, by kernel_rfl, by kernel_rfl, by kernel_rfl, by kernel_rfl⟩
theorem c72 : compiled Try.prog hints 72 K_cmp_isNaN_string := ⟨Try.f72, by kernel_rfl, by kernel_rfl, by kernel_rfl, by kernel_rfl⟩
theorem hK : ∀ f kf, KP f = some kf → compiled Try.prog hints f kf := by
  intro f kf h
  unfold KP at h
  split at h
  · cases h; exact c10
  · cases h; exact c28
  · cases h; exact c30
  · cases h; exact c32
  · cases h; exact c33
  · cases h; exact c56
  · cases h; exact c57
  · cases h; exact c58
  · cases h; exact c59
  · cases h; exact c71
  · cases h; exact c72
  · cases h
end Go.Proofs.Ytoodcplobkflfaa.KFnExactOrder
