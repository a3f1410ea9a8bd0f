/- The law NameTells, in plain words: true for every input. -/
import Derived.Test.YtpncgjpaecpcoaaDoorE1
import Derived.Test.YtpncgjpaecpcoaaDoorPureNameFold
set_option linter.unusedVariables false
namespace Go.Rv.Tryd
open Go Go.Rv
theorem NameTells_true (x0 : Tup (.int .i32 (.nil))) (x1 : Tup (.str (.nil))) (o0 : OkT (.int .i32 (.nil)) x0) (o1 : OkT (.str (.nil)) x1) (k : Bool → Option Unit) : draymanlaw02_NameTells x0.1 x1.1 k = k true := by
  unfold draymanlaw02_NameTells draymanlaw02_NameTells_g
  have hr : -2147483648 ≤ x0.1 ∧ x0.1 ≤ 2147483647 := by
    have := o0.1
    simp [Lit.wf, IntKind.min, IntKind.max, IntKind.signed, IntKind.bits] at this
    omega
  by_cases h : (x1.1.size : Int) > 80
  · rw [cT h, awake_is]
  · rw [cF h]
    simp only [name_Rune_is, ref_Rune_is]
    rw [wrap64 (by omega) (by omega)]
    simp only [beq_self_eq_true, cond_true]
    rw [name_Count_is (by omega), ref_Count_is (by omega)]
    simp only [beq_self_eq_true, cond_true]
    rw [name_Fit_is (by omega), ref_Fit_is]
    simp only [beq_self_eq_true, cond_true, awake_is]
end Go.Rv.Tryd
