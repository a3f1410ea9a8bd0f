/- The law NameFolds, in plain words: true for every input. -/
import Derived.Test.YtpncgjpaecpcoaaDoorE1
import Derived.Test.YtpncgjpaecpcoaaDoorPureNameFold
set_option linter.unusedVariables false
namespace Go.Rv.Tryd
open Go Go.Rv
theorem NameFolds_true (x0 : Tup (.str (.nil))) (o0 : OkT (.str (.nil)) x0) (k : Bool → Option Unit) : draymanlaw02_NameFolds x0.1 k = k true := by
  unfold draymanlaw02_NameFolds draymanlaw02_NameFolds_g
  by_cases h : (x0.1.size : Int) > 80
  · rw [cT h, awake_is]
  · rw [cF h, name_Fold_is (by omega), ref_Fold_is]
    simp only [beq_self_eq_true, cond_true, awake_is]
end Go.Rv.Tryd
