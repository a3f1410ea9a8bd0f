/- Amounts: whether a number is one. -/
import Derived.Test.YtmoeohjaafpmgaaDoorE1
import Derived.Test.YtmoeohjaafpmgaaDoorPureCondLib
set_option linter.unusedVariables false
set_option linter.unusedSimpArgs false
namespace Go.Rv.Tryd
open Go Go.Rv
variable {α : Type}
/-- An amount. -/
def fitN (n : Int) : Bool := decide (0 ≤ n ∧ n ≤ 1099511627776)
theorem fitN_T {n : Int} (h : 0 ≤ n ∧ n ≤ 1099511627776) : fitN n = true := decide_eq_true h
theorem fitN_F {n : Int} (h : ¬ (0 ≤ n ∧ n ≤ 1099511627776)) : fitN n = false := decide_eq_false h
theorem fitN_iff {n : Int} : fitN n = true ↔ 0 ≤ n ∧ n ≤ 1099511627776 := decide_eq_true_iff
theorem num_Fit_is (n : Int) (k : Bool → Option α) : num_Fit n k = k (fitN n) := by
  unfold num_Fit
  by_cases h : n ≥ 0
  · rw [cT h]
    by_cases h2 : n ≤ 1099511627776
    · rw [decide_eq_true h2, fitN_T ⟨h, h2⟩]
    · rw [decide_eq_false h2, fitN_F (by omega)]
  · rw [cF h, fitN_F (by omega)]
end Go.Rv.Tryd
