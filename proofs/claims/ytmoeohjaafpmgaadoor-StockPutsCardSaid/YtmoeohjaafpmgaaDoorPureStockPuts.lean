/- The law StockPuts, in plain words: true for every input. -/
import Derived.Test.YtmoeohjaafpmgaaDoorE1
import Derived.Test.YtmoeohjaafpmgaaDoorPureStockLib
set_option linter.unusedVariables false
namespace Go.Rv.Tryd
open Go Go.Rv
theorem StockPuts_core (x0 : Sk) (n : Int) (s : ByteArray) (hn : -9223372036854775808 ≤ n ∧ n ≤ 9223372036854775807) (k : Bool → Option Unit) : draymanlaw12_StockPuts x0 n s k = k true := by
  unfold draymanlaw12_StockPuts draymanlaw12_StockPuts_g
  by_cases h : (x0.1.size : Int) > 60
  · rw [cnT h, awake12_is]
  · rw [cnF h]
    by_cases h2 : (s.size : Int) > 60
    · rw [cT h2, awake12_is]
    · have hs : x0.1.size ≤ 9223372036854775806 := by omega
      have hs2 : s.size ≤ 9223372036854775806 := by omega
      rw [cF h2, stock_Restock_is hs, ref_Restock_is, stock_Adjust_is hs, ref_Adjust_is hn, stock_New_is hs2, ref_New_is]
      simp only [cond_true, beq_self_eq_true, Bool.and_self, awake12_is]
theorem StockPuts_true (x0 : Tup (.str (.int .i64 (.int .i64 (.int .i64 (.int .i64 (.int .i64 (.nil)))))))) (x1 : Tup (.int .i64 (.nil))) (x2 : Tup (.str (.nil))) (o0 : OkT (.str (.int .i64 (.int .i64 (.int .i64 (.int .i64 (.int .i64 (.nil))))))) x0) (o1 : OkT (.int .i64 (.nil)) x1) (o2 : OkT (.str (.nil)) x2) (k : Bool → Option Unit) : draymanlaw12_StockPuts x0 x1.1 x2.1 k = k true := by
  have hn : -9223372036854775808 ≤ x1.1 ∧ x1.1 ≤ 9223372036854775807 := by
    have := o1.1
    simp [Lit.wf, IntKind.min, IntKind.max, IntKind.signed, IntKind.bits] at this
    omega
  exact StockPuts_core x0 x1.1 x2.1 hn k
end Go.Rv.Tryd
