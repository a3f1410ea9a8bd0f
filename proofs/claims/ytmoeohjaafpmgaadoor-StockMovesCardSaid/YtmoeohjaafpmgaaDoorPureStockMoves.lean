/- The law StockMoves, in plain words: true for every input. -/
import Derived.Test.YtmoeohjaafpmgaaDoorE1
import Derived.Test.YtmoeohjaafpmgaaDoorPureStockLib
set_option linter.unusedVariables false
namespace Go.Rv.Tryd
open Go Go.Rv
theorem StockMoves_core (x0 : Sk) (w n : Int) (k : Bool → Option Unit) : draymanlaw12_StockMoves x0 w n k = k true := by
  unfold draymanlaw12_StockMoves draymanlaw12_StockMoves_g
  by_cases h : (x0.1.size : Int) > 60
  · rw [cT h, awake12_is]
  · have hs : x0.1.size ≤ 9223372036854775806 := by omega
    rw [cF h, move_is hs, ref_Move_is, sk_beq]
    simp only [decide_true, cond_true, beq_self_eq_true]
    rw [stock_Fit_is hs, ref_SFit_is]
    simp only [beq_self_eq_true, cond_true, awake12_is]
theorem StockMoves_true (x0 : Tup (.str (.int .i64 (.int .i64 (.int .i64 (.int .i64 (.int .i64 (.nil)))))))) (x1 : Tup (.int .i64 (.nil))) (x2 : Tup (.int .i64 (.nil))) (o0 : OkT (.str (.int .i64 (.int .i64 (.int .i64 (.int .i64 (.int .i64 (.nil))))))) x0) (o1 : OkT (.int .i64 (.nil)) x1) (o2 : OkT (.int .i64 (.nil)) x2) (k : Bool → Option Unit) : draymanlaw12_StockMoves x0 x1.1 x2.1 k = k true := StockMoves_core x0 x1.1 x2.1 k
end Go.Rv.Tryd
