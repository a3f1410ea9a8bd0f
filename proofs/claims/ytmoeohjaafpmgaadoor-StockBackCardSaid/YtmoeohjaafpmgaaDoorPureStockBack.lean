/- The law StockBack, in plain words: true for every input. -/
import Derived.Test.YtmoeohjaafpmgaaDoorE1
import Derived.Test.YtmoeohjaafpmgaaDoorPureStockLib
set_option linter.unusedVariables false
set_option linter.unusedSimpArgs false
namespace Go.Rv.Tryd
open Go Go.Rv
variable {α : Type}
theorem move_ok {x : Sk} {w n : Int} (h : (moveS x w n).2 = 0) : fitS x = true ∧ ¬ (n < 1 ∨ n > 1048576) ∧ moveS x w n = movedS x w n := by
  unfold moveS at h ⊢
  by_cases hf : fitS x = false
  · rw [if_pos hf] at h; cases h
  · rw [if_neg hf] at h ⊢
    by_cases hn : n < 1 ∨ n > 1048576
    · rw [if_pos hn] at h; cases h
    · rw [if_neg hn]; exact ⟨Bool.not_eq_false _ ▸ hf, hn, rfl⟩
theorem move_fit {x : Sk} {w n : Int} (hf : fitS x = true) (hn : ¬ (n < 1 ∨ n > 1048576)) : moveS x w n = movedS x w n := by
  unfold moveS; rw [hf, if_neg (by decide), if_neg hn]
theorem move_12 {x : Sk} {n : Int} (h : (moveS x 1 n).2 = 0) : moveS (moveS x 1 n).1 2 n = (x, 0) ∧ (moveS x 1 n).1.2.2.2.2.2.1 = x.2.2.2.2.2.1 ∧ (moveS x 1 n).1 ≠ x ∧ (moveS x 1 n).1.1 = x.1 := by
  obtain ⟨hf, hn, e⟩ := move_ok h
  obtain ⟨nm, a, b, c, d, t, u⟩ := x
  have hb := fitS_b hf
  rw [e] at h
  unfold movedS at e h
  rw [if_pos rfl] at e h
  simp only at hb e h
  by_cases ho : a < n
  · rw [if_pos ho] at h; cases h
  · rw [if_neg ho] at e
    rw [e]
    refine ⟨?_, rfl, ?_, rfl⟩
    · rw [move_fit (fitS_T hb.1 (by simp only; omega)) hn, movedS, if_neg (by decide), if_pos rfl]
      simp only
      rw [if_neg (by omega), show a - n + n = a by omega, show b + n - n = b by omega]
    · intro q
      simp only [Prod.mk.injEq] at q
      omega
theorem move_34 {x : Sk} {n : Int} (h : (moveS x 3 n).2 = 0) : moveS (moveS x 3 n).1 4 n = (x, 0) ∧ (moveS x 3 n).1.2.2.2.2.2.1 = x.2.2.2.2.2.1 ∧ (moveS x 3 n).1 ≠ x ∧ (moveS x 3 n).1.1 = x.1 := by
  obtain ⟨hf, hn, e⟩ := move_ok h
  obtain ⟨nm, a, b, c, d, t, u⟩ := x
  have hb := fitS_b hf
  rw [e] at h
  unfold movedS at e h
  rw [if_neg (by decide), if_neg (by decide), if_pos rfl] at e h
  simp only at hb e h
  by_cases ho : b < n
  · rw [if_pos ho] at h; cases h
  · rw [if_neg ho] at e
    rw [e]
    refine ⟨?_, rfl, ?_, rfl⟩
    · rw [move_fit (fitS_T hb.1 (by simp only; omega)) hn, movedS, if_neg (by decide), if_neg (by decide), if_neg (by decide), if_pos rfl]
      simp only
      rw [if_neg (by omega), show b - n + n = b by omega, show c + n - n = c by omega]
    · intro q
      simp only [Prod.mk.injEq] at q
      omega
theorem restock_adj {x : Sk} {n : Int} (h : (restockS x n).2 = 0) : adjustS (restockS x n).1 (IntKind.i64.wrap (0 - n)) = (x, 0) ∧ (restockS x n).1.1 = x.1 := by
  have e : fitS x = true ∧ ¬ (n < 1 ∨ n > 1099511627776) ∧ ¬ x.2.2.2.2.2.1 + n > 1099511627776 ∧ restockS x n = ((x.1, x.2.1 + n, x.2.2.1, x.2.2.2.1, x.2.2.2.2.1, x.2.2.2.2.2.1 + n, ()), 0) := by
    unfold restockS at h ⊢
    by_cases hf : fitS x = false
    · rw [if_pos hf] at h; cases h
    · rw [if_neg hf] at h ⊢
      by_cases hn : n < 1 ∨ n > 1099511627776
      · rw [if_pos hn] at h; cases h
      · rw [if_neg hn] at h ⊢
        by_cases ho : x.2.2.2.2.2.1 + n > 1099511627776
        · rw [if_pos ho] at h; cases h
        · rw [if_neg ho]; exact ⟨Bool.not_eq_false _ ▸ hf, hn, ho, rfl⟩
  obtain ⟨hf, hn, ho, e⟩ := e
  rw [e]
  obtain ⟨nm, a, b, c, d, t, u⟩ := x
  have hb := fitS_b hf
  simp only at hb ho ⊢
  refine ⟨?_, trivial⟩
  have hf2 : fitS (nm, a + n, b, c, d, t + n, ()) = true := fitS_T hb.1 (by simp only; omega)
  rw [wrap64 (by omega) (by omega), adjustS, hf2, if_neg (by decide), if_neg (by omega)]
  simp only
  rw [if_neg (by omega), if_neg (by omega), show a + n + (0 - n) = a by omega, show t + n + (0 - n) = t by omega]
theorem StockBack_put (x : Sk) (n : Int) (hs : x.1.size ≤ 9223372036854775806) (k : Bool → Option α) :
    (stock_Restock x n fun r8 r9 => cond (r9 == 0) (stock_Adjust r8 (IntKind.i64.wrap (0 - n)) fun r10 r11 => cond (!(r11 != 0)) (cond (!decide (r10 = x)) (k false) (k true)) (k false)) (k true)) = k true := by
  rw [stock_Restock_is hs]
  by_cases h : (restockS x n).2 = 0
  · obtain ⟨e, es⟩ := restock_adj h
    rw [beqT h, cond_true, stock_Adjust_is (by rw [es]; exact hs), e]
    simp
  · rw [beqF h]; rfl
theorem StockBack_core (x : Sk) (n : Int) (k : Bool → Option Unit) : draymanlaw12_StockBack x n k = k true := by
  unfold draymanlaw12_StockBack draymanlaw12_StockBack_g
  by_cases h : (x.1.size : Int) > 60
  · rw [cT h, awake12_is]
  · have hs : x.1.size ≤ 9223372036854775806 := by omega
    rw [cF h]
    simp only [sk_beq, awake12_is, StockBack_put x n hs]
    rw [move_is hs]
    have two : ∀ (k : Bool → Option Unit), (draymanlaw12_move x 3 n fun r6 r7 => cond (r7 != 0) (k true) (draymanlaw12_move r6 4 n fun r14 r15 => cond (!(r15 != 0)) (cond (!(!decide (r14 = x))) (cond (!(r6.2.2.2.2.2.1 != x.2.2.2.2.2.1)) (cond (decide (r6 = x)) (k false) (k true)) (k false)) (k false)) (k false))) = k true := by
      intro k
      rw [move_is hs]
      by_cases q : (moveS x 3 n).2 = 0
      · obtain ⟨e1, e2, e3, e4⟩ := move_34 q
        rw [bneF q, cond_false, move_is (by rw [e4]; exact hs), e1]
        simp only [decide_true, bneF e2, decide_eq_false e3]
        rfl
      · rw [bneT q]; rfl
    simp only [two]
    by_cases q : (moveS x 1 n).2 = 0
    · obtain ⟨e1, e2, e3, e4⟩ := move_12 q
      rw [bneF q, cond_false, move_is (by rw [e4]; exact hs), e1]
      simp only [decide_true, bneF e2, decide_eq_false e3]
      rfl
    · rw [bneT q]; rfl
theorem StockBack_true (x0 : Tup (.str (.int .i64 (.int .i64 (.int .i64 (.int .i64 (.int .i64 (.nil)))))))) (x1 : Tup (.int .i64 (.nil))) (o0 : OkT (.str (.int .i64 (.int .i64 (.int .i64 (.int .i64 (.int .i64 (.nil))))))) x0) (o1 : OkT (.int .i64 (.nil)) x1) (k : Bool → Option Unit) : draymanlaw12_StockBack x0 x1.1 k = k true := StockBack_core x0 x1.1 k
end Go.Rv.Tryd
