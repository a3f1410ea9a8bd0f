/- Requests and replies, third part: the chapter's example. -/
import Derived.Test.YtkcdjgmialniiaaE1
import Derived.Test.YtkcdjgmialniiaaPureMsgLib2
set_option linter.unusedVariables false
set_option linter.unusedSimpArgs false
namespace Go.Rv.Try
open Go Go.Rv Go.RowKit
variable {α : Type}
theorem wf_ok {n : Int} (h : (Lit.int .i64 n).wf = true) : okI n := by
  have h2 : (decide (-9223372036854775808 ≤ n) && decide (n ≤ 9223372036854775807)) = true := h
  simp only [Bool.and_eq_true, decide_eq_true_eq] at h2
  exact h2
theorem intL_one {n : Int} (h : 0 < n ∧ n < 128) : (intL n).length = 2 := by
  unfold intL intP
  have e : place n = (2 * n).toNat := by unfold place; rw [if_neg (by omega)]
  rw [e]
  have h1 : 0 < (2 * n).toNat := by omega
  have h2 : ¬ 0 < (2 * n).toNat / 256 := by omega
  rw [be_pos h1, be_zero h2]
  rfl
theorem intL_0 : (intL 0).length = 1 := by
  unfold intL intP
  have e : place 0 = 0 := rfl
  rw [e, be_zero (by decide)]
  rfl
theorem take_nil : takeS (⟨#[]⟩ : ByteArray) = (zV, 7) := by
  unfold takeS
  rw [show rdInt 1 1 ((⟨#[]⟩ : ByteArray), true, ()) = (0, badR) from by
    unfold rdInt
    dsimp only
    rw [show (⟨#[]⟩ : ByteArray).toList = [] from by rw [ByteArray.toList_eq]]
    rfl]
  exact bad_rest _ rfl
def xEnv : Env := (9, false, 1, 0, 0, 0, false, 0, 0, false, 1, 1, 3, 0, false, 2, 1, ())
theorem xEnv_ok : okV xEnv := by
  refine ⟨?_, okE0, ?_⟩
  · unfold okI xEnv; simp only; omega
  · unfold okR okI repOf xEnv; simp only; omega
theorem xEnv_fit : fitEnv xEnv = true := by decide
theorem awake23_is (k : Bool → Option α) : draymanlaw23_awake k = k true := by
  unfold draymanlaw23_awake draymanlaw23_awake_g
  have hp : putS xEnv = (mkB (envL xEnv []), 0) := by unfold putS; rw [xEnv_fit]; rfl
  have hl : (envL xEnv []).length = 17 := by
    show (intL 1 ++ (intL 9 ++ (0 :: (intL 1 ++ (intL 1 ++ (intL 3 ++ (intL 0 ++ (0 :: (intL 2 ++ (intL 1 ++ [])))))))))).length = 17
    simp only [List.length_append, List.length_cons, List.length_nil, intL_0, intL_one (show 0 < (1 : Int) ∧ (1 : Int) < 128 by omega), intL_one (show 0 < (9 : Int) ∧ (9 : Int) < 128 by omega), intL_one (show 0 < (3 : Int) ∧ (3 : Int) < 128 by omega), intL_one (show 0 < (2 : Int) ∧ (2 : Int) < 128 by omega)]
  have ht : takeS (mkB (envL xEnv [])) = (xEnv, 0) := by rw [take_put xEnv_ok xEnv_fit]; rfl
  have he := env_beq xEnv xEnv
  show msg_Put xEnv _ = _
  rw [Put_is xEnv_ok, hp]
  rw [Take_is (by rw [mkB_size, hl]; omega), ht, Take_is (by decide), take_nil]
  rw [mkB_size, hl]
  rfl
end Go.Rv.Try
