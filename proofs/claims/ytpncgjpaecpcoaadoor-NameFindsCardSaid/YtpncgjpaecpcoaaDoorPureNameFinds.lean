/- The law NameFinds, in plain words: true for every input. -/
import Derived.Test.YtpncgjpaecpcoaaDoorE1
import Derived.Test.YtpncgjpaecpcoaaDoorPureNameFold
set_option linter.unusedVariables false
namespace Go.Rv.Tryd
open Go Go.Rv
theorem finds_loop (k : Bool → Option Unit) (k0 : Seq (ByteArray × Unit) → ByteArray → Option Unit) (q : Seq (ByteArray × Unit)) (s : ByteArray) (hn : q.n ≤ 20) (h0 : k0 q s = k true) :
    ∀ (n i : Nat), q.n - i < n → draymanlaw02_NameFinds_l0_run draymanlaw02_awake name_Find draymanref02_Find (fun x8 => k x8) k0 n q s (i : Int) = k true := by
  intro n
  induction n with
  | zero => intro i hi; omega
  | succ n ih =>
    intro i hi
    unfold draymanlaw02_NameFinds_l0_run draymanlaw02_NameFinds_l0_step
    by_cases hl : i < q.n
    · rw [cT (by omega), inb hl, cond_true, awake_is, wrap_succ (by omega)]
      have := ih (i + 1) (by omega)
      simp only [this]
      generalize decide (((q.g (i : Int).toNat).1.size : Int) > 40) = c
      cases c <;> rfl
    · rw [cF (by omega)]; exact h0
theorem NameFinds_true (x0 : Tup (.sl (.str (.nil)) (.nil))) (x1 : Tup (.str (.nil))) (o0 : OkT (.sl (.str (.nil)) (.nil)) x0) (o1 : OkT (.str (.nil)) x1) (k : Bool → Option Unit) : draymanlaw02_NameFinds x0.1 x1.1 k = k true := by
  unfold draymanlaw02_NameFinds draymanlaw02_NameFinds_g
  by_cases h : (x0.1.n : Int) > 20
  · rw [cnT h, awake_is]
  · rw [cnF h]
    by_cases h2 : (x1.1.size : Int) > 40
    · rw [cT h2, awake_is]
    · rw [cF h2]
      refine finds_loop k _ x0.1 x1.1 (by omega) ?_ 1000 0 (by omega)
      simp only [name_Find_is (show x0.1.n < 900 by omega), ref_Find_is (show x0.1.n < 900 by omega)]
      simp only [beq_self_eq_true, cond_true, awake_is]
end Go.Rv.Tryd
