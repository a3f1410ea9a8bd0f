/- The law HoldsTell, in plain words: true for every input. -/
import Derived.Test.YtmoeohjaafpmgaaDoorE3
import Derived.Test.YtmoeohjaafpmgaaDoorPureHoldLib4
set_option linter.unusedVariables false
set_option linter.unusedSimpArgs false
namespace Go.Rv.Tryd
open Go Go.Rv
variable {α : Type}
theorem HoldsTell_core (x1 x2 : Seq Hd) (x3 : Int) (x4 : ByteArray) (h0 : N0 x1) (k : Bool → Option Unit) : draymanlaw13_HoldsTell x1 x2 x3 x4 k = k true := by
  unfold draymanlaw13_HoldsTell draymanlaw13_HoldsTell_g
  simp only [awake13_is, ref13_Few_is]
  cases hf : fewHB (mHs x1) with
  | false => rfl
  | true =>
    cases hg : fewHB (mHs x2) with
    | false => rfl
    | true =>
      have s1 := fewHB_sm hf
      have s2 := fewHB_sm hg
      simp only [Bool.not_true, Bool.not_false, cond_true]
      by_cases h60 : (x4.size : Int) > 60
      · exact cT h60
      · obtain ⟨r1, a1, a2, a3⟩ := Find_is (α := Unit) (id := x3) s1 h0
        obtain ⟨r2, b1, b2, b3⟩ := ref_Find_is (α := Unit) (id := x3) s1
        obtain ⟨d1, c1, c2, c3⟩ := Due_is (α := Unit) s1 x3
        obtain ⟨d2, e1, e2, e3⟩ := ref_Due_is (α := Unit) s1 x3
        obtain ⟨n1, m1⟩ := SmH_mem s1
        have m2 : ∀ i, i < x1.n → (x1.g i).2.1.n < 900 := fun i hi => by have := (SmL_mem (m1 i hi)).1; omega
        rw [cF h60]
        simp only [a1, b1, c1, e1, holds_Fit_is s1, ref13_Fit_is s1, Total_is s1, ref_Total_is s1, beq_self_eq_true, cond_true]
        rw [ref13_Same_is (show 1 < 900 by decide) (fun i _ => a3), ref01_Same_is c3, c2, e2, holds_Same_is (by omega) m2, ref13_Same_is (by omega) m2]
        have : mHs (⟨false, 1, (fun _ => r1)⟩ : Seq Hd) = mHs (⟨false, 1, (fun _ => r2)⟩ : Seq Hd) := by
          show [mH r1] = [mH r2]
          rw [a2, b2]
        rw [this]
        simp only [decide_true, beq_self_eq_true, cond_true]
theorem HoldsTell_true (x0 : Tup (.sl (.int .i64 (.sl (.str (.int .i64 (.nil))) (.int .i64 (.nil)))) (.nil))) (x1 : Tup (.sl (.int .i64 (.sl (.str (.int .i64 (.nil))) (.int .i64 (.nil)))) (.nil))) (x2 : Tup (.int .i64 (.nil))) (x3 : Tup (.str (.nil))) (o0 : OkT (.sl (.int .i64 (.sl (.str (.int .i64 (.nil))) (.int .i64 (.nil)))) (.nil)) x0) (o1 : OkT (.sl (.int .i64 (.sl (.str (.int .i64 (.nil))) (.int .i64 (.nil)))) (.nil)) x1) (o2 : OkT (.int .i64 (.nil)) x2) (o3 : OkT (.str (.nil)) x3) (k : Bool → Option Unit) : draymanlaw13_HoldsTell x0.1 x1.1 x2.1 x3.1 k = k true := HoldsTell_core x0.1 x1.1 x2.1 x3.1 (fun i hi => (o0.1.2.2 i hi).2.1.2.1) k
end Go.Rv.Tryd
