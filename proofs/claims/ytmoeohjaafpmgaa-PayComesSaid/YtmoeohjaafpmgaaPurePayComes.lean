/- The law PayComes, in plain words: true for every input. -/
import Derived.Test.YtmoeohjaafpmgaaE2
import Derived.Test.YtmoeohjaafpmgaaPurePayLib
set_option linter.unusedVariables false
set_option linter.unusedSimpArgs false
namespace Go.Rv.Try
open Go Go.Rv Go.RowKit
variable {α : Type}
theorem mT_dec (a b : Til) : decide (mT a = mT b) = (decide (a.2.1 = b.2.1) && (decide (a.2.2.1 = b.2.2.1) && (decide (a.2.2.2.1 = b.2.2.2.1) && decide (toL a.1 = toL b.1)))) := by
  rw [Bool.eq_iff_iff]
  simp only [Bool.and_eq_true, decide_eq_true_eq, mT, Prod.mk.injEq]
  constructor
  · exact fun h => ⟨h.2.1, h.2.2.1, h.2.2.2, h.1⟩
  · exact fun h => ⟨h.2.2.2, h.1, h.2.1, h.2.2.1⟩
theorem beqd (a b : Int) : (a == b) = decide (a = b) := by rw [Bool.eq_iff_iff]; simp
theorem refTSame_is {a b : Til} (hn : a.1.n ≤ 900) (k : Bool → Option α) : draymanref32_Same a b k = k (decide (mT a = mT b)) := by
  unfold draymanref32_Same draymanref32_Same_g
  rw [refSame_is _ _ hn, mT_dec, beqd, beqd, beqd]
  exact ck (ck (ck rfl))
theorem equal_loop (k : Bool → Option α) (s t : Keys) (hst : s.n = t.n) (hn : s.n ≤ 900) : ∀ (n i : Nat), s.n - i < n →
    slices_Equal_api_Key_api_Key_l0_run (fun x => k x) (k true) n s t (s.n : Int) (i : Int) = k (decide ((toL s).drop i = (toL t).drop i)) := by
  intro n
  induction n with
  | zero => intro i hi; omega
  | succ n ih =>
    intro i hi
    unfold slices_Equal_api_Key_api_Key_l0_run slices_Equal_api_Key_api_Key_l0_step
    by_cases hl : i < s.n
    · rw [cT (by omega)]
      simp only [inb hl, inb (show i < t.n by omega), Bool.and_self, cond_true, toNatC]
      rw [toL_drop s hl, toL_drop t (by omega)]
      have he := eqK_is (s.g i) (t.g i)
      unfold eqK at he
      rw [he]
      by_cases h : s.g i = t.g i
      · rw [decide_eq_true h, Bool.not_true, cond_false, wrap_succ (by omega)]
        refine (ih (i + 1) (by omega)).trans ?_
        congr 1
        rw [Bool.eq_iff_iff]
        simp [h]
      · rw [decide_eq_false h, decide_eq_false (by simp [h])]; rfl
    · rw [cF (by omega), toL_end s (by omega), toL_end t (by omega), decide_eq_true rfl]
theorem tSame_is {a b : Til} (hn : a.1.n ≤ 900) (k : Bool → Option α) : pay_Same a b k = k (decide (mT a = mT b)) := by
  have hk : ∀ k : Bool → Option α, slices_Equal_api_Key_api_Key a.1 b.1 k = k (decide (toL a.1 = toL b.1)) := by
    intro k
    unfold slices_Equal_api_Key_api_Key
    by_cases h : a.1.n = b.1.n
    · rw [bneF (by omega : (a.1.n : Int) = (b.1.n : Int)), cond_false]
      exact equal_loop k a.1 b.1 h hn 1000 0 (by omega)
    · rw [bneT (by omega : ¬ (a.1.n : Int) = (b.1.n : Int)), decide_eq_false (ne_of_n h)]; rfl
  unfold pay_Same pay_Same_g
  rw [hk, mT_dec, beqd, beqd, beqd]
  exact ck (ck (ck rfl))
theorem same32_is {a b : Til} (hn : a.1.n ≤ 900) (k : Bool → Option α) : draymanlaw32_same a b k = k (decide (mT a = mT b)) := by
  unfold draymanlaw32_same draymanlaw32_same_g
  rw [refTSame_is hn]
theorem awake32_is (k : Bool → Option α) : draymanlaw32_awake k = k true := by kernel_rfl
theorem rep_beq (r : Rep) : ((r.1 == r.1) && ((r.2.1 == r.2.1) && ((r.2.2.1 == r.2.2.1) && ((r.2.2.2.1 == r.2.2.2.1) && ((r.2.2.2.2.1 == r.2.2.2.2.1) && ((r.2.2.2.2.2.1 == r.2.2.2.2.2.1) && ((r.2.2.2.2.2.2.1 == r.2.2.2.2.2.2.1) && true))))))) = true := by simp
theorem of_is (t : Til) (k : Til → Option α) : draymanlaw32_of t k = k t := rfl
def zN : Til := ((⟨true, 0, (fun _ => (0, 0, 0, 0, 0, 0, ()))⟩ : Keys), 1, 0, 0, ())
theorem new_is (k : Til → Option α) : pay_New k = k zN := rfl
theorem refNew_is (k : Til → Option α) : draymanref32_New k = k zN := rfl
theorem PayComes_core (t u : Til) (x : Ent) (v : Int) (h0 : Nil0 t.1) (k : Bool → Option Unit) : draymanlaw32_PayComes t u x v k = k true := by
  unfold draymanlaw32_PayComes draymanlaw32_PayComes_g
  by_cases h1 : (t.1.n : Int) > 30
  · rw [cnT h1, awake32_is]
  · rw [cnF h1]
    by_cases h2 : (u.1.n : Int) > 30
    · rw [cT h2, awake32_is]
    · rw [cF h2]
      obtain ⟨T, t1, t2, t3⟩ := payCome_is (α := Unit) h0 (by omega : t.1.n ≤ 400) x v
      obtain ⟨U, u1, u2, u3⟩ := refPayCome_is (α := Unit) (by omega : t.1.n ≤ 400) x v
      rw [of_is, t3, u3, same32_is t2, t1, u1, decide_eq_true rfl, cond_true, rep_beq, cond_true, beq_self_eq_true, cond_true, of_is, payFit_is (by omega), refPayFit_is (by omega), beq_self_eq_true, cond_true, of_is, of_is, tSame_is (by omega), refTSame_is (by omega), beq_self_eq_true, cond_true]
      rw [new_is, refNew_is, same32_is (by decide), decide_eq_true rfl, cond_true, awake32_is]
theorem PayComes_true (x0 : Tup (.sl (.int .i64 (.int .i64 (.int .i64 (.int .i64 (.int .i64 (.int .i64 (.nil))))))) (.int .i64 (.int .i64 (.int .i64 (.nil)))))) (x1 : Tup (.sl (.int .i64 (.int .i64 (.int .i64 (.int .i64 (.int .i64 (.int .i64 (.nil))))))) (.int .i64 (.int .i64 (.int .i64 (.nil)))))) (x2 : Tup (.int .i64 (.int .i64 (.int .i64 (.bool (.int .i64 (.int .i64 (.bool (.nil))))))))) (x3 : Tup (.int .i64 (.nil))) (o0 : OkT (.sl (.int .i64 (.int .i64 (.int .i64 (.int .i64 (.int .i64 (.int .i64 (.nil))))))) (.int .i64 (.int .i64 (.int .i64 (.nil))))) x0) (o1 : OkT (.sl (.int .i64 (.int .i64 (.int .i64 (.int .i64 (.int .i64 (.int .i64 (.nil))))))) (.int .i64 (.int .i64 (.int .i64 (.nil))))) x1) (o2 : OkT (.int .i64 (.int .i64 (.int .i64 (.bool (.int .i64 (.int .i64 (.bool (.nil)))))))) x2) (o3 : OkT (.int .i64 (.nil)) x3) (k : Bool → Option Unit) : draymanlaw32_PayComes x0 x1 x2 x3.1 k = k true := PayComes_core x0 x1 x2 x3.1 o0.1.2.1 k
end Go.Rv.Try
