/- Amounts: what the program's functions on numbers tell, in plain words. No condition but that rows are short. -/
import Derived.Test.YtmoeohjaafpmgaaDoorE3
import Derived.Test.YtmoeohjaafpmgaaDoorPureNameLib
set_option linter.unusedVariables false
set_option linter.unusedSimpArgs false
namespace Go.Rv.Tryd
open Go Go.Rv
variable {α : Type}
/-- An amount. -/
def fitN (n : Int) : Bool := decide (0 ≤ n ∧ n ≤ 1099511627776)
theorem fitN_T {n : Int} (h : 0 ≤ n ∧ n ≤ 1099511627776) : fitN n = true := decide_eq_true h
theorem fitN_F {n : Int} (h : ¬ (0 ≤ n ∧ n ≤ 1099511627776)) : fitN n = false := decide_eq_false h
theorem fitN_iff {n : Int} : fitN n = true ↔ 0 ≤ n ∧ n ≤ 1099511627776 := decide_eq_true_iff
theorem num_Fit_is (n : Int) (k : Bool → Option α) : num_Fit n k = k (fitN n) := by
  unfold num_Fit
  by_cases h : n ≥ 0
  · rw [cT h]
    by_cases h2 : n ≤ 1099511627776
    · rw [decide_eq_true h2, fitN_T ⟨h, h2⟩]
    · rw [decide_eq_false h2, fitN_F (by omega)]
  · rw [cF h, fitN_F (by omega)]
theorem ref_NFit_is (n : Int) (k : Bool → Option α) : draymanref01_Fit n k = k (fitN n) := num_Fit_is n k
theorem num_all_loop (k : Bool → Option α) (q : Seq (Int × Unit)) (hn : q.n < 900) : ∀ (n i : Nat), q.n - i < n → num_all_l0_run num_Fit (fun x => k x) (k true) n q (q.n : Int) (i : Int) = k (((toL q).drop i).all fun x => fitN x.1) := by
  intro n
  induction n with
  | zero => intro i hi; omega
  | succ n ih =>
    intro i hi
    unfold num_all_l0_run num_all_l0_step
    by_cases hl : i < q.n
    · rw [cT (by omega), inb hl, cond_true, toNatC, num_Fit_is, toL_drop q hl, List.all_cons]
      cases hf : fitN (q.g i).1 with
      | false => rfl
      | true => rw [wrap_succ (by omega)]; exact ih (i + 1) (by omega)
    · rw [cF (by omega), toL_end q (by omega)]; rfl
theorem num_all_is {q : Seq (Int × Unit)} (hn : q.n < 900) (k : Bool → Option α) : num_all q k = k ((toL q).all fun x => fitN x.1) := by
  have := num_all_loop k q hn 1000 0 (by omega)
  rw [List.drop_zero] at this
  exact this
/-- Their sum. -/
def sumGo : Int → List (Int × Unit) → Int × Int
  | acc, [] => (acc, 0)
  | acc, x :: l => if acc + x.1 > 1099511627776 then (0, 5) else sumGo (acc + x.1) l
theorem num_Sum_loop (k : Int → Int → Option α) (q : Seq (Int × Unit)) (hn : q.n < 900) (hf : ∀ x ∈ toL q, fitN x.1 = true) : ∀ (n i : Nat) (acc : Int), q.n - i < n → 0 ≤ acc → acc ≤ 1099511627776 →
    num_Sum_l0_run num_all (fun x7 x8 => k x7 x8) (fun x9 => k x9 0) n acc q (q.n : Int) (i : Int) = k (sumGo acc ((toL q).drop i)).1 (sumGo acc ((toL q).drop i)).2 := by
  intro n
  induction n with
  | zero => intro i acc hi; omega
  | succ n ih =>
    intro i acc hi h0 h1
    unfold num_Sum_l0_run num_Sum_l0_step
    by_cases hl : i < q.n
    · have hm : q.g i ∈ toL q := List.mem_of_getElem? (toL_get q hl)
      have hb := fitN_iff.1 (hf _ hm)
      rw [cT (by omega), inb hl, cond_true, toNatC, toL_drop q hl, sumGo, wrap64 (by omega) (by omega)]
      by_cases ho : acc + (q.g i).1 > 1099511627776
      · rw [cT ho, if_pos ho]
      · rw [cF ho, if_neg ho, wrap_succ (by omega)]
        exact ih (i + 1) _ (by omega) (by omega) (by omega)
    · rw [cF (by omega), toL_end q (by omega)]; rfl
def sumL (l : List (Int × Unit)) : Int × Int := if l.all fun x => fitN x.1 then sumGo 0 l else (0, 11)
theorem num_Sum_is {q : Seq (Int × Unit)} (hn : q.n < 900) (k : Int → Int → Option α) : num_Sum q k = k (sumL (toL q)).1 (sumL (toL q)).2 := by
  unfold num_Sum num_Sum_g sumL
  rw [num_all_is hn]
  cases h : (toL q).all fun x => fitN x.1 with
  | false => rfl
  | true =>
    have := num_Sum_loop k q hn (fun x hx => by rw [List.all_eq_true] at h; exact h x hx) 1000 0 0 (by omega) (by omega) (by omega)
    rw [List.drop_zero] at this
    exact this
end Go.Rv.Tryd
