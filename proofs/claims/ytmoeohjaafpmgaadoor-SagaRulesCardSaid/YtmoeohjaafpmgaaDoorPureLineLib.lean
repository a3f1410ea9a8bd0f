/- Lines: whether they are few, and may be. -/
import Derived.Test.YtmoeohjaafpmgaaDoorE1
import Derived.Test.YtmoeohjaafpmgaaDoorPureNameLib0
set_option linter.unusedVariables false
set_option linter.unusedSimpArgs false
namespace Go.Rv.Tryd
open Go Go.Rv
variable {α : Type}
abbrev Ln := ByteArray × Int × Unit
def SmL (l : List Ln) : Prop := l.length ≤ 8 ∧ ∀ x ∈ l, x.1.size ≤ 60
def fewLB (l : List Ln) : Bool := decide (l.length ≤ 8) && l.all fun x => decide (x.1.size ≤ 60)
theorem fewLB_sm {l : List Ln} (h : fewLB l = true) : SmL l := by
  unfold fewLB at h
  simp only [Bool.and_eq_true, decide_eq_true_eq, List.all_eq_true] at h
  exact h
theorem SmL_mem {q : Seq Ln} (h : SmL (toL q)) : q.n ≤ 8 ∧ ∀ i, i < q.n → (q.g i).1.size ≤ 60 := by
  refine ⟨by have := h.1; rw [toL_length] at this; exact this, fun i hi => h.2 _ (List.mem_of_getElem? (toL_get q hi))⟩
theorem ref11_Few_loop (k : Bool → Option α) (q : Seq Ln) : ∀ (n i : Nat), 9 - i < n → i ≤ 8 → draymanref11_Few_l0_run (fun x => k x) (fun x => k (decide ((x.n : Int) ≤ 8))) n q (i : Int) = k (decide (q.n ≤ 8) && ((toL q).drop i).all fun x => decide (x.1.size ≤ 60)) := by
  intro n
  induction n with
  | zero => intro i hi; omega
  | succ n ih =>
    intro i hi h8
    unfold draymanref11_Few_l0_run draymanref11_Few_l0_step
    by_cases hl : i < q.n
    · rw [cT (by omega)]
      by_cases h : i < 8
      · rw [cT (by omega), inb hl, cond_true, toNatC, toL_drop q hl, List.all_cons]
        by_cases hb : (q.g i).1.size ≤ 60
        · rw [cF (by omega), wrap_succ (by omega), decide_eq_true hb, Bool.true_and]
          exact ih (i + 1) (by omega) (by omega)
        · rw [cT (by omega), decide_eq_false hb, Bool.false_and, Bool.and_false]
      · rw [cF (by omega)]; show k (decide ((q.n : Int) ≤ 8)) = _; rw [decide_eq_false (by omega), decide_eq_false (by omega)]; rfl
    · rw [cF (by omega), toL_end q (by omega)]
      simp only [List.all_nil, Bool.and_true]
      show k (decide ((q.n : Int) ≤ 8)) = _
      rw [decNle (c := 8) (d := 8) rfl]
theorem ref11_Few_is (q : Seq Ln) (k : Bool → Option α) : draymanref11_Few q k = k (fewLB (toL q)) := by
  have := ref11_Few_loop k q 1000 0 (by omega) (by omega)
  unfold fewLB
  rw [toL_length]
  exact this
def linesOk : ByteArray → List Ln → Bool
  | _, [] => true
  | last, x :: l => nameB x.1 && (!(Op.bytesLess x.1.toList last.toList || x.1.toList == last.toList) && (decide (1 ≤ x.2.1 ∧ x.2.1 ≤ 1048576) && linesOk x.1 l))
def linesFit (l : List Ln) : Bool := decide (l.length ≤ 4) && linesOk ⟨#[]⟩ l
theorem qty_F {n : Int} (h : ¬ (1 ≤ n ∧ n ≤ 1048576)) : decide (1 ≤ n ∧ n ≤ 1048576) = false := decide_eq_false h
theorem lines_Fit_loop (k : Bool → Option α) (q : Seq Ln) (hn : q.n < 900) (hs : ∀ i, i < q.n → (q.g i).1.size ≤ 9223372036854775806) : ∀ (n i : Nat) (last : ByteArray), q.n - i < n →
    lines_Fit_l0_run name_Fit (fun x => k x) (fun x => k (decide ((x.n : Int) ≤ 4))) n q last q (q.n : Int) (i : Int) = k (decide (q.n ≤ 4) && linesOk last ((toL q).drop i)) := by
  intro n
  induction n with
  | zero => intro i last hi; omega
  | succ n ih =>
    intro i last hi
    unfold lines_Fit_l0_run lines_Fit_l0_step
    by_cases hl : i < q.n
    · rw [cT (by omega), inb hl, cond_true, toNatC, name_Fit_is (hs i hl), toL_drop q hl, linesOk]
      cases nameB (q.g i).1 with
      | false => rw [Bool.false_and, Bool.and_false]; rfl
      | true =>
        simp only [Bool.not_true, Bool.not_false, cond_true, Bool.true_and]
        cases (Op.bytesLess (q.g i).1.toList last.toList || (q.g i).1.toList == last.toList) with
        | true => simp
        | false =>
          simp only [Bool.not_false, cond_true, Bool.true_and]
          by_cases h1 : (q.g i).2.1 < 1
          · rw [cnT h1, qty_F (by omega), Bool.false_and, Bool.and_false]
          · rw [cnF h1]
            by_cases h2 : (q.g i).2.1 > 1048576
            · rw [cT h2, qty_F (by omega), Bool.false_and, Bool.and_false]
            · rw [cF h2, decide_eq_true (p := 1 ≤ (q.g i).2.1 ∧ (q.g i).2.1 ≤ 1048576) (by omega), Bool.true_and, wrap_succ (by omega)]
              exact ih (i + 1) _ (by omega)
    · rw [cF (by omega), toL_end q (by omega), linesOk, Bool.and_true]
      show k (decide ((q.n : Int) ≤ 4)) = _
      rw [decNle (c := 4) (d := 4) rfl]
theorem lines_Fit_is {q : Seq Ln} (hs : SmL (toL q)) (k : Bool → Option α) : lines_Fit q k = k (linesFit (toL q)) := by
  obtain ⟨h1, h2⟩ := SmL_mem hs
  have := lines_Fit_loop k q (by omega) (fun i hi => by have := h2 i hi; omega) 1000 0 ⟨#[]⟩ (by omega)
  unfold linesFit
  rw [toL_length]
  exact this
end Go.Rv.Tryd
