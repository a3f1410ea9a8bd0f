/- Definitions: places of ops, the pivot, and whether one may be, in plain words. -/
import Derived.Test.YtmoeohjaafpmgaaDoorE1
import Derived.Test.YtmoeohjaafpmgaaDoorPureNameLib0
set_option linter.unusedVariables false
set_option linter.unusedSimpArgs false
namespace Go.Rv.Tryd
open Go Go.Rv
variable {α : Type}
abbrev Stp := Int × Int × Int × Int × Int × Int × Unit
abbrev Df := ByteArray × Seq Stp × Unit
def servS (op : Int) : Int := if op = 2 then 1 else if op = 6 then 1 else if op = 4 then 2 else 0
theorem Service_is (op : Int) (k : Int → Option α) : outbox_Service op k = k (servS op) := by
  unfold outbox_Service servS
  by_cases h1 : op = 2
  · rw [cbT h1, if_pos h1, cbT h1]
  · rw [cbF h1, if_neg h1]
    by_cases h2 : op = 6
    · rw [cbT h2, if_pos h2]
    · rw [cbF h2, if_neg h2]
      by_cases h3 : op = 4
      · rw [cbT h3, if_pos h3]
      · rw [cbF h3, if_neg h3]
def outS (s : Stp) : Bool := servS s.1 != 0
theorem Outside_is (s : Stp) (k : Bool → Option α) : step_Outside s k = k (outS s) := by
  unfold step_Outside step_Outside_g
  rw [Service_is]; rfl
def backB (t b l : Int) : Bool := decide ((0 : Int) ≤ t) && (decide (t ≤ 5) && (decide ((1 : Int) ≤ b) && (decide (b ≤ l) && decide (l ≤ 32))))
theorem backFit_is (t b l : Int) (k : Bool → Option α) : back_Fit t b l k = k (backB t b l) := ck (ck (ck (ck rfl)))
/-- Whether a step may be. -/
def stepB (s : Stp) : Bool := backB s.2.2.1 s.2.2.2.1 s.2.2.2.2.1 && (decide (0 ≤ s.2.2.2.2.2.1 ∧ s.2.2.2.2.2.1 ≤ 100 ∧ 1 ≤ s.2.1 ∧ s.2.1 ≤ 3 ∧ ¬ (s.2.1 = 3 ∧ s.2.2.2.2.2.1 > 0)) && (if s.1 = 1 ∨ s.1 = 3 then s.2.1 == 1 else if s.1 = 5 then s.2.1 != 1 else outS s))
theorem stepFit_is (s : Stp) (k : Bool → Option α) : step_Fit s k = k (stepB s) := by
  unfold step_Fit step_Fit_g stepB
  rw [backFit_is]
  cases backB s.2.2.1 s.2.2.2.1 s.2.2.2.2.1 with
  | false => rfl
  | true =>
    simp only [Bool.not_true, Bool.not_false, cond_true, Bool.true_and, Outside_is]
    have hin : (cond (s.1 == 1) (cond (s.1 == 1) (k (s.2.1 == 1)) (cond (s.1 == 5) (k (s.2.1 != 1)) (k (outS s)))) (cond (s.1 == 3) (k (s.2.1 == 1)) (cond (s.1 == 5) (k (s.2.1 != 1)) (k (outS s))))) = k (if s.1 = 1 ∨ s.1 = 3 then s.2.1 == 1 else if s.1 = 5 then s.2.1 != 1 else outS s) := by
      by_cases h1 : s.1 = 1
      · rw [cbT h1, cbT h1, if_pos (.inl h1)]
      · rw [cbF h1]
        by_cases h3 : s.1 = 3
        · rw [cbT h3, if_pos (.inr h3)]
        · rw [cbF h3, if_neg (by omega)]
          by_cases h5 : s.1 = 5
          · rw [cbT h5, if_pos h5]
          · rw [cbF h5, if_neg h5]
    rw [hin]
    by_cases w0 : s.2.2.2.2.2.1 < 0
    · rw [cnT w0, decide_eq_false (by omega), Bool.false_and]
    rw [cnF w0]
    by_cases w1 : s.2.2.2.2.2.1 > 100
    · rw [cT w1, decide_eq_false (by omega), Bool.false_and]
    rw [cF w1]
    by_cases c1 : s.2.1 < 1
    · rw [cnT c1, decide_eq_false (by omega), Bool.false_and]
    rw [cnF c1]
    by_cases c3 : s.2.1 > 3
    · rw [cnT c3, decide_eq_false (by omega), Bool.false_and]
    rw [cnF c3]
    by_cases e3 : s.2.1 = 3
    · rw [cbT e3]
      by_cases w : s.2.2.2.2.2.1 > 0
      · rw [cT w, decide_eq_false (by omega), Bool.false_and]
      · rw [cF w, decide_eq_true (by omega), Bool.true_and]
    · rw [cbF e3, decide_eq_true (by omega), Bool.true_and]
/-! ### Places -/
theorem place_loop (k : Int → Int → Option α) (q : Seq Stp) (x : Int) (hn : q.n < 900) : ∀ (n i : Nat), q.n - i < n →
    slices_IndexFunc_api_Step_api_Step_s1_l0_run def_Place_1 (fun x9 x10 => k x9 x10) (fun x11 => k (-1) x11) n q (q.n : Int) (i : Int) x = k (idxFrom (fun h : Stp => h.1 == x) i ((toL q).drop i)) x := by
  intro n
  induction n with
  | zero => intro i hi; omega
  | succ n ih =>
    intro i hi
    unfold slices_IndexFunc_api_Step_api_Step_s1_l0_run slices_IndexFunc_api_Step_api_Step_s1_l0_step
    by_cases hl : i < q.n
    · rw [cT (by omega), inb hl, cond_true, toNatC, toL_drop q hl]
      by_cases h : (q.g i).1 = x
      · rw [idxFrom_T (p := fun h : Stp => h.1 == x) (beqT h)]
        exact cbT h
      · rw [idxFrom_F (p := fun h : Stp => h.1 == x) (beqF h), wrap_succ (by omega)]
        exact (cbF h).trans (ih (i + 1) (by omega))
    · rw [cF (by omega), toL_end q (by omega)]; rfl
def placeS (l : List Stp) (op : Int) : Int := idxFrom (fun h : Stp => h.1 == op) 0 l
theorem Place_is {d : Df} (hn : d.2.1.n < 900) (op : Int) (k : Int → Option α) : def_Place d op k = k (placeS (toL d.2.1) op) :=
  place_loop (fun a _ => k a) d.2.1 op hn 1000 0 (by omega)
def pivotS (l : List Stp) : Int := idxFrom (fun h : Stp => h.2.1 == 2) 0 l
theorem pivot_loop (k : Int → Option α) (q : Seq Stp) (hn : q.n < 900) : ∀ (n i : Nat), q.n - i < n →
    slices_IndexFunc_api_Step_api_Step_s2_l0_run def_Pivot_1 (fun x9 => k x9) (k (-1)) n q (q.n : Int) (i : Int) = k (idxFrom (fun h : Stp => h.2.1 == 2) i ((toL q).drop i)) := by
  intro n
  induction n with
  | zero => intro i hi; omega
  | succ n ih =>
    intro i hi
    unfold slices_IndexFunc_api_Step_api_Step_s2_l0_run slices_IndexFunc_api_Step_api_Step_s2_l0_step
    by_cases hl : i < q.n
    · rw [cT (by omega), inb hl, cond_true, toNatC, toL_drop q hl]
      by_cases h : (q.g i).2.1 = 2
      · rw [idxFrom_T (p := fun h : Stp => h.2.1 == 2) (beqT h)]
        exact cbT h
      · rw [idxFrom_F (p := fun h : Stp => h.2.1 == 2) (beqF h), wrap_succ (by omega)]
        exact (cbF h).trans (ih (i + 1) (by omega))
    · rw [cF (by omega), toL_end q (by omega)]; rfl
theorem Pivot_is {d : Df} (hn : d.2.1.n < 900) (k : Int → Option α) : def_Pivot d k = k (pivotS (toL d.2.1)) :=
  pivot_loop k d.2.1 hn 1000 0 (by omega)
/-! ### The rules -/
theorem bad1 (s : Stp) (k : Bool → Option α) : def_rules_2_1 s k = k (!stepB s) := by
  unfold def_rules_2_1 def_rules_2_1_g
  rw [stepFit_is]
theorem bad_loop (k : Int → Option α) (q : Seq Stp) (hn : q.n < 900) : ∀ (n i : Nat), q.n - i < n →
    slices_IndexFunc_api_Step_api_Step_l0_run def_rules_2_1 (fun x9 => k x9) (k (-1)) n q (q.n : Int) (i : Int) = k (idxFrom (fun h : Stp => !stepB h) i ((toL q).drop i)) := by
  intro n
  induction n with
  | zero => intro i hi; omega
  | succ n ih =>
    intro i hi
    unfold slices_IndexFunc_api_Step_api_Step_l0_run slices_IndexFunc_api_Step_api_Step_l0_step
    by_cases hl : i < q.n
    · rw [cT (by omega), inb hl, cond_true, toNatC, toL_drop q hl]
      rw [bad1]
      cases h : !stepB (q.g i) with
      | true => rw [idxFrom_T (p := fun h : Stp => !stepB h) h]; rfl
      | false => rw [idxFrom_F (p := fun h : Stp => !stepB h) h, wrap_succ (by omega)]; exact ih (i + 1) (by omega)
    · rw [cF (by omega), toL_end q (by omega)]; rfl
theorem rule2_is {d : Df} (hn : d.2.1.n < 900) (k : Bool → Option α) : def_rules_2 d k = k (!(toL d.2.1).any fun h => !stepB h) := by
  refine (bad_loop (fun r => k (!decide (r ≥ 0))) d.2.1 hn 1000 0 (by omega)).trans ?_
  rw [List.drop_zero]
  congr 2
  cases h : (toL d.2.1).any fun h => !stepB h with
  | false =>
    have := (idxFrom_neg (i := 0)).2 h
    exact decide_eq_false (by omega)
  | true =>
    obtain ⟨j, hj, _⟩ := idx_pos h
    rw [hj]; exact decide_eq_true (by omega)
def ownPlace (l : List Stp) (i : Nat) : List Stp → Bool
  | [] => true
  | x :: r => decide (placeS l x.1 = (i : Int)) && ownPlace l (i + 1) r
theorem rule3_loop (k : Bool → Option α) (d : Df) (hn : d.2.1.n < 900) : ∀ (n i : Nat), d.2.1.n - i < n →
    def_rules_3_l0_run def_Place (fun x7 _ => k x7) (fun _ => k true) n d.2.1 (d.2.1.n : Int) (i : Int) d = k (ownPlace (toL d.2.1) i ((toL d.2.1).drop i)) := by
  intro n
  induction n with
  | zero => intro i hi; omega
  | succ n ih =>
    intro i hi
    unfold def_rules_3_l0_run def_rules_3_l0_step
    by_cases hl : i < d.2.1.n
    · rw [cT (by omega), inb hl, cond_true, toNatC, toL_drop d.2.1 hl, Place_is hn]
      unfold ownPlace
      by_cases h : placeS (toL d.2.1) (d.2.1.g i).1 = (i : Int)
      · rw [bneF h, decide_eq_true h, Bool.true_and, cond_false, wrap_succ (by omega)]; exact ih (i + 1) (by omega)
      · rw [bneT h, decide_eq_false h]; rfl
    · rw [cF (by omega), toL_end d.2.1 (by omega)]; rfl
def classOk (at_ : Int) (i : Nat) : List Stp → Bool
  | [] => true
  | x :: r => (decide ((i : Int) = at_) || decide (x.2.1 = (if at_ ≥ 0 ∧ (i : Int) > at_ then 3 else 1))) && classOk at_ (i + 1) r
theorem rule4_loop (k : Bool → Option α) (d : Df) (at_ : Int) (hn : d.2.1.n < 900) : ∀ (n i : Nat), d.2.1.n - i < n →
    def_rules_4_l0_run def_Pivot (fun x7 _ => k x7) (fun _ => k true) n at_ d.2.1 (d.2.1.n : Int) (i : Int) d = k (classOk at_ i ((toL d.2.1).drop i)) := by
  intro n
  induction n with
  | zero => intro i hi; omega
  | succ n ih =>
    intro i hi
    unfold def_rules_4_l0_run def_rules_4_l0_step
    by_cases hl : i < d.2.1.n
    · rw [cT (by omega), inb hl, cond_true, toNatC, toL_drop d.2.1 hl, wrap_succ (by omega)]
      unfold classOk
      have hh := ih (i + 1) (by omega)
      by_cases h : (i : Int) = at_
      · rw [bneF h, decide_eq_true h, Bool.true_or, Bool.true_and]
        simp only [cond_false, Bool.cond_self]
        exact hh
      · rw [bneT h, decide_eq_false h, Bool.false_or]
        simp only [cond_true]
        have key : ∀ c : Int, (cond ((d.2.1.g i).2.1 != c) (k false) (def_rules_4_l0_run def_Pivot (fun x7 _ => k x7) (fun _ => k true) n at_ d.2.1 (d.2.1.n : Int) ((i + 1 : Nat) : Int) d)) = k (decide ((d.2.1.g i).2.1 = c) && classOk at_ (i + 1) ((toL d.2.1).drop (i + 1))) := by
          intro c
          by_cases hc : (d.2.1.g i).2.1 = c
          · rw [bneF hc, decide_eq_true hc, cond_false, Bool.true_and]; exact hh
          · rw [bneT hc, decide_eq_false hc]; rfl
        by_cases h1 : at_ ≥ 0
        · rw [cT h1]
          by_cases h2 : (i : Int) > at_
          · rw [cT h2, if_pos ⟨h1, h2⟩]; exact key 3
          · rw [cF h2, if_neg (by omega)]; exact key 1
        · rw [cF h1, if_neg (by omega)]; exact key 1
    · rw [cF (by omega), toL_end d.2.1 (by omega)]; rfl
def rule5S (a b c : Int) : Bool := if a < 0 ∧ b < 0 ∧ c < 0 then true else decide (0 ≤ a) && (decide (a < b) && decide (b < c))
def rule6S (a b : Int) : Bool := if b < 0 then true else decide (0 ≤ a) && decide (a < b)
/-- Whether a definition may be. -/
def defFit (nm : ByteArray) (l : List Stp) : Bool :=
  (nameB nm && (decide (1 ≤ l.length) && decide (l.length ≤ 6))) && ((!l.any fun h => !stepB h) && (ownPlace l 0 l && (classOk (pivotS l) 0 l && (rule5S (placeS l 1) (placeS l 3) (placeS l 5) && rule6S (placeS l 2) (placeS l 6)))))
theorem defFit_is {d : Df} (hs : d.1.size ≤ 9223372036854775806) (hn : d.2.1.n < 900) (k : Bool → Option α) : def_Fit d k = k (defFit d.1 (toL d.2.1)) := by
  have h1 : ∀ k : Bool → Option α, def_rules_1 d k = k (nameB d.1 && (decide (1 ≤ (toL d.2.1).length) && decide ((toL d.2.1).length ≤ 6))) := by
    intro k
    unfold def_rules_1 def_rules_1_g
    rw [name_Fit_is hs, toL_length]
    refine (cb (ck rfl)).trans ?_
    congr 2
    rw [decNle (c := 6) (d := 6) rfl]
    congr 1
    by_cases h : 1 ≤ d.2.1.n
    · rw [decide_eq_true h, decide_eq_true (by omega)]
    · rw [decide_eq_false h, decide_eq_false (by omega)]
  have h3 : ∀ k : Bool → Option α, def_rules_3 d k = k (ownPlace (toL d.2.1) 0 (toL d.2.1)) := fun k => rule3_loop k d hn 1000 0 (by omega)
  have h4 : ∀ k : Bool → Option α, def_rules_4 d k = k (classOk (pivotS (toL d.2.1)) 0 (toL d.2.1)) := by
    intro k
    unfold def_rules_4 def_rules_4_g
    rw [Pivot_is hn]
    exact rule4_loop k d _ hn 1000 0 (by omega)
  have h5 : ∀ k : Bool → Option α, def_rules_5 d k = k (rule5S (placeS (toL d.2.1) 1) (placeS (toL d.2.1) 3) (placeS (toL d.2.1) 5)) := by
    intro k
    unfold def_rules_5 def_rules_5_g rule5S
    rw [Place_is hn, Place_is hn, Place_is hn]
    generalize placeS (toL d.2.1) 1 = a
    generalize placeS (toL d.2.1) 3 = b
    generalize placeS (toL d.2.1) 5 = c
    by_cases h : a < 0 ∧ b < 0 ∧ c < 0
    · rw [if_pos h, cnT]
      simp only [Bool.cond_decide]
      repeat' split
      all_goals omega
    · rw [if_neg h, cnF]
      · exact ck (ck rfl)
      · simp only [Bool.cond_decide]
        repeat' split
        all_goals omega
  have h6 : ∀ k : Bool → Option α, def_rules_6 d k = k (rule6S (placeS (toL d.2.1) 2) (placeS (toL d.2.1) 6)) := by
    intro k
    unfold def_rules_6 def_rules_6_g rule6S
    rw [Place_is hn, Place_is hn]
    generalize placeS (toL d.2.1) 2 = a
    generalize placeS (toL d.2.1) 6 = b
    by_cases h : b < 0
    · rw [cnT h, if_pos h]
    · rw [cnF h, if_neg h]; exact ck rfl
  unfold def_Fit def_Fit_g defFit
  rw [h1]
  generalize (nameB d.1 && (decide (1 ≤ (toL d.2.1).length) && decide ((toL d.2.1).length ≤ 6))) = b1
  cases b1 with
  | false => rfl
  | true =>
    rw [Bool.not_true, cond_false, rule2_is hn]
    generalize (!(toL d.2.1).any fun h => !stepB h) = b2
    cases b2 with
    | false => rfl
    | true =>
      rw [Bool.not_true, cond_false, h3]
      generalize ownPlace (toL d.2.1) 0 (toL d.2.1) = b3
      cases b3 with
      | false => rfl
      | true =>
        rw [Bool.not_true, cond_false, h4]
        generalize classOk (pivotS (toL d.2.1)) 0 (toL d.2.1) = b4
        cases b4 with
        | false => rfl
        | true =>
          rw [Bool.not_true, cond_false, h5]
          generalize rule5S _ _ _ = b5
          cases b5 with
          | false => rfl
          | true =>
            rw [Bool.not_true, cond_false, h6]
            generalize rule6S _ _ = b6
            cases b6 <;> rfl
end Go.Rv.Tryd
