/- Sagas: what of them is told, and whether one may be, in plain words. -/
import Derived.Test.YtmoeohjaafpmgaaDoorE1
import Derived.Test.YtmoeohjaafpmgaaDoorPureDefLib
import Derived.Test.YtmoeohjaafpmgaaDoorPureLineLib
import Derived.Test.YtmoeohjaafpmgaaDoorPureNumLib0
set_option linter.unusedVariables false
set_option linter.unusedSimpArgs false
namespace Go.Rv.Tryd
open Go Go.Rv
variable {α : Type}
abbrev In := Int × Unit
abbrev Sg := Int × ByteArray × ByteArray × Seq Ln × Int × Int × Int × Int × Int × Int × Seq In × Unit
def markS (m : Seq In) (x : Int) : Int := if 0 ≤ x ∧ x < (m.n : Int) then (m.g x.toNat).1 else -1
theorem mark_is (s : Sg) (x : Int) (k : Int → Option α) : saga_mark s x k = k (markS s.2.2.2.2.2.2.2.2.2.2.1 x) := by
  unfold saga_mark markS
  generalize s.2.2.2.2.2.2.2.2.2.2.1 = m
  by_cases h : x < 0
  · rw [cnT h, if_neg (by omega)]
  · rw [cnF h]
    by_cases h2 : x ≥ (m.n : Int)
    · rw [cT h2, if_neg (by omega)]
    · rw [cF h2, if_pos (by omega), decide_eq_true (show (0 : Int) ≤ x by omega), decide_eq_true (show x < (m.n : Int) by omega)]; rfl
/-! ### Marks -/
theorem contains_loop (k : Int → Option α) (q : Seq In) (v : Int) (hn : q.n < 900) : ∀ (n i : Nat), q.n - i < n →
    slices_Index_int_int_l0_run (fun x7 => k x7) (k (-1)) n q v (q.n : Int) (i : Int) = k (idxFrom (fun x : In => v == x.1) i ((toL q).drop i)) := by
  intro n
  induction n with
  | zero => intro i hi; omega
  | succ n ih =>
    intro i hi
    unfold slices_Index_int_int_l0_run slices_Index_int_int_l0_step
    by_cases hl : i < q.n
    · rw [cT (by omega), inb hl, cond_true, toNatC, toL_drop q hl]
      by_cases h : v = (q.g i).1
      · rw [cbT h, idxFrom_T (p := fun x : In => v == x.1) (beqT h)]
      · rw [cbF h, idxFrom_F (p := fun x : In => v == x.1) (beqF h), wrap_succ (by omega)]
        exact ih (i + 1) (by omega)
    · rw [cF (by omega), toL_end q (by omega)]; rfl
def hasS (g : List In) (v : Int) : Bool := g.any fun x => v == x.1
theorem idx_ge {β : Type} (p : β → Bool) (l : List β) : decide (idxFrom p 0 l ≥ 0) = l.any p := by
  cases h : l.any p with
  | false =>
    have := (idxFrom_neg (i := 0)).2 h
    exact decide_eq_false (by omega)
  | true =>
    obtain ⟨j, hj, _⟩ := idx_pos h
    rw [hj]; exact decide_eq_true (by omega)
theorem all1_is {q : Seq In} (hn : q.n < 900) (v : Int) (k : Bool → Seq In → Option α) : saga_all_1 v q k = k (!hasS (toL q) v) q := by
  refine (contains_loop (fun r => k (!decide (r ≥ 0)) q) q v hn 1000 0 (by omega)).trans ?_
  rw [List.drop_zero, idx_ge]; rfl
def allS (l g : List In) : Bool := l.all fun m => hasS g m.1
theorem all_loop (k : Int → Seq In → Option α) (q g : Seq In) (hn : q.n < 900) (hg : g.n < 900) : ∀ (n i : Nat), q.n - i < n →
    slices_IndexFunc_int_int_l0_run saga_all_1 (fun x9 x10 => k x9 x10) (fun x11 => k (-1) x11) n q (q.n : Int) (i : Int) g = k (idxFrom (fun x : In => !hasS (toL g) x.1) i ((toL q).drop i)) g := by
  intro n
  induction n with
  | zero => intro i hi; omega
  | succ n ih =>
    intro i hi
    unfold slices_IndexFunc_int_int_l0_run slices_IndexFunc_int_int_l0_step
    by_cases hl : i < q.n
    · rw [cT (by omega), inb hl, cond_true, toNatC, toL_drop q hl, all1_is hg]
      cases h : !hasS (toL g) (q.g i).1 with
      | true => rw [idxFrom_T (p := fun x : In => !hasS (toL g) x.1) h]; rfl
      | false => rw [idxFrom_F (p := fun x : In => !hasS (toL g) x.1) h, wrap_succ (by omega)]; exact ih (i + 1) (by omega)
    · rw [cF (by omega), toL_end q (by omega)]; rfl
theorem all_is {q g : Seq In} (hn : q.n < 900) (hg : g.n < 900) (k : Bool → Option α) : saga_all q g k = k (allS (toL q) (toL g)) := by
  refine (all_loop (fun r _ => k (!decide (r ≥ 0))) q g hn hg 1000 0 (by omega)).trans ?_
  rw [List.drop_zero, idx_ge]
  congr 1
  unfold allS
  generalize toL q = l
  induction l with
  | nil => rfl
  | cons x l ih => rw [List.any_cons, List.all_cons, ← ih]; cases hasS (toL g) x.1 <;> rfl
/-! ### Who goes -/
def done1 : List In := [(2, ())]
def gone3 : List In := [(0, ()), (4, ()), (5, ())]
def movesB (s : Sg) (d : Df) (x : Int) (g : List In) : Bool :=
  decide (markS s.2.2.2.2.2.2.2.2.2.2.1 s.2.2.2.2.2.2.2.1 = x) && (outS (d.2.1.g s.2.2.2.2.2.2.2.1.toNat) && (decide (0 ≤ s.2.2.2.2.2.2.2.2.1 ∧ s.2.2.2.2.2.2.2.2.1 ≤ (d.2.1.g s.2.2.2.2.2.2.2.1.toNat).2.2.1) && (allS ((toL s.2.2.2.2.2.2.2.2.2.2.1).take s.2.2.2.2.2.2.2.1.toNat) done1 && allS ((toL s.2.2.2.2.2.2.2.2.2.2.1).drop (s.2.2.2.2.2.2.2.1.toNat + 1)) g)))
theorem moves_is {s : Sg} {d : Df} {x : Int} {g : Seq In} (hx : x ≠ -1) (hm : s.2.2.2.2.2.2.2.2.2.2.1.n = d.2.1.n) (hn : d.2.1.n < 900) (hg : g.n < 900) (k : Bool → Option α) : saga_moves s d x g k = k (movesB s d x (toL g)) := by
  unfold saga_moves saga_moves_g movesB
  rw [mark_is]
  generalize hmm : s.2.2.2.2.2.2.2.2.2.2.1 = m at *
  generalize s.2.2.2.2.2.2.2.1 = a
  generalize s.2.2.2.2.2.2.2.2.1 = t
  by_cases h : markS m a = x
  · rw [bneF h, decide_eq_true h, Bool.true_and, Bool.not_false, cond_true]
    have ha : 0 ≤ a ∧ a < (m.n : Int) := by
      by_cases ha : 0 ≤ a ∧ a < (m.n : Int)
      · exact ha
      · unfold markS at h; rw [if_neg ha] at h; omega
    obtain ⟨j, rfl⟩ : ∃ j : Nat, a = (j : Int) := ⟨a.toNat, by omega⟩
    have hj : j < d.2.1.n := by omega
    rw [inb hj, cond_true, toNatC, Outside_is]
    cases outS (d.2.1.g j) with
    | false => rfl
    | true =>
      rw [Bool.not_true, Bool.not_false, cond_true, Bool.true_and]
      by_cases t0 : t < 0
      · rw [cnT t0, decide_eq_false (by omega), Bool.false_and]
      · rw [cnF t0, cond_true]
        by_cases t1 : t > (d.2.1.g j).2.2.1
        · rw [cT t1, decide_eq_false (by omega), Bool.false_and]
        · rw [cF t1, decide_eq_true (p := 0 ≤ t ∧ t ≤ (d.2.1.g j).2.2.1) (by omega), Bool.true_and]
          have e1 : (decide ((0 : Int) ≤ (j : Int)) && decide ((j : Int) ≤ (m.n : Int))) = true := by simp; omega
          have e2 : (decide ((0 : Int) ≤ ((j + 1 : Nat) : Int)) && decide (((j + 1 : Nat) : Int) ≤ (m.n : Int))) = true := by simp; omega
          rw [e1, cond_true, wrap_succ (by omega), e2, cond_true, all_is (by show j < 900; omega) (by show 1 < 900; omega), toL_take m.nl m.nl m.n j m.g (by omega)]
          show cond (allS ((toL m).take j) done1) _ _ = _
          cases allS ((toL m).take j) done1 with
          | false => rfl
          | true =>
            rw [cond_true, Bool.true_and, toNatC, all_is (by show m.n - (j + 1) < 900; omega) hg, toL_shift m.nl m.nl m.n (j + 1) m.g]
  · rw [bneT h, decide_eq_false h]; rfl
def boundS (s : Sg) (d : Df) : Bool := markS s.2.2.2.2.2.2.2.2.2.2.1 (pivotS (toL d.2.1)) == 2
theorem Bound_is {s : Sg} {d : Df} (hn : d.2.1.n < 900) (k : Bool → Option α) : saga_Bound s d k = k (boundS s d) := by
  unfold saga_Bound saga_Bound_g
  rw [Pivot_is hn, mark_is]; rfl
def whyS (s : Sg) : Bool := decide ((1 : Int) ≤ s.2.2.2.2.2.2.2.2.2.1) && decide (s.2.2.2.2.2.2.2.2.2.1 ≤ 6)
theorem why_is (s : Sg) (k : Bool → Option α) : saga_why s k = k (whyS s) := ck rfl
def aheadS (s : Sg) (d : Df) : Bool := (s.2.2.2.2.2.2.2.2.2.1 == 0) && movesB s d 1 [(0, ())]
def backS (s : Sg) (d : Df) : Bool := whyS s && (!boundS s d && movesB s d 3 gone3)
theorem ahead_is {s : Sg} {d : Df} (hm : s.2.2.2.2.2.2.2.2.2.2.1.n = d.2.1.n) (hn : d.2.1.n < 900) (k : Bool → Sg → Df → Option α) : saga_Fit_1 s d k = k (aheadS s d) s d := by
  unfold saga_Fit_1 saga_Fit_1_g aheadS
  rw [moves_is (by decide) hm hn (by show 1 < 900; omega)]
  cases (s.2.2.2.2.2.2.2.2.2.1 == 0) <;> rfl
theorem gone_is (k : Seq In → Option α) : saga_gone k = k (⟨false, 3, (tSel [(0, ()), (4, ()), (5, ())] (0, ()))⟩ : Seq In) := rfl
theorem back_is {s : Sg} {d : Df} (hm : s.2.2.2.2.2.2.2.2.2.2.1.n = d.2.1.n) (hn : d.2.1.n < 900) (k : Bool → Sg → Df → Option α) : saga_Fit_2 s d k = k (backS s d) s d := by
  unfold saga_Fit_2 saga_Fit_2_g backS
  rw [why_is, Bound_is hn]
  rw [gone_is, moves_is (by decide) hm hn (by show 3 < 900; omega)]
  cases whyS s with
  | false => rfl
  | true => cases boundS s d <;> rfl
/-! ### Who may be -/
def restS (s : Sg) (d : Df) : Bool :=
  if s.2.2.2.2.2.1 = 3 then (if s.2.2.2.2.2.2.1 = 1 then aheadS s d else if s.2.2.2.2.2.2.1 = 2 then backS s d else false)
  else if s.2.2.2.2.2.2.1 ≠ 0 then false
  else if s.2.2.2.2.2.1 = 1 then aheadS s d
  else if s.2.2.2.2.2.1 = 2 then backS s d
  else if s.2.2.2.2.2.1 = 4 then (s.2.2.2.2.2.2.2.2.1 == 0) && ((s.2.2.2.2.2.2.2.2.2.1 == 0) && ((s.2.2.2.2.2.2.2.1 == (d.2.1.n : Int)) && allS (toL s.2.2.2.2.2.2.2.2.2.2.1) done1))
  else if s.2.2.2.2.2.1 = 5 then (s.2.2.2.2.2.2.2.2.1 == 0) && (whyS s && ((s.2.2.2.2.2.2.2.1 == 0) && allS (toL s.2.2.2.2.2.2.2.2.2.2.1) gone3))
  else false
theorem cb' {c b : Bool} {k : Bool → Option α} {X : Option α} (h : X = k b) : cond c X (k false) = k (c && b) := cb h
theorem rest_is {s : Sg} {d : Df} (hm : s.2.2.2.2.2.2.2.2.2.2.1.n = d.2.1.n) (hn : d.2.1.n < 900) (k : Bool → Option α) :
    (cond (s.2.2.2.2.2.1 == 3)
      (cond (s.2.2.2.2.2.2.1 == 1)
        (saga_Fit_1 s d fun r27 r28 r29 =>
          (cond (!r27)
            (cond (r28.2.2.2.2.2.2.1 == 2)
              (saga_Fit_2 r28 r29 fun r30 r31 r32 =>
                (k r30))
              (k false))
            (k true)))
        (cond (s.2.2.2.2.2.2.1 == 2)
          (saga_Fit_2 s d fun r33 r34 r35 =>
            (k r33))
          (k false)))
      (cond (s.2.2.2.2.2.2.1 != 0)
        (k false)
        (cond (s.2.2.2.2.2.1 == 1)
          (saga_Fit_1 s d fun r36 r37 r38 =>
            (k r36))
          (cond (s.2.2.2.2.2.1 == 2)
            (saga_Fit_2 s d fun r39 r40 r41 =>
              (k r39))
            (cond (s.2.2.2.2.2.1 == 4)
              (cond (s.2.2.2.2.2.2.2.2.1 == 0)
                (cond (s.2.2.2.2.2.2.2.2.2.1 == 0)
                  (cond (s.2.2.2.2.2.2.2.1 == (d.2.1.n : Int))
                    (saga_all s.2.2.2.2.2.2.2.2.2.2.1 (⟨false, 1, (fun _ => (2, ()))⟩ : Seq (Int × Unit)) fun r42 =>
                      (k r42))
                    (k false))
                  (k false))
                (k false))
              (cond (s.2.2.2.2.2.1 == 5)
                (cond (s.2.2.2.2.2.2.2.2.1 == 0)
                  (saga_why s fun r43 =>
                    (cond r43
                      (cond (s.2.2.2.2.2.2.2.1 == 0)
                        (saga_gone fun r44 =>
                          (saga_all s.2.2.2.2.2.2.2.2.2.2.1 r44 fun r45 =>
                            (k r45)))
                        (k false))
                      (k false)))
                  (k false))
                (k false))))))) = k (restS s d) := by
  rw [gone_is, ahead_is hm hn, ahead_is hm hn, back_is hm hn, all_is (by omega) (by show 1 < 900; omega), all_is (by omega) (by show 3 < 900; omega), why_is]
  unfold restS
  by_cases h3 : s.2.2.2.2.2.1 = 3
  · rw [cbT h3, if_pos h3]
    by_cases w1 : s.2.2.2.2.2.2.1 = 1
    · rw [cbT w1, if_pos w1, cbF (by omega)]
      cases aheadS s d <;> rfl
    · rw [cbF w1, if_neg w1]
      by_cases w2 : s.2.2.2.2.2.2.1 = 2
      · rw [cbT w2, if_pos w2]
      · rw [cbF w2, if_neg w2]
  · rw [cbF h3, if_neg h3]
    by_cases w0 : s.2.2.2.2.2.2.1 = 0
    · rw [bneF w0, cond_false, if_neg (by omega)]
      by_cases h1 : s.2.2.2.2.2.1 = 1
      · rw [cbT h1, if_pos h1]
      · rw [cbF h1, if_neg h1]
        by_cases h2 : s.2.2.2.2.2.1 = 2
        · rw [cbT h2, if_pos h2]
        · rw [cbF h2, if_neg h2]
          by_cases h4 : s.2.2.2.2.2.1 = 4
          · rw [cbT h4, if_pos h4]
            exact cb (cb (cb rfl))
          · rw [cbF h4, if_neg h4]
            by_cases h5 : s.2.2.2.2.2.1 = 5
            · rw [cbT h5, if_pos h5]
              exact cb (cb (cb rfl))
            · rw [cbF h5, if_neg h5]
    · rw [bneT w0, cond_true, if_pos w0]
def fitSg (s : Sg) (d : Df) : Bool :=
  decide (1 ≤ s.1 ∧ s.1 ≤ 1099511627776) && (nameB s.2.1 && ((s.2.2.1.toList == d.1.toList) && (linesFit (toL s.2.2.2.1) && (fitN s.2.2.2.2.1 && (defFit d.1 (toL d.2.1) && (decide (s.2.2.2.2.2.2.2.2.2.2.1.n = d.2.1.n) && ((!(decide (s.2.2.2.1.n = 0) && decide (placeS (toL d.2.1) 1 ≥ 0))) && restS s d)))))))
theorem SFit_is {s : Sg} {d : Df} (h1 : s.2.1.size ≤ 9223372036854775806) (hl : SmL (toL s.2.2.2.1)) (hd : d.1.size ≤ 9223372036854775806) (hn : d.2.1.n < 900) (k : Bool → Option α) : saga_Fit s d k = k (fitSg s d) := by
  unfold saga_Fit saga_Fit_g fitSg
  by_cases i1 : s.1 < 1
  · rw [cnT i1, decide_eq_false (by omega), Bool.false_and]
  rw [cnF i1]
  by_cases i2 : s.1 > 1099511627776
  · rw [cnT i2, decide_eq_false (by omega), Bool.false_and]
  rw [cnF i2, decide_eq_true (p := 1 ≤ s.1 ∧ s.1 ≤ 1099511627776) (by omega), Bool.true_and, name_Fit_is h1]
  cases nameB s.2.1 with
  | false => rfl
  | true =>
    rw [Bool.not_true, Bool.not_false, cond_true, Bool.true_and]
    cases (s.2.2.1.toList == d.1.toList) with
    | false => rfl
    | true =>
      rw [Bool.not_true, Bool.not_false, cond_true, Bool.true_and, lines_Fit_is hl]
      cases linesFit (toL s.2.2.2.1) with
      | false => rfl
      | true =>
        rw [Bool.not_true, Bool.not_false, cond_true, Bool.true_and, num_Fit_is]
        cases fitN s.2.2.2.2.1 with
        | false => rfl
        | true =>
          rw [Bool.not_true, cond_false, Bool.true_and, defFit_is hd hn]
          cases defFit d.1 (toL d.2.1) with
          | false => rfl
          | true =>
            rw [Bool.not_true, Bool.not_false, cond_true, Bool.true_and]
            by_cases hm : s.2.2.2.2.2.2.2.2.2.2.1.n = d.2.1.n
            · rw [bneF (by omega : (s.2.2.2.2.2.2.2.2.2.2.1.n : Int) = (d.2.1.n : Int)), Bool.not_false, cond_true, decide_eq_true hm, Bool.true_and, Place_is hn, rest_is hm hn]
              by_cases hz : s.2.2.2.1.n = 0
              · rw [cbT (by omega), decide_eq_true hz, Bool.true_and]
                by_cases hp : placeS (toL d.2.1) 1 ≥ 0
                · rw [cT hp, decide_eq_true hp]; rfl
                · rw [cF hp, decide_eq_false hp]; rfl
              · rw [cbF (by omega), decide_eq_false hz]; rfl
            · rw [bneT (by omega : ¬ (s.2.2.2.2.2.2.2.2.2.2.1.n : Int) = (d.2.1.n : Int)), decide_eq_false hm]; rfl
/-! ### What is told -/
def betweenS (s : Sg) (d : Df) (a b : Int) : Bool := (markS s.2.2.2.2.2.2.2.2.2.2.1 (placeS (toL d.2.1) a) == 2) && (decide (placeS (toL d.2.1) b ≥ 0) && (markS s.2.2.2.2.2.2.2.2.2.2.1 (placeS (toL d.2.1) b) != 2))
theorem between_is {s : Sg} {d : Df} (hn : d.2.1.n < 900) (a b : Int) (k : Bool → Option α) : saga_between s d a b k = k (betweenS s d a b) := by
  unfold saga_between saga_between_g
  simp only [Place_is hn, mark_is]
  exact cb (ck rfl)
theorem Holds_is {s : Sg} {d : Df} (hn : d.2.1.n < 900) (k : Bool → Option α) : saga_Holds s d k = k (betweenS s d 1 3) := between_is hn 1 3 k
theorem Keeps_is {s : Sg} {d : Df} (hn : d.2.1.n < 900) (k : Bool → Option α) : saga_Keeps s d k = k (betweenS s d 3 5) := between_is hn 3 5 k
def liveS (s : Sg) : Bool := decide (s.2.2.2.2.2.1 = 1 ∨ s.2.2.2.2.2.1 = 2 ∨ s.2.2.2.2.2.1 = 3)
theorem Live_is (s : Sg) (k : Bool → Option α) : saga_Live s k = k (liveS s) := by
  unfold saga_Live liveS
  by_cases h1 : s.2.2.2.2.2.1 = 1
  · rw [cbT h1, cbT h1, decide_eq_true (by omega)]
  · rw [cbF h1]
    by_cases h2 : s.2.2.2.2.2.1 = 2
    · rw [cbT h2, cbT h2, decide_eq_true (by omega)]
    · rw [cbF h2]
      by_cases h3 : s.2.2.2.2.2.1 = 3
      · rw [cbT h3, decide_eq_true (by omega)]
      · rw [cbF h3, decide_eq_false (by omega)]
def goesBack (s : Sg) : Bool := decide (s.2.2.2.2.2.1 = 2 ∨ (s.2.2.2.2.2.1 = 3 ∧ s.2.2.2.2.2.2.1 = 2))
theorem Back_is (s : Sg) (k : Bool → Option α) : saga_Back s k = k (goesBack s) := by
  unfold saga_Back goesBack
  by_cases h2 : s.2.2.2.2.2.1 = 2
  · rw [cbT h2, decide_eq_true (by omega)]
  · rw [cbF h2]
    by_cases h3 : s.2.2.2.2.2.1 = 3
    · rw [cbT h3]
      by_cases w : s.2.2.2.2.2.2.1 = 2
      · rw [beqT w, decide_eq_true (by omega)]
      · rw [beqF w, decide_eq_false (by omega)]
    · rw [cbF h3, decide_eq_false (by omega)]
end Go.Rv.Tryd
