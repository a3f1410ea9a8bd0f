/- Stock of one Sku: what the program's and the document's functions tell, in plain words: one and the same. No condition but the laws' own lengths. -/
import Derived.Test.YtmoeohjaafpmgaaDoorE1
import Derived.Test.YtmoeohjaafpmgaaDoorPureNumLib
set_option linter.unusedVariables false
set_option linter.unusedSimpArgs false
namespace Go.Rv.Tryd
open Go Go.Rv
variable {α : Type}
abbrev Sk := ByteArray × Int × Int × Int × Int × Int × Unit
theorem sk_beq (a b : Sk) : ((a.1.toList == b.1.toList) && ((a.2.1 == b.2.1) && ((a.2.2.1 == b.2.2.1) && ((a.2.2.2.1 == b.2.2.2.1) && ((a.2.2.2.2.1 == b.2.2.2.2.1) && ((a.2.2.2.2.2.1 == b.2.2.2.2.2.1) && true)))))) = decide (a = b) := by
  obtain ⟨a1, a2, a3, a4, a5, a6, _⟩ := a
  obtain ⟨b1, b2, b3, b4, b5, b6, _⟩ := b
  simp only [L_beq, Bool.and_true]
  by_cases h : a1 = b1 ∧ a2 = b2 ∧ a3 = b3 ∧ a4 = b4 ∧ a5 = b5 ∧ a6 = b6
  · obtain ⟨rfl, rfl, rfl, rfl, rfl, rfl⟩ := h; simp
  · have : ¬ ((a1, a2, a3, a4, a5, a6, ()) : Sk) = (b1, b2, b3, b4, b5, b6, ()) := by
      intro e
      simp only [Prod.mk.injEq, and_true] at e
      exact h ⟨e.1, e.2.1, e.2.2.1, e.2.2.2.1, e.2.2.2.2.1, e.2.2.2.2.2⟩
    rw [decide_eq_false this]
    simp only [Bool.and_eq_false_iff, decide_eq_false_iff_not, beq_eq_false_iff_ne, ne_eq]
    by_cases h1 : a1 = b1
    · by_cases h2 : a2 = b2
      · by_cases h3 : a3 = b3
        · by_cases h4 : a4 = b4
          · by_cases h5 : a5 = b5
            · simp [h1, h2, h3, h4, h5] at h; simp [h]
            · simp [h5]
          · simp [h4]
        · simp [h3]
      · simp [h2]
    · simp [h1]
def zS : Sk := (⟨#[]⟩, 0, 0, 0, 0, 0, ())
/-- Whether a Sku may be. -/
def fitS (x : Sk) : Bool := nameB x.1 && decide (0 ≤ x.2.1 ∧ 0 ≤ x.2.2.1 ∧ 0 ≤ x.2.2.2.1 ∧ 0 ≤ x.2.2.2.2.1 ∧ x.2.2.2.2.2.1 ≤ 1099511627776 ∧ x.2.1 + x.2.2.1 + x.2.2.2.1 + x.2.2.2.2.1 = x.2.2.2.2.2.1)
theorem fitS_b {x : Sk} (h : fitS x = true) : nameB x.1 = true ∧ 0 ≤ x.2.1 ∧ 0 ≤ x.2.2.1 ∧ 0 ≤ x.2.2.2.1 ∧ 0 ≤ x.2.2.2.2.1 ∧ x.2.2.2.2.2.1 ≤ 1099511627776 ∧ x.2.1 + x.2.2.1 + x.2.2.2.1 + x.2.2.2.2.1 = x.2.2.2.2.2.1 := by
  unfold fitS at h; simp only [Bool.and_eq_true, decide_eq_true_eq] at h; exact h
theorem fitS_T {x : Sk} (h0 : nameB x.1 = true) (h : 0 ≤ x.2.1 ∧ 0 ≤ x.2.2.1 ∧ 0 ≤ x.2.2.2.1 ∧ 0 ≤ x.2.2.2.2.1 ∧ x.2.2.2.2.2.1 ≤ 1099511627776 ∧ x.2.1 + x.2.2.1 + x.2.2.2.1 + x.2.2.2.2.1 = x.2.2.2.2.2.1) : fitS x = true := by
  unfold fitS; rw [h0, decide_eq_true h]; rfl
theorem stock_Fit_is {x : Sk} (hs : x.1.size ≤ 9223372036854775806) (k : Bool → Option α) : stock_Fit x k = k (fitS x) := by
  unfold stock_Fit stock_Fit_g
  rw [num_Sum_is (by show 4 < 900; omega), name_Fit_is hs]
  have e : toL (⟨false, 4, (tSel [(x.2.1, ()), (x.2.2.1, ()), (x.2.2.2.1, ()), (x.2.2.2.2.1, ())] (0, ()))⟩ : Seq (Int × Unit)) = [(x.2.1, ()), (x.2.2.1, ()), (x.2.2.2.1, ()), (x.2.2.2.2.1, ())] := rfl
  rw [e]
  unfold fitS
  obtain ⟨nm, h, d, p, s, i, u⟩ := x
  simp only
  cases hN : nameB nm with
  | false => simp
  | true =>
    simp only [cond_true, Bool.true_and, sumL, List.all_cons, List.all_nil, Bool.and_true]
    by_cases hb : fitN h = true ∧ fitN d = true ∧ fitN p = true ∧ fitN s = true
    · obtain ⟨b1, b2, b3, b4⟩ := hb
      simp only [b1, b2, b3, b4, Bool.and_self, if_true, sumGo]
      have c1 := fitN_iff.1 b1; have c2 := fitN_iff.1 b2; have c3 := fitN_iff.1 b3; have c4 := fitN_iff.1 b4
      rw [if_neg (by omega)]
      by_cases o1 : 0 + h + d > 1099511627776
      · rw [if_pos o1, cbF (by decide), decide_eq_false (by omega)]
      · rw [if_neg o1]
        by_cases o2 : 0 + h + d + p > 1099511627776
        · rw [if_pos o2, cbF (by decide), decide_eq_false (by omega)]
        · rw [if_neg o2]
          by_cases o3 : 0 + h + d + p + s > 1099511627776
          · rw [if_pos o3, cbF (by decide), decide_eq_false (by omega)]
          · rw [if_neg o3, cbT rfl]
            by_cases o4 : 0 + h + d + p + s = i
            · rw [beqT o4, decide_eq_true (by omega)]
            · rw [beqF o4, decide_eq_false (by omega)]
    · have : (fitN h && (fitN d && (fitN p && fitN s))) = false := by
        cases q1 : fitN h <;> cases q2 : fitN d <;> cases q3 : fitN p <;> cases q4 : fitN s <;> simp_all
      rw [this]
      simp only [Bool.false_eq_true, if_false]
      rw [cbF (by decide), decide_eq_false]
      intro hh
      apply hb
      exact ⟨fitN_T (by omega), fitN_T (by omega), fitN_T (by omega), fitN_T (by omega)⟩
theorem ref_SFit_is {x : Sk} (k : Bool → Option α) : draymanref12_Fit x k = k (fitS x) := by
  unfold draymanref12_Fit draymanref12_Fit_g
  simp only [ref_Fit_is, ref_NFit_is]
  unfold fitS
  obtain ⟨nm, h, d, p, s, i, u⟩ := x
  simp only
  cases hN : nameB nm with
  | false => rfl
  | true =>
    simp only [Bool.not_true, Bool.not_false, cond_true, Bool.true_and]
    cases q1 : fitN h with
    | false => rw [decide_eq_false]; rfl
               intro hh; rw [fitN_T (by omega)] at q1; cases q1
    | true =>
    cases q2 : fitN d with
    | false => rw [decide_eq_false]; rfl
               intro hh; rw [fitN_T (by omega)] at q2; cases q2
    | true =>
    cases q3 : fitN p with
    | false => rw [decide_eq_false]; rfl
               intro hh; rw [fitN_T (by omega)] at q3; cases q3
    | true =>
    cases q4 : fitN s with
    | false => rw [decide_eq_false]; rfl
               intro hh; rw [fitN_T (by omega)] at q4; cases q4
    | true =>
    cases q5 : fitN i with
    | false => rw [decide_eq_false]; rfl
               intro hh; rw [fitN_T (by omega)] at q5; cases q5
    | true =>
      simp only [Bool.not_true, Bool.not_false, cond_true, cond_false]
      have c1 := fitN_iff.1 q1; have c2 := fitN_iff.1 q2; have c3 := fitN_iff.1 q3; have c4 := fitN_iff.1 q4; have c5 := fitN_iff.1 q5
      rw [wrap64 (x := h + d) (by omega) (by omega), wrap64 (x := h + d + p) (by omega) (by omega), wrap64 (by omega) (by omega)]
      by_cases o : h + d + p + s = i
      · rw [beqT o, decide_eq_true (by omega)]
      · rw [beqF o, decide_eq_false (by omega)]
/-! ### More, or fewer -/
def restockS (x : Sk) (n : Int) : Sk × Int :=
  if fitS x = false then (zS, 12) else if n < 1 ∨ n > 1099511627776 then (zS, 11) else if x.2.2.2.2.2.1 + n > 1099511627776 then (zS, 5) else ((x.1, x.2.1 + n, x.2.2.1, x.2.2.2.1, x.2.2.2.2.1, x.2.2.2.2.2.1 + n, ()), 0)
def adjustS (x : Sk) (n : Int) : Sk × Int :=
  if fitS x = false then (zS, 12) else if n = 0 ∨ n < -1099511627776 ∨ n > 1099511627776 then (zS, 11) else if x.2.1 + n < 0 then (zS, 6) else if x.2.2.2.2.2.1 + n > 1099511627776 then (zS, 5) else ((x.1, x.2.1 + n, x.2.2.1, x.2.2.2.1, x.2.2.2.2.1, x.2.2.2.2.2.1 + n, ()), 0)
theorem stock_put_is {x : Sk} (hf : fitS x = true) {n : Int} (hn : -1099511627776 ≤ n ∧ n ≤ 1099511627776) (k : Sk → Int → Option α) :
    stock_put x n k = if x.2.1 + n < 0 then k zS 6 else if x.2.2.2.2.2.1 + n > 1099511627776 then k zS 5 else k (x.1, x.2.1 + n, x.2.2.1, x.2.2.2.1, x.2.2.2.2.1, x.2.2.2.2.2.1 + n, ()) 0 := by
  have hb := fitS_b hf
  unfold stock_put stock_put_g num_Shift num_Shift_g
  obtain ⟨nm, h, d, p, s, i, u⟩ := x
  simp only at hb ⊢
  rw [wrap64 (by omega) (by omega), wrap64 (by omega) (by omega)]
  by_cases o : h + n < 0
  · rw [cT o, if_pos o]; rfl
  · rw [cF o, if_neg o, num_Fit_is, fitN_T (by omega)]
    simp only [Bool.not_true, Bool.not_false, cond_true]
    rw [cnF (by omega), cF (by omega), cF (by omega)]
    by_cases o2 : i + n > 1099511627776
    · rw [cT o2, if_pos o2]; rfl
    · rw [cF o2, if_neg o2]; rfl
theorem stock_Restock_is {x : Sk} (hs : x.1.size ≤ 9223372036854775806) (n : Int) (k : Sk → Int → Option α) : stock_Restock x n k = k (restockS x n).1 (restockS x n).2 := by
  unfold stock_Restock stock_Restock_g restockS
  rw [stock_Fit_is hs]
  cases hf : fitS x with
  | false => rfl
  | true =>
    have hb := fitS_b hf
    simp only [Bool.not_true, cond_false, Bool.true_eq_false, if_false]
    by_cases h1 : n < 1
    · rw [cnT h1, if_pos (.inl h1)]; rfl
    · rw [cnF h1]
      by_cases h2 : n > 1099511627776
      · rw [cT h2, if_pos (.inr h2)]; rfl
      · rw [cF h2, if_neg (by omega), stock_put_is hf (by omega), if_neg (by omega)]
        by_cases h3 : x.2.2.2.2.2.1 + n > 1099511627776
        · rw [if_pos h3, if_pos h3]
        · rw [if_neg h3, if_neg h3]
theorem stock_Adjust_is {x : Sk} (hs : x.1.size ≤ 9223372036854775806) (n : Int) (k : Sk → Int → Option α) : stock_Adjust x n k = k (adjustS x n).1 (adjustS x n).2 := by
  unfold stock_Adjust stock_Adjust_g adjustS
  rw [stock_Fit_is hs]
  cases hf : fitS x with
  | false => rfl
  | true =>
    have hb := fitS_b hf
    simp only [Bool.not_true, cond_false, Bool.true_eq_false, if_false]
    by_cases h0 : n = 0
    · rw [cnbT h0, if_pos (.inl h0)]; rfl
    · rw [cnbF h0]
      by_cases h1 : n < -1099511627776
      · rw [cnT h1, if_pos (.inr (.inl h1))]; rfl
      · rw [cnF h1]
        by_cases h2 : n > 1099511627776
        · rw [cT h2, if_pos (.inr (.inr h2))]; rfl
        · rw [cF h2, if_neg (by omega), stock_put_is hf (by omega)]
          by_cases h3 : x.2.1 + n < 0
          · rw [if_pos h3, if_pos h3]
          · rw [if_neg h3, if_neg h3]
            by_cases h4 : x.2.2.2.2.2.1 + n > 1099511627776
            · rw [if_pos h4, if_pos h4]
            · rw [if_neg h4, if_neg h4]
theorem ref_Restock_is (x : Sk) (n : Int) (k : Sk → Int → Option α) : draymanref12_Restock x n k = k (restockS x n).1 (restockS x n).2 := by
  unfold draymanref12_Restock draymanref12_Restock_g restockS
  rw [ref_SFit_is]
  cases hf : fitS x with
  | false => rfl
  | true =>
    have hb := fitS_b hf
    simp only [Bool.not_true, cond_false, Bool.true_eq_false, if_false]
    by_cases h1 : n < 1
    · rw [cnT h1, if_pos (.inl h1)]; rfl
    · rw [cnF h1]
      by_cases h2 : n > 1099511627776
      · rw [cT h2, if_pos (.inr h2)]; rfl
      · rw [cF h2, if_neg (by omega), wrap64 (x := 1099511627776 - _) (by omega) (by omega), wrap64 (x := x.2.1 + n) (by omega) (by omega), wrap64 (x := x.2.2.2.2.2.1 + n) (by omega) (by omega)]
        by_cases h3 : x.2.2.2.2.2.1 + n > 1099511627776
        · rw [cT (by omega), if_pos h3]; rfl
        · rw [cF (by omega), if_neg h3]
theorem ref_Adjust_is {x : Sk} {n : Int} (hn : -9223372036854775808 ≤ n ∧ n ≤ 9223372036854775807) (k : Sk → Int → Option α) : draymanref12_Adjust x n k = k (adjustS x n).1 (adjustS x n).2 := by
  unfold draymanref12_Adjust draymanref12_Adjust_g adjustS
  rw [ref_SFit_is]
  cases hf : fitS x with
  | false => rfl
  | true =>
    have hb := fitS_b hf
    simp only [Bool.not_true, cond_false, Bool.true_eq_false, if_false]
    by_cases h0 : n = 0
    · rw [cnbT h0, if_pos (.inl h0)]; rfl
    · rw [cnbF h0]
      by_cases h1 : n < -1099511627776
      · rw [cnT h1, if_pos (.inr (.inl h1))]; rfl
      · rw [cnF h1]
        by_cases h2 : n > 1099511627776
        · rw [cT h2, if_pos (.inr (.inr h2))]; rfl
        · rw [cF h2, if_neg (by omega), wrap64 (x := x.2.1 + n) (by omega) (by omega), wrap64 (x := x.2.2.2.2.2.1 + n) (by omega) (by omega)]
          by_cases h3 : x.2.1 + n < 0
          · rw [cT h3, if_pos h3]; rfl
          · rw [cF h3, if_neg h3]
            by_cases h4 : x.2.2.2.2.2.1 + n > 1099511627776
            · rw [cT h4, if_pos h4]; rfl
            · rw [cF h4, if_neg h4]
def newS (s : ByteArray) : Sk × Int := if nameB s then ((s, 0, 0, 0, 0, 0, ()), 0) else (zS, 7)
theorem stock_New_is {s : ByteArray} (hs : s.size ≤ 9223372036854775806) (k : Sk → Int → Option α) : stock_New s k = k (newS s).1 (newS s).2 := by
  unfold stock_New stock_New_g newS
  rw [name_Fit_is hs]
  cases nameB s <;> rfl
theorem ref_New_is (s : ByteArray) (k : Sk → Int → Option α) : draymanref12_New s k = k (newS s).1 (newS s).2 := by
  unfold draymanref12_New draymanref12_New_g newS
  rw [ref_Fit_is]
  cases nameB s <;> rfl
/-! ### Moves -/
def movedS (x : Sk) (w n : Int) : Sk × Int :=
  if w = 1 then (if x.2.1 < n then (zS, 6) else ((x.1, x.2.1 - n, x.2.2.1 + n, x.2.2.2.1, x.2.2.2.2.1, x.2.2.2.2.2.1, ()), 0))
  else if w = 2 then (if x.2.2.1 < n then (zS, 6) else ((x.1, x.2.1 + n, x.2.2.1 - n, x.2.2.2.1, x.2.2.2.2.1, x.2.2.2.2.2.1, ()), 0))
  else if w = 3 then (if x.2.2.1 < n then (zS, 6) else ((x.1, x.2.1, x.2.2.1 - n, x.2.2.2.1 + n, x.2.2.2.2.1, x.2.2.2.2.2.1, ()), 0))
  else if w = 4 then (if x.2.2.2.1 < n then (zS, 6) else ((x.1, x.2.1, x.2.2.1 + n, x.2.2.2.1 - n, x.2.2.2.2.1, x.2.2.2.2.2.1, ()), 0))
  else (if x.2.2.2.1 < n then (zS, 6) else ((x.1, x.2.1, x.2.2.1, x.2.2.2.1 - n, x.2.2.2.2.1 + n, x.2.2.2.2.2.1, ()), 0))
def moveS (x : Sk) (w n : Int) : Sk × Int := if fitS x = false then (zS, 12) else if n < 1 ∨ n > 1048576 then (zS, 11) else movedS x w n
theorem move_is {x : Sk} (hs : x.1.size ≤ 9223372036854775806) (w n : Int) (k : Sk → Int → Option α) : draymanlaw12_move x w n k = k (moveS x w n).1 (moveS x w n).2 := by
  unfold draymanlaw12_move draymanlaw12_move_g stock_Hold stock_Hold_g stock_Release stock_Release_g stock_Keep stock_Keep_g stock_Unkeep stock_Unkeep_g stock_Send stock_Send_g
  simp only [stock_Fit_is hs]
  unfold moveS
  cases hf : fitS x with
  | false => simp only [Bool.not_false, cond_true, if_true, Bool.cond_self]; rfl
  | true =>
    have hb := fitS_b hf
    simp only [Bool.not_true, cond_false, Bool.true_eq_false, if_false]
    by_cases h1 : n < 1
    · simp only [cnT h1, if_pos (Or.inl h1), Bool.cond_self]; rfl
    · simp only [cnF h1]
      by_cases h2 : n > 1048576
      · simp only [cT h2, if_pos (Or.inr h2), Bool.cond_self]; rfl
      · rw [if_neg (by omega)]
        simp only [cF h2]
        unfold movedS
        by_cases w1 : w = 1
        · rw [cbT w1, if_pos w1]
          by_cases o : x.2.1 < n
          · rw [cT o, if_pos o]; rfl
          · rw [cF o, if_neg o, wrap64 (by omega) (by omega), wrap64 (by omega) (by omega)]
        rw [cbF w1, if_neg w1]
        by_cases w2 : w = 2
        · rw [cbT w2, if_pos w2]
          by_cases o : x.2.2.1 < n
          · rw [cT o, if_pos o]; rfl
          · rw [cF o, if_neg o, wrap64 (by omega) (by omega), wrap64 (by omega) (by omega)]
        rw [cbF w2, if_neg w2]
        by_cases w3 : w = 3
        · rw [cbT w3, if_pos w3]
          by_cases o : x.2.2.1 < n
          · rw [cT o, if_pos o]; rfl
          · rw [cF o, if_neg o, wrap64 (by omega) (by omega), wrap64 (by omega) (by omega)]
        rw [cbF w3, if_neg w3]
        by_cases w4 : w = 4
        · rw [cbT w4, if_pos w4]
          by_cases o : x.2.2.2.1 < n
          · rw [cT o, if_pos o]; rfl
          · rw [cF o, if_neg o, wrap64 (by omega) (by omega), wrap64 (by omega) (by omega)]
        rw [cbF w4, if_neg w4]
        by_cases o : x.2.2.2.1 < n
        · rw [cT o, if_pos o]; rfl
        · rw [cF o, if_neg o, wrap64 (by omega) (by omega), wrap64 (by omega) (by omega)]
theorem ref_Move_is (x : Sk) (w n : Int) (k : Sk → Int → Option α) : draymanref12_Move x w n k = k (moveS x w n).1 (moveS x w n).2 := by
  unfold draymanref12_Move draymanref12_Move_g
  simp only [joinD_is, hdI_c, hdS_c, List.tail_cons, ref_SFit_is]
  unfold moveS
  cases hf : fitS x with
  | false => rfl
  | true =>
    have hb := fitS_b hf
    simp only [Bool.not_true, cond_false, Bool.true_eq_false, if_false]
    by_cases h1 : n < 1
    · rw [cnT h1, if_pos (Or.inl h1)]; rfl
    · rw [cnF h1]
      by_cases h2 : n > 1048576
      · rw [cT h2, if_pos (Or.inr h2)]; rfl
      · rw [cF h2, if_neg (by omega)]
        unfold movedS
        by_cases w1 : w = 1
        · rw [cbT w1, if_pos w1]
          by_cases o : x.2.1 < n
          · rw [if_pos o]; exact (cT o).trans rfl
          · refine (cF o).trans ?_; rw [if_neg o, cbT w1, wrap64 (by omega) (by omega), wrap64 (by omega) (by omega)]
        rw [cbF w1, if_neg w1]
        by_cases w2 : w = 2
        · rw [cbT w2, cbT w2, if_pos w2]
          by_cases o : x.2.2.1 < n
          · rw [if_pos o]; exact (cT o).trans rfl
          · refine (cF o).trans ?_; rw [if_neg o, cbF w1, cbT w2, wrap64 (by omega) (by omega), wrap64 (by omega) (by omega)]
        rw [cbF w2, if_neg w2]
        by_cases w3 : w = 3
        · rw [cbT w3, if_pos w3]
          by_cases o : x.2.2.1 < n
          · rw [if_pos o]; exact (cT o).trans rfl
          · refine (cF o).trans ?_; rw [if_neg o, cbF w1, cbF w2, cbT w3, wrap64 (by omega) (by omega), wrap64 (by omega) (by omega)]
        rw [cbF w3, if_neg w3]
        by_cases w4 : w = 4
        · rw [if_pos w4]
          by_cases o : x.2.2.2.1 < n
          · rw [if_pos o]; exact (cT o).trans rfl
          · refine (cF o).trans ?_; rw [if_neg o, cbF w1, cbF w2, cbF w3, cbT w4, wrap64 (by omega) (by omega), wrap64 (by omega) (by omega)]
        rw [if_neg w4]
        by_cases o : x.2.2.2.1 < n
        · rw [if_pos o]; exact (cT o).trans rfl
        · refine (cF o).trans ?_; rw [if_neg o, cbF w1, cbF w2, cbF w3, cbF w4, wrap64 (by omega) (by omega), wrap64 (by omega) (by omega)]
/-! ### The chapter's example -/
def tea : ByteArray := ⟨#[116, 101, 97]⟩
theorem tea_name : nameB tea = true := by decide +kernel
theorem awake12_is (k : Bool → Option α) : draymanlaw12_awake k = k true := by
  unfold draymanlaw12_awake draymanlaw12_awake_g
  have hz : tea.size ≤ 9223372036854775806 := by decide
  have e1 : newS tea = ((tea, 0, 0, 0, 0, 0, ()), 0) := by unfold newS; rw [tea_name]; rfl
  have e2 : restockS (tea, 0, 0, 0, 0, 0, ()) 5 = ((tea, 5, 0, 0, 0, 5, ()), 0) := by kernel_rfl
  have e3 : moveS (tea, 5, 0, 0, 0, 5, ()) 1 3 = ((tea, 2, 3, 0, 0, 5, ()), 0) := by kernel_rfl
  have e4 : moveS (tea, 2, 3, 0, 0, 5, ()) 1 3 = (zS, 6) := by kernel_rfl
  have hold : ∀ (x : Sk) (k : Sk → Int → Option α), x.1.size ≤ 9223372036854775806 → stock_Hold x 3 k = k (moveS x 1 3).1 (moveS x 1 3).2 := fun x k h => (move_is h 1 3 k)
  show stock_New tea _ = _
  rw [stock_New_is hz, e1, stock_Restock_is hz, e2, hold _ _ hz, e3, hold _ _ hz, e4]
  simp only
  have : (tea.toList == (⟨#[116, 101, 97]⟩ : ByteArray).toList) = true := by decide +kernel
  rw [this]
  rfl
end Go.Rv.Tryd
