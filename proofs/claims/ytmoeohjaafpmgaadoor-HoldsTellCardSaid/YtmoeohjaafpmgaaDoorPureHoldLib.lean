/- Lines and holds: what the program's and the document's functions tell, in plain words over lists. -/
import Derived.Test.YtmoeohjaafpmgaaDoorE3
import Derived.Test.YtmoeohjaafpmgaaDoorPureNumLib
set_option linter.unusedVariables false
set_option linter.unusedSimpArgs false
namespace Go.Rv.Tryd
open Go Go.Rv
variable {α : Type}
abbrev Ln := ByteArray × Int × Unit
abbrev Hd := Int × Seq Ln × Int × Unit
/-- A hold in plain words: whose it is, its lines, its deadline. -/
abbrev Hm := Int × List Ln × Int
def mH (h : Hd) : Hm := (h.1, toL h.2.1, h.2.2.1)
def mHs (q : Seq Hd) : List Hm := (toL q).map mH
theorem mHs_length (q : Seq Hd) : (mHs q).length = q.n := by rw [mHs, List.length_map, toL_length]
theorem mHs_drop (q : Seq Hd) {i : Nat} (h : i < q.n) : (mHs q).drop i = mH (q.g i) :: (mHs q).drop (i + 1) := by
  unfold mHs; rw [← List.map_drop, toL_drop q h, List.map_cons, ← List.map_drop]
theorem mHs_end (q : Seq Hd) {i : Nat} (h : q.n ≤ i) : (mHs q).drop i = [] := List.drop_of_length_le (by rw [mHs_length]; exact h)
theorem mHs_mem (q : Seq Hd) {i : Nat} (h : i < q.n) : mH (q.g i) ∈ mHs q := List.mem_map_of_mem (List.mem_of_getElem? (toL_get q h))
theorem decNle {n d : Nat} {c : Int} (h : c = (d : Int)) : decide ((n : Int) ≤ c) = decide (n ≤ d) := by
  subst h
  by_cases h : n ≤ d
  · rw [decide_eq_true h, decide_eq_true (by omega)]
  · rw [decide_eq_false h, decide_eq_false (by omega)]
/-! ### How long rows may be -/
def SmL (l : List Ln) : Prop := l.length ≤ 8 ∧ ∀ x ∈ l, x.1.size ≤ 60
def SmH (l : List Hm) : Prop := l.length ≤ 20 ∧ ∀ h ∈ l, SmL h.2.1
def fewLB (l : List Ln) : Bool := decide (l.length ≤ 8) && l.all fun x => decide (x.1.size ≤ 60)
def fewHB (l : List Hm) : Bool := decide (l.length ≤ 20) && l.all fun h => fewLB h.2.1
theorem fewLB_sm {l : List Ln} (h : fewLB l = true) : SmL l := by
  unfold fewLB at h
  simp only [Bool.and_eq_true, decide_eq_true_eq, List.all_eq_true] at h
  exact h
theorem fewHB_sm {l : List Hm} (h : fewHB l = true) : SmH l := by
  unfold fewHB at h
  simp only [Bool.and_eq_true, decide_eq_true_eq, List.all_eq_true] at h
  exact ⟨h.1, fun x hx => fewLB_sm (h.2 x hx)⟩
theorem SmL_mem {q : Seq Ln} (h : SmL (toL q)) : q.n ≤ 8 ∧ ∀ i, i < q.n → (q.g i).1.size ≤ 60 := by
  refine ⟨by have := h.1; rw [toL_length] at this; exact this, fun i hi => h.2 _ (List.mem_of_getElem? (toL_get q hi))⟩
theorem SmH_mem {q : Seq Hd} (h : SmH (mHs q)) : q.n ≤ 20 ∧ ∀ i, i < q.n → SmL (toL (q.g i).2.1) := by
  refine ⟨by have := h.1; rw [mHs_length] at this; exact this, fun i hi => h.2 _ (mHs_mem q hi)⟩
theorem ref11_Few_loop (k : Bool → Option α) (q : Seq Ln) : ∀ (n i : Nat), 9 - i < n → i ≤ 8 → draymanref11_Few_l0_run (fun x => k x) (fun x => k (decide ((x.n : Int) ≤ 8))) n q (i : Int) = k (decide (q.n ≤ 8) && ((toL q).drop i).all fun x => decide (x.1.size ≤ 60)) := by
  intro n
  induction n with
  | zero => intro i hi; omega
  | succ n ih =>
    intro i hi h8
    unfold draymanref11_Few_l0_run draymanref11_Few_l0_step
    by_cases hl : i < q.n
    · rw [cT (by omega)]
      by_cases h : i < 8
      · rw [cT (by omega), inb hl, cond_true, toNatC, toL_drop q hl, List.all_cons]
        by_cases hb : (q.g i).1.size ≤ 60
        · rw [cF (by omega), wrap_succ (by omega), decide_eq_true hb, Bool.true_and]
          exact ih (i + 1) (by omega) (by omega)
        · rw [cT (by omega), decide_eq_false hb, Bool.false_and, Bool.and_false]
      · rw [cF (by omega)]; show k (decide ((q.n : Int) ≤ 8)) = _; rw [decide_eq_false (by omega), decide_eq_false (by omega)]; rfl
    · rw [cF (by omega), toL_end q (by omega)]
      simp only [List.all_nil, Bool.and_true]
      show k (decide ((q.n : Int) ≤ 8)) = _
      rw [decNle (c := 8) (d := 8) rfl]
theorem ref11_Few_is (q : Seq Ln) (k : Bool → Option α) : draymanref11_Few q k = k (fewLB (toL q)) := by
  have := ref11_Few_loop k q 1000 0 (by omega) (by omega)
  unfold fewLB
  rw [toL_length]
  exact this
theorem ref13_Few_loop (k : Bool → Option α) (q : Seq Hd) : ∀ (n i : Nat), 21 - i < n → i ≤ 20 → draymanref13_Few_l0_run draymanref11_Few (fun x => k x) (fun x => k (decide ((x.n : Int) ≤ 20))) n q (i : Int) = k (decide (q.n ≤ 20) && ((mHs q).drop i).all fun h => fewLB h.2.1) := by
  intro n
  induction n with
  | zero => intro i hi; omega
  | succ n ih =>
    intro i hi h8
    unfold draymanref13_Few_l0_run draymanref13_Few_l0_step
    by_cases hl : i < q.n
    · rw [cT (by omega)]
      by_cases h : i < 20
      · rw [cT (by omega), inb hl, cond_true, toNatC, mHs_drop q hl, List.all_cons, ref11_Few_is]
        show cond (!fewLB (toL (q.g i).2.1)) _ _ = k (_ && (fewLB (toL (q.g i).2.1) && _))
        cases hb : fewLB (toL (q.g i).2.1) with
        | true =>
          rw [wrap_succ (by omega), Bool.true_and]
          exact ih (i + 1) (by omega) (by omega)
        | false => rw [Bool.false_and, Bool.and_false]; rfl
      · rw [cF (by omega)]; show k (decide ((q.n : Int) ≤ 20)) = _; rw [decide_eq_false (by omega), decide_eq_false (by omega)]; rfl
    · rw [cF (by omega), mHs_end q (by omega)]
      simp only [List.all_nil, Bool.and_true]
      show k (decide ((q.n : Int) ≤ 20)) = _
      rw [decNle (c := 20) (d := 20) rfl]
theorem ref13_Few_is (q : Seq Hd) (k : Bool → Option α) : draymanref13_Few q k = k (fewHB (mHs q)) := by
  have := ref13_Few_loop k q 1000 0 (by omega) (by omega)
  unfold fewHB
  rw [mHs_length]
  exact this
/-! ### Lines that fit -/
def linesOk : ByteArray → List Ln → Bool
  | _, [] => true
  | last, x :: l => nameB x.1 && (!(Op.bytesLess x.1.toList last.toList || x.1.toList == last.toList) && (decide (1 ≤ x.2.1 ∧ x.2.1 ≤ 1048576) && linesOk x.1 l))
def linesFit (l : List Ln) : Bool := decide (l.length ≤ 4) && linesOk ⟨#[]⟩ l
theorem qty_F {n : Int} (h : ¬ (1 ≤ n ∧ n ≤ 1048576)) : decide (1 ≤ n ∧ n ≤ 1048576) = false := decide_eq_false h
theorem lines_Fit_loop (k : Bool → Option α) (q : Seq Ln) (hn : q.n < 900) (hs : ∀ i, i < q.n → (q.g i).1.size ≤ 9223372036854775806) : ∀ (n i : Nat) (last : ByteArray), q.n - i < n →
    lines_Fit_l0_run name_Fit (fun x => k x) (fun x => k (decide ((x.n : Int) ≤ 4))) n q last q (q.n : Int) (i : Int) = k (decide (q.n ≤ 4) && linesOk last ((toL q).drop i)) := by
  intro n
  induction n with
  | zero => intro i last hi; omega
  | succ n ih =>
    intro i last hi
    unfold lines_Fit_l0_run lines_Fit_l0_step
    by_cases hl : i < q.n
    · rw [cT (by omega), inb hl, cond_true, toNatC, name_Fit_is (hs i hl), toL_drop q hl, linesOk]
      cases nameB (q.g i).1 with
      | false => rw [Bool.false_and, Bool.and_false]; rfl
      | true =>
        simp only [Bool.not_true, Bool.not_false, cond_true, Bool.true_and]
        cases (Op.bytesLess (q.g i).1.toList last.toList || (q.g i).1.toList == last.toList) with
        | true => simp
        | false =>
          simp only [Bool.not_false, cond_true, Bool.true_and]
          by_cases h1 : (q.g i).2.1 < 1
          · rw [cnT h1, qty_F (by omega), Bool.false_and, Bool.and_false]
          · rw [cnF h1]
            by_cases h2 : (q.g i).2.1 > 1048576
            · rw [cT h2, qty_F (by omega), Bool.false_and, Bool.and_false]
            · rw [cF h2, decide_eq_true (p := 1 ≤ (q.g i).2.1 ∧ (q.g i).2.1 ≤ 1048576) (by omega), Bool.true_and, wrap_succ (by omega)]
              exact ih (i + 1) _ (by omega)
    · rw [cF (by omega), toL_end q (by omega), linesOk, Bool.and_true]
      show k (decide ((q.n : Int) ≤ 4)) = _
      rw [decNle (c := 4) (d := 4) rfl]
theorem lines_Fit_is {q : Seq Ln} (hs : SmL (toL q)) (k : Bool → Option α) : lines_Fit q k = k (linesFit (toL q)) := by
  obtain ⟨h1, h2⟩ := SmL_mem hs
  have := lines_Fit_loop k q (by omega) (fun i hi => by have := h2 i hi; omega) 1000 0 ⟨#[]⟩ (by omega)
  unfold linesFit
  rw [toL_length]
  exact this
theorem bytesLess_nil (l : List UInt8) : Op.bytesLess l [] = false := by cases l <;> rfl
theorem name_above {s : ByteArray} (h : nameB s = true) : (Op.bytesLess s.toList (⟨#[]⟩ : ByteArray).toList || s.toList == (⟨#[]⟩ : ByteArray).toList) = false := by
  rw [show (⟨#[]⟩ : ByteArray).toList = [] from by rw [ByteArray.toList_eq], bytesLess_nil, Bool.false_or]
  cases e : s.toList with
  | nil => unfold nameB at h; rw [e, runes_nil] at h; cases h
  | cons => rfl
theorem ref11_Fit_loop (k : Bool → Option α) (q : Seq Ln) (hn : q.n < 900) : ∀ (n i : Nat) (last : ByteArray), q.n - i < n → (i = 0 → last = ⟨#[]⟩) → (∀ j, i = j + 1 → last = (q.g j).1) →
    draymanref11_Fit_l0_run draymanref02_Fit (fun x => k x) (k true) n q (i : Int) = k (linesOk last ((toL q).drop i)) := by
  intro n
  induction n with
  | zero => intro i last hi; omega
  | succ n ih =>
    intro i last hi h0 hj
    unfold draymanref11_Fit_l0_run draymanref11_Fit_l0_step
    by_cases hl : i < q.n
    · rw [cT (by omega)]
      simp only [inb hl, Bool.and_self, cond_true, toNatC]
      rw [ref_Fit_is, toL_drop q hl, linesOk]
      cases hN : nameB (q.g i).1 with
      | false => rw [Bool.false_and]; rfl
      | true =>
        simp only [Bool.not_true, Bool.not_false, cond_true, Bool.true_and]
        by_cases h1 : (q.g i).2.1 < 1
        · rw [cnT h1, qty_F (by omega), Bool.false_and, Bool.and_false]
        · rw [cnF h1]
          by_cases h2 : (q.g i).2.1 > 1048576
          · rw [cnT h2, qty_F (by omega), Bool.false_and, Bool.and_false]
          · rw [cnF h2, decide_eq_true (p := 1 ≤ (q.g i).2.1 ∧ (q.g i).2.1 ≤ 1048576) (by omega), Bool.true_and, wrap_succ (by omega)]
            have hh := ih (i + 1) (q.g i).1 (by omega) (fun h => by omega) (fun j e => by rw [show j = i by omega])
            by_cases hz : i = 0
            · rw [cF (by omega), h0 hz, name_above hN, Bool.not_false, Bool.true_and]; exact hh
            · obtain ⟨j, rfl⟩ : ∃ j, i = j + 1 := ⟨i - 1, by omega⟩
              rw [cT (by omega), wrap64 (x := ((j + 1 : Nat) : Int) - 1) (by omega) (by omega), show ((j + 1 : Nat) : Int) - 1 = (j : Int) by omega, inb (show j < q.n by omega), hj j rfl, toNatC]
              simp only [Bool.and_self, cond_true]
              cases (Op.bytesLess (q.g (j + 1)).1.toList (q.g j).1.toList || (q.g (j + 1)).1.toList == (q.g j).1.toList) with
              | true => rfl
              | false => exact hh
    · rw [cF (by omega), toL_end q (by omega), linesOk]
theorem ref11_Fit_is (q : Seq Ln) (hn : q.n < 900) (k : Bool → Option α) : draymanref11_Fit q k = k (linesFit (toL q)) := by
  unfold draymanref11_Fit draymanref11_Fit_g linesFit
  rw [toL_length]
  by_cases h : q.n ≤ 4
  · rw [cF (by omega), decide_eq_true h, Bool.true_and]
    exact ref11_Fit_loop k q hn 1000 0 ⟨#[]⟩ (by omega) (fun _ => rfl) (fun j h => by omega)
  · rw [cT (by omega), decide_eq_false h, Bool.false_and]
/-! ### Holds that fit -/
def holdOk (h : Hm) : Bool := decide (1 ≤ h.1 ∧ h.1 ≤ 1099511627776) && (decide (0 < h.2.1.length) && (linesFit h.2.1 && fitN h.2.2))
def holdsOk : Int → List Hm → Bool
  | _, [] => true
  | last, x :: l => holdOk x && (!decide (x.1 ≤ last) && holdsOk x.1 l)
def holdsFit (l : List Hm) : Bool := decide (l.length ≤ 16) && holdsOk 0 l
theorem holds_one_is {h : Hd} (hs : SmL (toL h.2.1)) (k : Bool → Option α) : holds_one h k = k (holdOk (mH h)) := by
  unfold holds_one holds_one_g holdOk mH
  simp only [toL_length]
  by_cases h1 : 1 ≤ h.1
  · rw [cT h1]
    by_cases h2 : h.1 ≤ 1099511627776
    · rw [cT h2, decide_eq_true (p := 1 ≤ h.1 ∧ h.1 ≤ 1099511627776) ⟨h1, h2⟩, Bool.true_and]
      by_cases h3 : 0 < h.2.1.n
      · rw [cT (by omega), decide_eq_true h3, Bool.true_and, lines_Fit_is hs, num_Fit_is]
        cases linesFit (toL h.2.1) <;> rfl
      · rw [cF (by omega), decide_eq_false h3, Bool.false_and]
    · rw [cF h2, decide_eq_false (p := 1 ≤ h.1 ∧ h.1 ≤ 1099511627776) (by omega), Bool.false_and]
  · rw [cF h1, decide_eq_false (p := 1 ≤ h.1 ∧ h.1 ≤ 1099511627776) (by omega), Bool.false_and]
theorem ref13_One_is {h : Hd} (hs : SmL (toL h.2.1)) (k : Bool → Option α) : draymanref13_One h k = k (holdOk (mH h)) := by
  unfold draymanref13_One draymanref13_One_g holdOk mH
  simp only [toL_length]
  by_cases h1 : h.1 ≥ 1
  · rw [cT h1]
    by_cases h2 : h.1 ≤ 1099511627776
    · rw [cT h2, decide_eq_true (p := 1 ≤ h.1 ∧ h.1 ≤ 1099511627776) ⟨h1, h2⟩, Bool.true_and, ref11_Fit_is _ (by have := (SmL_mem hs).1; omega)]
      cases linesFit (toL h.2.1) with
      | false => rw [Bool.false_and, Bool.and_false]; rfl
      | true =>
        rw [cond_true]
        by_cases h3 : 0 < h.2.1.n
        · rw [cT (by omega), decide_eq_true h3, Bool.true_and, ref_NFit_is, Bool.true_and]
        · rw [cF (by omega), decide_eq_false h3, Bool.false_and]
    · rw [cF h2, decide_eq_false (p := 1 ≤ h.1 ∧ h.1 ≤ 1099511627776) (by omega), Bool.false_and]
  · rw [cF h1, decide_eq_false (p := 1 ≤ h.1 ∧ h.1 ≤ 1099511627776) (by omega), Bool.false_and]
theorem holds_Fit_loop (k : Bool → Option α) (q : Seq Hd) (hs : SmH (mHs q)) : ∀ (n i : Nat) (last : Int), q.n - i < n →
    holds_Fit_l0_run holds_one (fun x => k x) (fun x => k (decide ((x.n : Int) ≤ 16))) n q last q (q.n : Int) (i : Int) = k (decide (q.n ≤ 16) && holdsOk last ((mHs q).drop i)) := by
  obtain ⟨hn, hm⟩ := SmH_mem hs
  intro n
  induction n with
  | zero => intro i last hi; omega
  | succ n ih =>
    intro i last hi
    unfold holds_Fit_l0_run holds_Fit_l0_step
    by_cases hl : i < q.n
    · rw [cT (by omega), inb hl, cond_true, toNatC, holds_one_is (hm i hl), mHs_drop q hl, holdsOk]
      cases holdOk (mH (q.g i)) with
      | false => rw [Bool.false_and, Bool.and_false]; rfl
      | true =>
        simp only [Bool.not_true, Bool.not_false, cond_true, Bool.true_and]
        show cond (decide ((q.g i).1 ≤ last)) _ _ = k (_ && (!decide ((q.g i).1 ≤ last) && holdsOk (q.g i).1 _))
        by_cases h1 : (q.g i).1 ≤ last
        · rw [cT h1, decide_eq_true h1, Bool.not_true, Bool.false_and, Bool.and_false]
        · rw [cF h1, decide_eq_false h1, Bool.not_false, Bool.true_and, wrap_succ (by omega)]
          exact ih (i + 1) _ (by omega)
    · rw [cF (by omega), mHs_end q (by omega), holdsOk, Bool.and_true]
      show k (decide ((q.n : Int) ≤ 16)) = _
      rw [decNle (c := 16) (d := 16) rfl]
theorem holds_Fit_is {q : Seq Hd} (hs : SmH (mHs q)) (k : Bool → Option α) : holds_Fit q k = k (holdsFit (mHs q)) := by
  have := holds_Fit_loop k q hs 1000 0 0 (by have := (SmH_mem hs).1; omega)
  unfold holdsFit
  rw [mHs_length]
  exact this
theorem holdOk_id {h : Hm} (hk : holdOk h = true) : ¬ h.1 ≤ 0 := by
  unfold holdOk at hk
  simp only [Bool.and_eq_true, decide_eq_true_eq] at hk
  omega
theorem ref13_Fit_loop (k : Bool → Option α) (q : Seq Hd) (hs : SmH (mHs q)) : ∀ (n i : Nat) (last : Int), q.n - i < n → (i = 0 → last = 0) → (∀ j, i = j + 1 → last = (q.g j).1) →
    draymanref13_Fit_l0_run draymanref13_One (fun x => k x) (k true) n q (i : Int) = k (holdsOk last ((mHs q).drop i)) := by
  obtain ⟨hn, hm⟩ := SmH_mem hs
  intro n
  induction n with
  | zero => intro i last hi; omega
  | succ n ih =>
    intro i last hi h0 hj
    unfold draymanref13_Fit_l0_run draymanref13_Fit_l0_step
    by_cases hl : i < q.n
    · rw [cT (by omega)]
      simp only [inb hl, cond_true, toNatC]
      rw [ref13_One_is (hm i hl), mHs_drop q hl, holdsOk]
      cases hN : holdOk (mH (q.g i)) with
      | false => rw [Bool.false_and]; rfl
      | true =>
        have hid := holdOk_id hN
        simp only [Bool.not_true, Bool.not_false, cond_true, Bool.true_and]
        show _ = k (!decide ((q.g i).1 ≤ last) && holdsOk (q.g i).1 _)
        rw [wrap_succ (by omega)]
        have hh := ih (i + 1) (q.g i).1 (by omega) (fun h => by omega) (fun j e => by rw [show j = i by omega])
        by_cases hz : i = 0
        · rw [cF (by omega), h0 hz, decide_eq_false (show ¬ (q.g i).1 ≤ 0 from hid), Bool.not_false, Bool.true_and]; exact hh
        · obtain ⟨j, rfl⟩ : ∃ j, i = j + 1 := ⟨i - 1, by omega⟩
          rw [cT (by omega), wrap64 (x := ((j + 1 : Nat) : Int) - 1) (by omega) (by omega), show ((j + 1 : Nat) : Int) - 1 = (j : Int) by omega, inb (show j < q.n by omega), hj j rfl, toNatC, cond_true]
          by_cases h1 : (q.g (j + 1)).1 ≤ (q.g j).1
          · rw [cT h1, decide_eq_true h1]; rfl
          · rw [cF h1, decide_eq_false h1]; exact hh
    · rw [cF (by omega), mHs_end q (by omega), holdsOk]
theorem ref13_Fit_is {q : Seq Hd} (hs : SmH (mHs q)) (k : Bool → Option α) : draymanref13_Fit q k = k (holdsFit (mHs q)) := by
  unfold draymanref13_Fit draymanref13_Fit_g holdsFit
  rw [mHs_length]
  by_cases h : q.n ≤ 16
  · rw [cF (by omega), decide_eq_true h, Bool.true_and]
    exact ref13_Fit_loop k q hs 1000 0 0 (by have := (SmH_mem hs).1; omega) (fun _ => rfl) (fun j h => by omega)
  · rw [cT (by omega), decide_eq_false h, Bool.false_and]
end Go.Rv.Tryd
