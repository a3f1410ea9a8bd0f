/- The plain law of InboxTells: the functions of boxes, as the program has them and as the document has them, answer alike. No condition but those of the law. -/
import Derived.Test.YtmemlioggcgdmaaE2
import Derived.Test.YtmemlioggcgdmaaRvT
set_option linter.unusedVariables false
set_option linter.unusedSimpArgs false
namespace Go.Rv.Try
open Go Go.Rv Go.RowKit
abbrev Ints := Seq (Int × Unit)
abbrev Box := Int × Int × Ints × Unit
def il (s : Ints) : List Int := (toL s).map (·.1)
theorem il_length (s : Ints) : (il s).length = s.n := by simp [il, toL_length]
theorem il_drop (s : Ints) {j : Nat} (h : j < s.n) : (il s).drop j = (s.g j).1 :: (il s).drop (j + 1) := by
  simp only [il, ← List.map_drop, toL_drop s h, List.map_cons]
theorem il_end (s : Ints) {j : Nat} (h : s.n ≤ j) : (il s).drop j = [] := by
  simp only [il, ← List.map_drop, toL_end s h, List.map_nil]
variable {α : Type}

def fitN (n : Int) : Bool := decide (0 ≤ n) && decide (n ≤ 1099511627776)
theorem num_Fit_is (n : Int) (k : Bool → Option α) : num_Fit n k = k (fitN n) := by
  unfold num_Fit fitN
  by_cases h : 0 ≤ n <;> simp [h]
theorem ref_num_Fit_is (n : Int) (k : Bool → Option α) : draymanref01_Fit n k = k (fitN n) := by
  unfold draymanref01_Fit fitN
  by_cases h : 0 ≤ n <;> simp [h]
/-- Numbers that rise, each one behind the last. -/
def rising : Int → List Int → Bool
  | _, [] => true
  | last, x :: l => !(decide (x ≤ last)) && fitN x && rising x l
def boxFit (b : Box) : Bool := (b.1 == 1 || b.1 == 2) && fitN b.2.1 && rising (b.2.1 + 1) (il b.2.2.1) && decide (b.2.2.1.n ≤ 16)

theorem fit_loop (kr : Bool → Box → Option α) (k0 : Box → Option α) (s : Ints) (b : Box) (hn : s.n < 9223372036854775807) : ∀ (m j N : Nat) (last : Int), j + m = s.n → m < N →
    inbox_Fit_l0_run num_Fit kr k0 N last s (s.n : Int) (j : Int) b = cond (rising last ((il s).drop j)) (k0 b) (kr false b) := by
  intro m
  induction m with
  | zero =>
    intro j N last hj hN
    obtain ⟨N, rfl⟩ : ∃ M, N = M + 1 := ⟨N - 1, by omega⟩
    have : ¬ ((j : Int) < (s.n : Int)) := by omega
    simp only [inbox_Fit_l0_run, inbox_Fit_l0_step, ltF this, cond_false, il_end s (show s.n ≤ j by omega), rising, cond_true]
  | succ m ih =>
    intro j N last hj hN
    obtain ⟨N, rfl⟩ : ∃ M, N = M + 1 := ⟨N - 1, by omega⟩
    have h1 : (j : Int) < (s.n : Int) := by omega
    have hr := ih (j + 1) N (s.g j).1 (by omega) (by omega)
    simp only [inbox_Fit_l0_run, inbox_Fit_l0_step, ltT h1, nn, Bool.and_self, cond_true, inb (show j < s.n by omega), toNatC, num_Fit_is, il_drop s (show j < s.n by omega), rising, wrap_succ (show j < 9223372036854775807 by omega), hr]
    cases decide ((s.g j).1 ≤ last) <;> cases fitN (s.g j).1 <;> simp

theorem inbox_Fit_is (b : Box) (hn : b.2.2.1.n ≤ 900) (k : Bool → Option α) : inbox_Fit b k = k (boxFit b) := by
  obtain ⟨sv, low, s, ⟨⟩⟩ := b
  simp only at hn
  have key : ∀ (kk : Option α), (inbox_Fit_l0_run num_Fit (fun x3 x4 => k x3) (fun x5 => k (decide ((x5.2.2.1.n : Int) ≤ 16))) 1000 (low + 1) s (s.n : Int) (0 : Int) (sv, low, s, ())) = k (rising (low + 1) (il s) && decide (s.n ≤ 16)) := by
    intro _
    have := fit_loop (fun x3 x4 => k x3) (fun x5 => k (decide ((x5.2.2.1.n : Int) ≤ 16))) s (sv, low, s, ()) (by omega) s.n 0 1000 (low + 1) (by omega) (by omega)
    rw [show ((0 : Nat) : Int) = 0 from rfl] at this
    rw [this, List.drop_zero]
    have e : decide ((s.n : Int) ≤ 16) = decide (s.n ≤ 16) := by simp; omega
    cases rising (low + 1) (il s) <;> simp [e]
  unfold inbox_Fit inbox_Fit_g
  simp only [num_Fit_is, boxFit]
  cases hf : fitN low with
  | false => cases h1 : (sv == 1) <;> cases h2 : (sv == 2) <;> simp [bne, h1, h2]
  | true =>
    have hw : IntKind.i64.wrap (low + 1) = low + 1 := by
      simp only [fitN, Bool.and_eq_true, decide_eq_true_eq] at hf
      exact wrap64 (by omega) (by omega)
    simp only [hw]
    cases h1 : (sv == 1) <;> cases h2 : (sv == 2) <;> simp [bne, h1, h2, key none]

theorem rising_mono {a b : Int} (h : a ≤ b) : ∀ (l : List Int), (∀ x ∈ l, b < x) → rising a l = rising b l
  | [], _ => rfl
  | x :: l, hx => by
    have := hx x (by simp)
    have h1 : decide (x ≤ a) = false := decide_eq_false (by omega)
    have h2 : decide (x ≤ b) = false := decide_eq_false (by omega)
    simp only [rising, h1, h2]

theorem ref_fit_loop (kr : Bool → Box → Option α) (k0 : Box → Option α) (sv low : Int) (s : Ints) (hl : IntKind.i64.wrap (low + 1) = low + 1) (hn : s.n < 9223372036854775807) : ∀ (m j N : Nat), j + m = s.n → m < N →
    (0 < j → low + 1 < (s.g (j - 1)).1) →
    draymanref18_Fit_l0_run draymanref01_Fit kr k0 N (j : Int) (sv, low, s, ()) = cond (rising (if j = 0 then low + 1 else (s.g (j - 1)).1) ((il s).drop j)) (k0 (sv, low, s, ())) (kr false (sv, low, s, ())) := by
  intro m
  induction m with
  | zero =>
    intro j N hj hN hp
    obtain ⟨N, rfl⟩ : ∃ M, N = M + 1 := ⟨N - 1, by omega⟩
    have : ¬ ((j : Int) < (s.n : Int)) := by omega
    simp only [draymanref18_Fit_l0_run, draymanref18_Fit_l0_step, ltF this, cond_false, il_end s (show s.n ≤ j by omega), rising, cond_true]
  | succ m ih =>
    intro j N hj hN hp
    obtain ⟨N, rfl⟩ : ∃ M, N = M + 1 := ⟨N - 1, by omega⟩
    have h1 : (j : Int) < (s.n : Int) := by omega
    have hr := ih (j + 1) N (by omega) (by omega)
    simp only [draymanref18_Fit_l0_run, draymanref18_Fit_l0_step, ltT h1, nn, Bool.and_self, cond_true, inb (show j < s.n by omega), toNatC, ref_num_Fit_is, il_drop s (show j < s.n by omega), rising, wrap_succ (show j < 9223372036854775807 by omega), hl]
    simp only [Nat.add_sub_cancel, Nat.add_eq_zero_iff, Nat.one_ne_zero, and_false, if_false] at hr
    cases hf : fitN (s.g j).1 with
    | false => cases decide ((s.g j).1 ≤ (if j = 0 then low + 1 else (s.g (j - 1)).1)) <;> simp
    | true =>
      by_cases hj0 : j = 0
      · subst hj0
        by_cases hc : (s.g 0).1 ≤ low + 1
        · simp [hc]
        · have hr := hr (fun _ => by omega)
          simp [hc] at hr ⊢
          exact hr
      · have h2 : (j : Int) > 0 := by omega
        have hw : IntKind.i64.wrap ((j : Int) - 1) = ((j - 1 : Nat) : Int) := by rw [wrap64 (by omega) (by omega)]; omega
        simp only [hj0, if_false, decide_eq_true h2, cond_true, hw, inb (show j - 1 < s.n by omega), toNatC]
        have hp := hp (by omega)
        by_cases hc : (s.g j).1 ≤ (s.g (j - 1)).1
        · by_cases hd : (s.g j).1 ≤ low + 1 <;> simp [hc, hd]
        · have hd : ¬ (s.g j).1 ≤ low + 1 := by omega
          have hr := hr (fun _ => by omega)
          simp only [decide_eq_false hc, decide_eq_false hd, hr, Bool.not_true, Bool.not_false, cond_true, cond_false, Bool.true_and, nn, Bool.and_self]

theorem ref_Fit_is (b : Box) (hn : b.2.2.1.n ≤ 900) (k : Bool → Option α) : draymanref18_Fit b k = k (boxFit b) := by
  obtain ⟨sv, low, s, ⟨⟩⟩ := b
  simp only at hn
  have e : decide ((s.n : Int) > 16) = !decide (s.n ≤ 16) := by
    by_cases h : s.n ≤ 16
    · simp [h]; omega
    · simp [h]; omega
  unfold draymanref18_Fit draymanref18_Fit_g
  simp only [ref_num_Fit_is, boxFit, e]
  cases hf : fitN low with
  | false => cases h1 : (sv == 1) <;> cases h2 : (sv == 2) <;> simp [bne, h1, h2]
  | true =>
    have hw : IntKind.i64.wrap (low + 1) = low + 1 := by
      simp only [fitN, Bool.and_eq_true, decide_eq_true_eq] at hf
      exact wrap64 (by omega) (by omega)
    have key : (draymanref18_Fit_l0_run draymanref01_Fit (fun x3 x4 => k x3) (fun x5 => k true) 1000 (0 : Int) (sv, low, s, ())) = k (rising (low + 1) (il s)) := by
      have := ref_fit_loop (fun x3 x4 => k x3) (fun x5 => k true) sv low s hw (by omega) s.n 0 1000 (by omega) (by omega) (fun h => by omega)
      rw [show ((0 : Nat) : Int) = 0 from rfl] at this
      rw [this, List.drop_zero, if_pos rfl]
      cases rising (low + 1) (il s) <;> rfl
    cases h1 : (sv == 1) <;> cases h2 : (sv == 2) <;> cases h3 : decide (s.n ≤ 16) <;> simp [bne, h1, h2, h3, key]

/-- Whether a number stands in a list. -/
def hasB (x : Int) (l : List Int) : Bool := l.any (· == x)
theorem index_loop (kr : Int → Option α) (k0 : Option α) (s : Ints) (v : Int) (hn : s.n < 9223372036854775807) : ∀ (m j N : Nat), j + m = s.n → m < N →
    ∃ i : Nat, slices_Index_int_int_l0_run kr k0 N s v (s.n : Int) (j : Int) = cond (hasB v ((il s).drop j)) (kr (i : Int)) k0 := by
  intro m
  induction m with
  | zero =>
    intro j N hj hN
    obtain ⟨N, rfl⟩ : ∃ M, N = M + 1 := ⟨N - 1, by omega⟩
    have : ¬ ((j : Int) < (s.n : Int)) := by omega
    exact ⟨0, by simp only [slices_Index_int_int_l0_run, slices_Index_int_int_l0_step, ltF this, cond_false, il_end s (show s.n ≤ j by omega), hasB, List.any_nil]⟩
  | succ m ih =>
    intro j N hj hN
    obtain ⟨N, rfl⟩ : ∃ M, N = M + 1 := ⟨N - 1, by omega⟩
    have h1 : (j : Int) < (s.n : Int) := by omega
    obtain ⟨i, hr⟩ := ih (j + 1) N (by omega) (by omega)
    have e : (v == (s.g j).1) = ((s.g j).1 == v) := by
      rw [Bool.eq_iff_iff, beq_iff_eq, beq_iff_eq]; exact eq_comm
    simp only [slices_Index_int_int_l0_run, slices_Index_int_int_l0_step, ltT h1, nn, Bool.and_self, cond_true, inb (show j < s.n by omega), toNatC, il_drop s (show j < s.n by omega), wrap_succ (show j < 9223372036854775807 by omega), hr, hasB, List.any_cons, e]
    cases ((s.g j).1 == v) with
    | true => exact ⟨j, by simp⟩
    | false => exact ⟨i, by simp only [cond_false, Bool.false_or]⟩
theorem contains_is (s : Ints) (v : Int) (hn : s.n ≤ 900) (k : Bool → Option α) : slices_Contains_int_int s v k = k (hasB v (il s)) := by
  unfold slices_Contains_int_int slices_Contains_int_int_g slices_Index_int_int
  obtain ⟨i, h⟩ := index_loop (fun x3 => k (decide (x3 ≥ 0))) (k (decide ((-1 : Int) ≥ 0))) s v (by omega) s.n 0 1000 (by omega) (by omega)
  rw [show ((0 : Nat) : Int) = 0 from rfl, List.drop_zero] at h
  refine h.trans ?_
  cases hasB v (il s) <;> simp
theorem has_loop (kr : Bool → Option α) (k0 : Option α) (s : Ints) (v : Int) (hn : s.n < 9223372036854775807) : ∀ (m j N : Nat), j + m = s.n → m < N →
    draymanref01_Has_l0_run kr k0 N s v (j : Int) = cond (hasB v ((il s).drop j)) (kr true) k0 := by
  intro m
  induction m with
  | zero =>
    intro j N hj hN
    obtain ⟨N, rfl⟩ : ∃ M, N = M + 1 := ⟨N - 1, by omega⟩
    have : ¬ ((j : Int) < (s.n : Int)) := by omega
    simp only [draymanref01_Has_l0_run, draymanref01_Has_l0_step, ltF this, cond_false, il_end s (show s.n ≤ j by omega), hasB, List.any_nil]
  | succ m ih =>
    intro j N hj hN
    obtain ⟨N, rfl⟩ : ∃ M, N = M + 1 := ⟨N - 1, by omega⟩
    have h1 : (j : Int) < (s.n : Int) := by omega
    simp only [draymanref01_Has_l0_run, draymanref01_Has_l0_step, ltT h1, nn, Bool.and_self, cond_true, inb (show j < s.n by omega), toNatC, il_drop s (show j < s.n by omega), wrap_succ (show j < 9223372036854775807 by omega), ih (j + 1) N (by omega) (by omega), hasB, List.any_cons]
    cases ((s.g j).1 == v) <;> simp
theorem has_is (s : Ints) (v : Int) (hn : s.n ≤ 900) (k : Bool → Option α) : draymanref01_Has s v k = k (hasB v (il s)) := by
  unfold draymanref01_Has
  have h := has_loop (fun x3 => k x3) (k false) s v (by omega) s.n 0 1000 (by omega) (by omega)
  rw [show ((0 : Nat) : Int) = 0 from rfl, List.drop_zero] at h
  refine h.trans ?_
  cases hasB v (il s) <;> simp
def hadB (b : Box) (id : Int) : Bool := decide (id ≤ b.2.1) || hasB id (il b.2.2.1)
theorem inbox_Had_is (b : Box) (id : Int) (hn : b.2.2.1.n ≤ 900) (k : Bool → Option α) : inbox_Had b id k = k (hadB b id) := by
  unfold inbox_Had inbox_Had_g hadB
  simp only [contains_is _ _ hn]
  cases decide (id ≤ b.2.1) <;> simp
theorem ref_Had_is (b : Box) (id : Int) (hn : b.2.2.1.n ≤ 900) (k : Bool → Option α) : draymanref18_Had b id k = k (hadB b id) := by
  unfold draymanref18_Had draymanref18_Had_g hadB
  simp only [has_is _ _ hn]
  cases decide (id ≤ b.2.1) <;> simp

theorem same_loop (kr : Bool → Option α) (k0 : Option α) (s t : Ints) (hst : s.n = t.n) (hn : s.n < 9223372036854775807) : ∀ (m j N : Nat), j + m = s.n → m < N →
    draymanref01_Same_l0_run kr k0 N s t (j : Int) = cond (decide ((il s).drop j = (il t).drop j)) k0 (kr false) := by
  intro m
  induction m with
  | zero =>
    intro j N hj hN
    obtain ⟨N, rfl⟩ : ∃ M, N = M + 1 := ⟨N - 1, by omega⟩
    have : ¬ ((j : Int) < (s.n : Int)) := by omega
    simp only [draymanref01_Same_l0_run, draymanref01_Same_l0_step, ltF this, cond_false, il_end s (show s.n ≤ j by omega), il_end t (show t.n ≤ j by omega), decide_true, cond_true]
  | succ m ih =>
    intro j N hj hN
    obtain ⟨N, rfl⟩ : ∃ M, N = M + 1 := ⟨N - 1, by omega⟩
    have h1 : (j : Int) < (s.n : Int) := by omega
    simp only [draymanref01_Same_l0_run, draymanref01_Same_l0_step, ltT h1, ltT (show (j : Int) < (t.n : Int) by omega), nn, Bool.and_self, cond_true, inb (show j < s.n by omega), inb (show j < t.n by omega), Bool.and_self, toNatC, il_drop s (show j < s.n by omega), il_drop t (show j < t.n by omega), wrap_succ (show j < 9223372036854775807 by omega), ih (j + 1) N (by omega) (by omega)]
    by_cases h : (s.g j).1 = (t.g j).1
    · simp [h]
    · have e : ((s.g j).1 != (t.g j).1) = true := by simpa using h
      simp [h, e]
theorem equal_loop (kr : Bool → Option α) (k0 : Option α) (s t : Ints) (hst : s.n = t.n) (hn : s.n < 9223372036854775807) : ∀ (m j N : Nat), j + m = s.n → m < N →
    slices_Equal_int_int_l0_run kr k0 N s t (s.n : Int) (j : Int) = cond (decide ((il s).drop j = (il t).drop j)) k0 (kr false) := by
  intro m
  induction m with
  | zero =>
    intro j N hj hN
    obtain ⟨N, rfl⟩ : ∃ M, N = M + 1 := ⟨N - 1, by omega⟩
    have : ¬ ((j : Int) < (s.n : Int)) := by omega
    simp only [slices_Equal_int_int_l0_run, slices_Equal_int_int_l0_step, ltF this, cond_false, il_end s (show s.n ≤ j by omega), il_end t (show t.n ≤ j by omega), decide_true, cond_true]
  | succ m ih =>
    intro j N hj hN
    obtain ⟨N, rfl⟩ : ∃ M, N = M + 1 := ⟨N - 1, by omega⟩
    have h1 : (j : Int) < (s.n : Int) := by omega
    simp only [slices_Equal_int_int_l0_run, slices_Equal_int_int_l0_step, ltT h1, ltT (show (j : Int) < (t.n : Int) by omega), nn, Bool.and_self, cond_true, inb (show j < s.n by omega), inb (show j < t.n by omega), Bool.and_self, toNatC, il_drop s (show j < s.n by omega), il_drop t (show j < t.n by omega), wrap_succ (show j < 9223372036854775807 by omega), ih (j + 1) N (by omega) (by omega)]
    by_cases h : (s.g j).1 = (t.g j).1
    · simp [h]
    · have e : ((s.g j).1 != (t.g j).1) = true := by simpa using h
      simp [h, e]
theorem ne_of_n {s t : Ints} (h : s.n ≠ t.n) : il s ≠ il t := fun e => h (by rw [← il_length s, ← il_length t, e])
theorem ref_num_Same_is (s t : Ints) (hn : s.n ≤ 900) (k : Bool → Option α) : draymanref01_Same s t k = k (decide (il s = il t)) := by
  unfold draymanref01_Same
  by_cases h : s.n = t.n
  · have h2 := same_loop (fun x3 => k x3) (k true) s t h (by omega) s.n 0 1000 (by omega) (by omega)
    rw [show ((0 : Nat) : Int) = 0 from rfl, List.drop_zero, List.drop_zero] at h2
    have e : ((s.n : Int) != (t.n : Int)) = false := by simp [h]
    rw [e]
    refine h2.trans ?_
    cases decide (il s = il t) <;> simp
  · have e : ((s.n : Int) != (t.n : Int)) = true := by simp; omega
    rw [e]
    simp [ne_of_n h]
theorem equal_is (s t : Ints) (hn : s.n ≤ 900) (k : Bool → Option α) : slices_Equal_int_int s t k = k (decide (il s = il t)) := by
  unfold slices_Equal_int_int
  by_cases h : s.n = t.n
  · have h2 := equal_loop (fun x3 => k x3) (k true) s t h (by omega) s.n 0 1000 (by omega) (by omega)
    rw [show ((0 : Nat) : Int) = 0 from rfl, List.drop_zero, List.drop_zero] at h2
    have e : ((s.n : Int) != (t.n : Int)) = false := by simp [h]
    rw [e]
    refine h2.trans ?_
    cases decide (il s = il t) <;> simp
  · have e : ((s.n : Int) != (t.n : Int)) = true := by simp; omega
    rw [e]
    simp [ne_of_n h]
def sameB (a b : Box) : Bool := a.1 == b.1 && (a.2.1 == b.2.1 && decide (il a.2.2.1 = il b.2.2.1))
theorem inbox_Same_is (a b : Box) (hn : a.2.2.1.n ≤ 900) (k : Bool → Option α) : inbox_Same a b k = k (sameB a b) := by
  unfold inbox_Same inbox_Same_g sameB
  simp only [equal_is _ _ hn]
  cases (a.1 == b.1) <;> cases (a.2.1 == b.2.1) <;> simp
theorem ref_Same_is (a b : Box) (hn : a.2.2.1.n ≤ 900) (k : Bool → Option α) : draymanref18_Same a b k = k (sameB a b) := by
  unfold draymanref18_Same draymanref18_Same_g sameB
  simp only [ref_num_Same_is _ _ hn]
  cases (a.1 == b.1) <;> cases (a.2.1 == b.2.1) <;> simp

/-- The first place whose number is not less. -/
structure IsFirst (s : Ints) (v : Int) (p : Nat) : Prop where
  le : p ≤ s.n
  lo : ∀ i, i < p → (s.g i).1 < v
  hi : p < s.n → ¬ (s.g p).1 < v
theorem IsFirst.unique {s : Ints} {v : Int} {p q : Nat} (h : IsFirst s v p) (h' : IsFirst s v q) : p = q := by
  rcases Nat.lt_trichotomy p q with hlt | he | hgt
  · exact absurd (h'.lo p hlt) (h.hi (by have := h'.le; omega))
  · exact he
  · exact absurd (h.lo q hgt) (h'.hi (by have := h.le; omega))
def Sorted (s : Ints) : Prop := ∀ i j, i < j → j < s.n → (s.g i).1 < (s.g j).1
theorem rising_all : ∀ (l : List Int) (a : Int), rising a l = true → (∀ x ∈ l, a < x ∧ fitN x = true) ∧ l.Pairwise (· < ·)
  | [], a, _ => ⟨fun x h => by simp at h, .nil⟩
  | y :: l, a, h => by
    simp only [rising, Bool.and_eq_true, Bool.not_eq_true', decide_eq_false_iff_not] at h
    obtain ⟨⟨h1, h2⟩, h3⟩ := h
    obtain ⟨h4, h5⟩ := rising_all l y h3
    refine ⟨fun x hx => ?_, List.pairwise_cons.2 ⟨fun x hx => (h4 x hx).1, h5⟩⟩
    rcases List.mem_cons.1 hx with rfl | hx
    · exact ⟨by omega, h2⟩
    · exact ⟨by have := (h4 x hx).1; omega, (h4 x hx).2⟩
theorem il_get (s : Ints) {i : Nat} (h : i < s.n) : (il s)[i]'(by rw [il_length]; exact h) = (s.g i).1 := by simp [il, toL]
theorem sorted_of {s : Ints} {a : Int} (h : rising a (il s) = true) : Sorted s := by
  intro i j hij hj
  have := List.pairwise_iff_getElem.1 (rising_all _ _ h).2 i j (by rw [il_length]; omega) (by rw [il_length]; exact hj) hij
  rwa [il_get s (by omega), il_get s hj] at this

theorem isNaN_is (x : Int) (k : Bool → Option α) : cmp_isNaN_int x k = k false := by simp [cmp_isNaN_int]
theorem isNaN_is' (x : Int) (k : Bool → Option α) : slices_isNaN_int x k = k false := by simp [slices_isNaN_int]
theorem less_is (x y : Int) (k : Bool → Option α) : cmp_Less_int x y k = k (decide (x < y)) := by simp [cmp_Less_int, cmp_Less_int_g, isNaN_is]
theorem bsearch_loop (k0 : Ints → Int → Int → Int → Option α) (s : Ints) (v x : Int) (hs : Sorted s) (hn : s.n < 4611686018427387904) : ∀ (m i j N : Nat), j - i ≤ m → i ≤ j → j ≤ s.n → m < N → (∀ a, a < i → (s.g a).1 < v) → (∀ a, j ≤ a → a < s.n → ¬ (s.g a).1 < v) →
    ∃ p, IsFirst s v p ∧ slices_BinarySearch_int_int_l0_run cmp_Less_int slices_isNaN_int k0 N s v x (i : Int) (j : Int) = k0 s v x (p : Int) := by
  intro m
  induction m with
  | zero =>
    intro i j N hij hle hj hN h1 h2
    obtain ⟨N, rfl⟩ : ∃ M, N = M + 1 := ⟨N - 1, by omega⟩
    obtain rfl : i = j := by omega
    refine ⟨i, ⟨by omega, h1, fun h => h2 i (Nat.le_refl _) h⟩, ?_⟩
    simp only [slices_BinarySearch_int_int_l0_run, slices_BinarySearch_int_int_l0_step, ltF (Int.lt_irrefl (i : Int)), cond_false]
  | succ m ih =>
    intro i j N hij hle hj hN h1 h2
    obtain ⟨N, rfl⟩ : ∃ M, N = M + 1 := ⟨N - 1, by omega⟩
    by_cases hlt : i < j
    · have h3 : (i : Int) < (j : Int) := by omega
      have hm : (i + j) / 2 < s.n := by omega
      simp only [slices_BinarySearch_int_int_l0_run, slices_BinarySearch_int_int_l0_step, ltT h3, cond_true, wrap_half (show i + j < 9223372036854775807 by omega), inb hm, toNatC, less_is, wrap_succ (show (i + j) / 2 < 9223372036854775807 by omega)]
      by_cases hc : (s.g ((i + j) / 2)).1 < v
      · simp only [decide_eq_true hc, cond_true]
        refine ih _ _ N (by omega) (by omega) hj (by omega) (fun a ha => ?_) h2
        by_cases he : a = (i + j) / 2
        · subst he; exact hc
        · have := hs a ((i + j) / 2) (by omega) hm
          omega
      · simp only [decide_eq_false hc, cond_false]
        refine ih _ _ N (by omega) (by omega) (by omega) (by omega) h1 fun a ha hb => ?_
        by_cases he : a = (i + j) / 2
        · subst he; exact hc
        · have := hs ((i + j) / 2) a (by omega) hb
          omega
    · obtain rfl : i = j := by omega
      refine ⟨i, ⟨by omega, h1, fun h => h2 i (Nat.le_refl _) h⟩, ?_⟩
      simp only [slices_BinarySearch_int_int_l0_run, slices_BinarySearch_int_int_l0_step, ltF (Int.lt_irrefl (i : Int)), cond_false]
theorem bsearch_is (s : Ints) (v : Int) (hs : Sorted s) (hn : s.n ≤ 900) {p : Nat} (hp : IsFirst s v p) (k : Int → Bool → Option α) : ∃ fd, slices_BinarySearch_int_int s v k = k (p : Int) fd := by
  unfold slices_BinarySearch_int_int slices_BinarySearch_int_int_g
  obtain ⟨q, hq, h⟩ := bsearch_loop (fun x3 x4 x5 x6 =>
      (cond (decide (x6 < x5))
        (cond ((decide ((0 : Int) ≤ x6)) && (decide (x6 < (x3.n : Int))))
          (cond (!((x3.g x6.toNat).1 == x4))
            (cond ((decide ((0 : Int) ≤ x6)) && (decide (x6 < (x3.n : Int))))
              (slices_isNaN_int ((x3.g x6.toNat).1) fun r7 =>
                (cond r7
                  (slices_isNaN_int x4 fun r8 =>
                    (k x6 r8))
                  (k x6 false)))
              none)
            (k x6 true))
          none)
        (k x6 false))) s v (s.n : Int) hs (by omega) s.n 0 s.n 1000 (by omega) (by omega) (by omega) (by omega) (fun a h => by omega) (fun a h h' => by omega)
  obtain rfl := hp.unique hq
  rw [show ((0 : Nat) : Int) = 0 from rfl] at h
  rw [h]
  by_cases hlt : p < s.n
  · have h3 : (p : Int) < (s.n : Int) := by omega
    simp only [ltT h3, nn, Bool.and_self, cond_true, isNaN_is', cond_false]
    cases ((s.g (p : Int).toNat).1 == v) <;> simp <;> exact ⟨_, rfl⟩
  · have h3 : ¬ (p : Int) < (s.n : Int) := by omega
    simp only [ltF h3, cond_false]
    exact ⟨_, rfl⟩

def tot (l : List (Ints × Unit)) : Nat := (l.map (·.1.n)).sum
def flat (l : List (Ints × Unit)) : List Int := l.flatMap fun x => il x.1
def Nil0 (s : Ints) : Prop := s.nl = true → s.n = 0
theorem concat_sum (k0 : Seq (Ints × Unit) → Int → Ints → Option α) (a : Seq (Ints × Unit)) (q : Ints) (hn : a.n < 4611686018427387904) : ∀ (m j N : Nat) (z : Nat), j + m = a.n → m < N → z + tot ((toL a).drop j) < 4611686018427387904 →
    slices_Concat_int_int_l0_run k0 N a (z : Int) a (a.n : Int) (j : Int) q = k0 a ((z + tot ((toL a).drop j) : Nat) : Int) q := by
  intro m
  induction m with
  | zero =>
    intro j N z hj hN hz
    obtain ⟨N, rfl⟩ : ∃ M, N = M + 1 := ⟨N - 1, by omega⟩
    have : ¬ ((j : Int) < (a.n : Int)) := by omega
    simp only [slices_Concat_int_int_l0_run, slices_Concat_int_int_l0_step, ltF this, cond_false, toL_end a (show a.n ≤ j by omega), tot, List.map_nil, List.sum_nil, Nat.add_zero]
  | succ m ih =>
    intro j N z hj hN hz
    obtain ⟨N, rfl⟩ : ∃ M, N = M + 1 := ⟨N - 1, by omega⟩
    have h1 : (j : Int) < (a.n : Int) := by omega
    rw [toL_drop a (show j < a.n by omega)] at hz ⊢
    simp only [tot, List.map_cons, List.sum_cons] at hz ⊢
    have hw : IntKind.i64.wrap ((z : Int) + (((a.g j).1.n : Nat) : Int)) = ((z + (a.g j).1.n : Nat) : Int) := by
      rw [wrap64 (by omega) (by omega)]; omega
    have hneg : ¬ (((z + (a.g j).1.n : Nat) : Int) < 0) := by omega
    simp only [slices_Concat_int_int_l0_run, slices_Concat_int_int_l0_step, ltT h1, nn, Bool.and_self, cond_true, toNatC, hw, ltF hneg, cond_false, wrap_succ (show j < 9223372036854775807 by omega)]
    rw [ih (j + 1) N _ (by omega) (by omega) (by simp only [tot]; omega)]
    simp only [tot, Nat.add_assoc]
def app1 (q : Ints) (x : Ints × Unit) : Ints := ⟨(q.nl && (Nat.beq x.1.n 0)), (q.n + x.1.n), (tApp q.n q.g x.1.g)⟩
theorem app1_il (q : Ints) (x : Ints × Unit) : il (app1 q x) = il q ++ il x.1 := by
  simp only [il, ← List.map_append]
  congr 1
  exact toL_app _ q.nl x.1.nl q.n x.1.n q.g x.1.g
theorem app1_nil {q : Ints} (hq : Nil0 q) (x : Ints × Unit) : Nil0 (app1 q x) := fun h => by
  simp only [app1, Bool.and_eq_true, Nat.beq_eq] at h
  have := hq h.1
  simp only [app1]
  omega
theorem foldl_il : ∀ (l : List (Ints × Unit)) (q : Ints), il (l.foldl app1 q) = il q ++ flat l
  | [], q => by simp [flat]
  | x :: l, q => by simp only [List.foldl_cons, foldl_il l, app1_il, flat, List.flatMap_cons, List.append_assoc]
theorem foldl_nil : ∀ (l : List (Ints × Unit)) (q : Ints), Nil0 q → Nil0 (l.foldl app1 q)
  | [], q, h => h
  | x :: l, q, h => foldl_nil l _ (app1_nil h x)
theorem concat_put (k2 : Ints → Ints → Ints → Option α) (a : Seq (Ints × Unit)) (q4 q5 : Ints) (hn : a.n < 4611686018427387904) : ∀ (m j N : Nat) (q : Ints), j + m = a.n → m < N → q.n + tot ((toL a).drop j) ≤ 1000000 →
    slices_Concat_int_int_l1_run k2 N a (a.n : Int) (j : Int) q4 q5 q = k2 q4 q5 (((toL a).drop j).foldl app1 q) := by
  intro m
  induction m with
  | zero =>
    intro j N q hj hN hz
    obtain ⟨N, rfl⟩ : ∃ M, N = M + 1 := ⟨N - 1, by omega⟩
    have : ¬ ((j : Int) < (a.n : Int)) := by omega
    simp only [slices_Concat_int_int_l1_run, slices_Concat_int_int_l1_step, ltF this, cond_false, toL_end a (show a.n ≤ j by omega), List.foldl_nil]
  | succ m ih =>
    intro j N q hj hN hz
    obtain ⟨N, rfl⟩ : ∃ M, N = M + 1 := ⟨N - 1, by omega⟩
    have h1 : (j : Int) < (a.n : Int) := by omega
    rw [toL_drop a (show j < a.n by omega)] at hz ⊢
    simp only [tot, List.map_cons, List.sum_cons] at hz
    have hle : decide (((q.n + (a.g j).1.n)) * 8 ≤ 140737488355328) = true := decide_eq_true (by omega)
    simp only [slices_Concat_int_int_l1_run, slices_Concat_int_int_l1_step, ltT h1, nn, Bool.and_self, cond_true, toNatC, hle, wrap_succ (show j < 9223372036854775807 by omega), List.foldl_cons]
    exact ih (j + 1) N (app1 q (a.g j)) (by omega) (by omega) (by simp only [app1, tot]; omega)
theorem concat_is (a : Seq (Ints × Unit)) (hn : a.n ≤ 900) (ht : tot (toL a) ≤ 1000000) : ∃ r, (∀ k : Ints → Option α, slices_Concat_int_int a k = k r) ∧ il r = flat (toL a) ∧ Nil0 r := by
  have h3 : ¬ (((0 + tot (toL a) : Nat) : Int) < 0) := by omega
  have hw : IntKind.i64.wrap (((0 + tot (toL a) : Nat) : Int) - 0) = ((tot (toL a) : Nat) : Int) := by
    rw [wrap64 (by omega) (by omega)]; omega
  have hsum : ∀ (k0 : Seq (Ints × Unit) → Int → Ints → Option α) q, slices_Concat_int_int_l0_run k0 1000 a 0 a (a.n : Int) 0 q = k0 a ((0 + tot (toL a) : Nat) : Int) q := by
    intro k0 q
    have := concat_sum k0 a q (by omega) a.n 0 1000 0 (by omega) (by omega) (by simp; omega)
    simpa using this
  have hput : ∀ (k2 : Ints → Ints → Ints → Option α) q4 q5 (q : Ints), q.n = 0 → slices_Concat_int_int_l1_run k2 1000 a (a.n : Int) 0 q4 q5 q = k2 q4 q5 ((toL a).foldl app1 q) := by
    intro k2 q4 q5 q hq
    have := concat_put k2 a q4 q5 (by omega) a.n 0 1000 q (by omega) (by omega) (by simp; omega)
    simpa using this
  by_cases hz : ((tot (toL a) : Nat) : Int) > 0
  · refine ⟨(toL a).foldl app1 ⟨(Nat.beq (((tot (toL a) : Nat) : Int)).toNat 0), 0, (tApp 0 (fun _ => (0, ())) (fun _ => (0, ())))⟩, fun k => ?_, by rw [foldl_il]; rfl, foldl_nil _ _ fun _ => rfl⟩
    unfold slices_Concat_int_int
    rw [hsum]
    have e1 : decide (((tot (toL a) : Nat) : Int) * 8 ≤ 140737488355328) = true := decide_eq_true (by omega)
    have e2 : decide ((0 + ((tot (toL a) : Nat) : Int).toNat) * 8 ≤ 140737488355328) = true := decide_eq_true (by omega)
    have e3 : decide ((0 : Int) ≤ (((0 + ((tot (toL a) : Nat) : Int).toNat) : Nat) : Int)) = true := decide_eq_true (by omega)
    simp only [ltF h3, cond_false, hw, decide_eq_true hz, cond_true, nn, e1, e2, e3, Bool.and_self]
    exact hput _ _ _ _ rfl
  · refine ⟨(toL a).foldl app1 ⟨true, 0, (fun _ => (0, ()))⟩, fun k => ?_, by rw [foldl_il]; rfl, foldl_nil _ _ fun _ => rfl⟩
    unfold slices_Concat_int_int
    rw [hsum]
    simp only [ltF h3, cond_false, hw, decide_eq_false hz]
    exact hput _ _ _ _ rfl
theorem clone_is (s : Ints) (hs : Nil0 s) (hn : s.n ≤ 1000000) : ∃ r, (∀ k : Ints → Option α, slices_Clone_int_int s k = k r) ∧ il r = il s := by
  cases h : s.nl with
  | true =>
    refine ⟨⟨true, 0, (fun _ => (0, ()))⟩, fun k => by simp [slices_Clone_int_int, h], ?_⟩
    have := hs h
    have e : (il s).length = 0 := by rw [il_length, this]
    rw [List.length_eq_zero_iff.1 e]; rfl
  | false =>
    refine ⟨⟨false, (0 + s.n), (tApp 0 (tSel [] (0, ())) s.g)⟩, fun k => ?_, ?_⟩
    · have e : decide (((0 + s.n)) * 8 ≤ 140737488355328) = true := decide_eq_true (by omega)
      simp only [slices_Clone_int_int, h, cond_false, e, cond_true]
    · simp only [il]
      rw [toL_app false true s.nl 0 s.n]
      rfl

/-- What is had in order goes into Low. -/
def absorb : Bool → Int → List Int → Int × List Int
  | _, low, [] => (low, [])
  | full, low, x :: l => if full || x == low + 1 then absorb false x l else (low, x :: l)
theorem il_tail (s : Ints) : il (⟨s.nl, (s.n - 1), (tShift 1 s.g)⟩ : Ints) = (il s).drop 1 := by
  simp only [il, ← List.map_drop]
  congr 1
  exact toL_shift _ s.nl s.n 1 s.g
theorem il_cons (s : Ints) (h : 0 < s.n) : il s = (s.g 0).1 :: (il s).drop 1 := by
  have := il_drop s h
  rwa [List.drop_zero] at this
def Small (l : List Int) : Prop := ∀ x ∈ l, -4611686018427387904 ≤ x ∧ x < 4611686018427387904
theorem mark_loop (x3 x4 : Box) (sv : Int) (ab : Ints) : ∀ (m N : Nat) (s : Ints) (full : Bool) (low : Int), s.n = m → m < N → Nil0 s → Small (il s) → -4611686018427387904 ≤ low → low < 4611686018427387904 →
    ∃ r low', (∀ k1 : Ints → Box → Box → Box → Option α, inbox_Mark_l0_run inbox_Fit inbox_Had slices_BinarySearch_int_int slices_Concat_int_int slices_Clone_int_int k1 N s full x3 x4 (sv, low, ab, ()) = k1 r x3 x4 (sv, low', ab, ())) ∧ (low', il r) = absorb full low (il s) ∧ Nil0 r ∧ r.n ≤ s.n := by
  intro m
  induction m with
  | zero =>
    intro N s full low hm hN hs hsm hl1 hl2
    obtain ⟨N, rfl⟩ : ∃ M, N = M + 1 := ⟨N - 1, by omega⟩
    have h1 : ¬ ((s.n : Int) > 0) := by omega
    have h2 : il s = [] := List.length_eq_zero_iff.1 (by rw [il_length, hm])
    exact ⟨s, low, fun k1 => by simp only [inbox_Mark_l0_run, inbox_Mark_l0_step, decide_eq_false h1, cond_false], by rw [h2]; rfl, hs, Nat.le_refl _⟩
  | succ m ih =>
    intro N s full low hm hN hs hsm hl1 hl2
    obtain ⟨N, rfl⟩ : ∃ M, N = M + 1 := ⟨N - 1, by omega⟩
    have h1 : (s.n : Int) > 0 := by omega
    have h3 : (0 : Int) < (s.n : Int) := by omega
    have h4 : (1 : Int) ≤ (s.n : Int) := by omega
    have hc := il_cons s (by omega)
    have hx := hsm (s.g 0).1 (by rw [hc]; simp)
    have hnil : Nil0 (⟨s.nl, (s.n - 1), (tShift 1 s.g)⟩ : Ints) := fun h => by have := hs h; omega
    obtain ⟨r, low', e1, e2, e3, e4⟩ := ih N (⟨s.nl, (s.n - 1), (tShift 1 s.g)⟩ : Ints) false (s.g 0).1 (by simp only; omega) (by omega) hnil (by rw [il_tail]; exact fun x hx => hsm x (List.mem_of_mem_drop hx)) hx.1 hx.2
    rw [il_tail] at e2
    have hw : IntKind.i64.wrap (low + 1) = low + 1 := wrap64 (by omega) (by omega)
    cases full with
    | true =>
      refine ⟨r, low', ?_, ?_, e3, by simp only at e4; omega⟩
      · intro k1
        simp only [inbox_Mark_l0_run, inbox_Mark_l0_step, decide_eq_true h1, ltT h3, decide_eq_true h4, Bool.and_self, cond_true, Bool.not_true, cond_false]
        exact e1 k1
      · rw [hc]; simp only [absorb, Bool.true_or, if_true]; exact e2
    | false =>
      by_cases he : (s.g 0).1 = low + 1
      · have heb : ((s.g 0).1 == low + 1) = true := by simpa using he
        refine ⟨r, low', ?_, ?_, e3, by simp only at e4; omega⟩
        · intro k1
          simp only [inbox_Mark_l0_run, inbox_Mark_l0_step, decide_eq_true h1, ltT h3, decide_eq_true h4, Bool.and_self, cond_true, Bool.not_false, hw, heb]
          exact e1 k1
        · rw [hc]; simp only [absorb, heb, Bool.or_true, if_true]; exact e2
      · have heb : ((s.g 0).1 == low + 1) = false := by simpa using he
        refine ⟨s, low, ?_, ?_, hs, Nat.le_refl _⟩
        · intro k1
          simp only [inbox_Mark_l0_run, inbox_Mark_l0_step, decide_eq_true h1, ltT h3, decide_eq_true h4, Bool.and_self, cond_true, Bool.not_false, hw, heb, cond_false]
        · rw [hc]; simp only [absorb, heb, Bool.or_false, Bool.false_eq_true, if_false]
theorem ref_mark_loop (x3 x4 : Box) (q : Ints) : ∀ (m N : Nat) (s : Ints) (low : Int), s.n = m → m < N → Small (il s) → -4611686018427387904 ≤ low → low < 4611686018427387904 →
    ∃ r low', (∀ k3 : Ints → Int → Box → Box → Ints → Option α, draymanref18_Mark_l1_run draymanref18_Fit draymanref18_Had k3 N s low x3 x4 q = k3 r low' x3 x4 q) ∧ (low', il r) = absorb false low (il s) := by
  intro m
  induction m with
  | zero =>
    intro N s low hm hN hsm hl1 hl2
    obtain ⟨N, rfl⟩ : ∃ M, N = M + 1 := ⟨N - 1, by omega⟩
    have h1 : ¬ ((s.n : Int) > 0) := by omega
    have h2 : il s = [] := List.length_eq_zero_iff.1 (by rw [il_length, hm])
    exact ⟨s, low, fun k3 => by simp only [draymanref18_Mark_l1_run, draymanref18_Mark_l1_step, decide_eq_false h1, cond_false], by rw [h2]; rfl⟩
  | succ m ih =>
    intro N s low hm hN hsm hl1 hl2
    obtain ⟨N, rfl⟩ : ∃ M, N = M + 1 := ⟨N - 1, by omega⟩
    have h1 : (s.n : Int) > 0 := by omega
    have h3 : (0 : Int) < (s.n : Int) := by omega
    have h4 : (1 : Int) ≤ (s.n : Int) := by omega
    have hc := il_cons s (by omega)
    have hx := hsm (s.g 0).1 (by rw [hc]; simp)
    obtain ⟨r, low', e1, e2⟩ := ih N (⟨s.nl, (s.n - 1), (tShift 1 s.g)⟩ : Ints) (s.g 0).1 (by simp only; omega) (by omega) (by rw [il_tail]; exact fun x hx => hsm x (List.mem_of_mem_drop hx)) hx.1 hx.2
    rw [il_tail] at e2
    have hw : IntKind.i64.wrap (low + 1) = low + 1 := wrap64 (by omega) (by omega)
    by_cases he : (s.g 0).1 = low + 1
    · have heb : ((s.g 0).1 == low + 1) = true := by simpa using he
      refine ⟨r, low', ?_, ?_⟩
      · intro k3
        simp only [draymanref18_Mark_l1_run, draymanref18_Mark_l1_step, decide_eq_true h1, ltT h3, decide_eq_true h4, Bool.and_self, cond_true, Bool.not_false, hw, heb]
        exact e1 k3
      · rw [hc]; simp only [absorb, heb, Bool.or_true, if_true]; exact e2
    · have heb : ((s.g 0).1 == low + 1) = false := by simpa using he
      refine ⟨s, low, ?_, ?_⟩
      · intro k3
        simp only [draymanref18_Mark_l1_run, draymanref18_Mark_l1_step, decide_eq_true h1, ltT h3, decide_eq_true h4, Bool.and_self, cond_true, Bool.not_false, hw, heb, cond_false]
      · rw [hc]; simp only [absorb, heb, Bool.or_false, Bool.false_eq_true, if_false]
theorem ref_find_loop (k1 : Int → Int → Box → Box → Ints → Option α) (v sv low : Int) (s : Ints) (x4 : Box) (q : Ints) (hn : s.n < 4611686018427387904) : ∀ (m j N : Nat), j + m = s.n → m < N → (∀ a, a < j → (s.g a).1 < v) →
    ∃ p, IsFirst s v p ∧ draymanref18_Mark_l0_run draymanref18_Fit draymanref18_Had k1 N v (j : Int) (sv, low, s, ()) x4 q = k1 v (p : Int) (sv, low, s, ()) x4 q := by
  intro m
  induction m with
  | zero =>
    intro j N hj hN h1
    obtain ⟨N, rfl⟩ : ∃ M, N = M + 1 := ⟨N - 1, by omega⟩
    have : ¬ ((j : Int) < (s.n : Int)) := by omega
    exact ⟨j, ⟨by omega, h1, fun h => by omega⟩, by simp only [draymanref18_Mark_l0_run, draymanref18_Mark_l0_step, ltF this, cond_false]⟩
  | succ m ih =>
    intro j N hj hN h1
    obtain ⟨N, rfl⟩ : ∃ M, N = M + 1 := ⟨N - 1, by omega⟩
    have h2 : (j : Int) < (s.n : Int) := by omega
    by_cases hc : (s.g j).1 < v
    · obtain ⟨p, hp, hr⟩ := ih (j + 1) N (by omega) (by omega) (fun a ha => by
        by_cases he : a = j
        · subst he; exact hc
        · exact h1 a (by omega))
      refine ⟨p, hp, ?_⟩
      simp only [draymanref18_Mark_l0_run, draymanref18_Mark_l0_step, ltT h2, nn, Bool.and_self, cond_true, toNatC, ltT hc, wrap_succ (show j < 9223372036854775807 by omega)]
      exact hr
    · exact ⟨j, ⟨by omega, h1, fun _ => hc⟩, by simp only [draymanref18_Mark_l0_run, draymanref18_Mark_l0_step, ltT h2, nn, Bool.and_self, cond_true, toNatC, ltF hc, cond_false]⟩

theorem exists_first (s : Ints) (v : Int) (hn : s.n ≤ 900) : ∃ p, IsFirst s v p := by
  obtain ⟨p, hp, _⟩ := ref_find_loop (α := Unit) (fun _ _ _ _ _ => none) v 0 0 s (0, 0, s, ()) s (by omega) s.n 0 1000 (by omega) (by omega) (fun a h => by omega)
  exact ⟨p, hp⟩
theorem small_of_fit {x : Int} (h : fitN x = true) : -4611686018427387904 ≤ x ∧ x < 4611686018427387904 := by
  simp only [fitN, Bool.and_eq_true, decide_eq_true_eq] at h; omega
theorem il_take (s : Ints) {p : Nat} (h : p ≤ s.n) (nl : Bool) : il (⟨nl, p, s.g⟩ : Ints) = (il s).take p := by
  simp only [il, ← List.map_take]
  congr 1
  exact toL_take nl s.nl s.n p s.g h
theorem il_from (s : Ints) (p : Nat) (nl : Bool) : il (⟨nl, s.n - p, tShift p s.g⟩ : Ints) = (il s).drop p := by
  simp only [il, ← List.map_drop]
  congr 1
  exact toL_shift nl s.nl s.n p s.g
theorem il_app (nl nl1 nl2 : Bool) (n m : Nat) (g h : Nat → Int × Unit) : il (⟨nl, n + m, tApp n g h⟩ : Ints) = il (⟨nl1, n, g⟩ : Ints) ++ il (⟨nl2, m, h⟩ : Ints) := by
  simp only [il, ← List.map_append]
  congr 1
  exact toL_app nl nl1 nl2 n m g h

theorem mark_both (x : Box) (id : Int) (hn : x.2.2.1.n ≤ 20) : ∃ (r r' : Box) (e : Int), (∀ k : Box → Int → Option α, inbox_Mark x id k = k r e) ∧ (∀ k : Box → Int → Option α, draymanref18_Mark x id k = k r' e) ∧ sameB r r' = true ∧ r.2.2.1.n ≤ 900 := by
  obtain ⟨sv, low, s, ⟨⟩⟩ := x
  simp only at hn
  cases hf : boxFit (sv, low, s, ()) with
  | false =>
    exact ⟨(0, 0, (⟨true, 0, (fun _ => (0, ()))⟩ : Ints), ()), (0, 0, (⟨true, 0, (fun _ => (0, ()))⟩ : Ints), ()), 12, fun k => by simp only [inbox_Mark, inbox_Mark_g, inbox_Fit_is (sv, low, s, ()) (by simp only; omega), hf, Bool.not_false, cond_true], fun k => by simp only [draymanref18_Mark, draymanref18_Mark_g, ref_Fit_is (sv, low, s, ()) (by simp only; omega), hf, Bool.not_false, cond_true], by simp [sameB], by simp⟩
  | true =>
  by_cases h1 : id < 1
  · exact ⟨(0, 0, (⟨true, 0, (fun _ => (0, ()))⟩ : Ints), ()), (0, 0, (⟨true, 0, (fun _ => (0, ()))⟩ : Ints), ()), 1, fun k => by simp only [inbox_Mark, inbox_Mark_g, inbox_Fit_is (sv, low, s, ()) (by simp only; omega), hf, Bool.not_true, cond_false, decide_eq_true h1], fun k => by simp only [draymanref18_Mark, draymanref18_Mark_g, ref_Fit_is (sv, low, s, ()) (by simp only; omega), hf, Bool.not_true, cond_false, decide_eq_true h1], by simp [sameB], by simp⟩
  by_cases h2 : id > 1099511627776
  · exact ⟨(0, 0, (⟨true, 0, (fun _ => (0, ()))⟩ : Ints), ()), (0, 0, (⟨true, 0, (fun _ => (0, ()))⟩ : Ints), ()), 1, fun k => by simp only [inbox_Mark, inbox_Mark_g, inbox_Fit_is (sv, low, s, ()) (by simp only; omega), hf, Bool.not_true, cond_false, decide_eq_false h1, Bool.not_false, cond_true, decide_eq_true h2], fun k => by simp only [draymanref18_Mark, draymanref18_Mark_g, ref_Fit_is (sv, low, s, ()) (by simp only; omega), hf, Bool.not_true, cond_false, decide_eq_false h1, Bool.not_false, cond_true, decide_eq_true h2], by simp [sameB], by simp⟩
  cases h3 : hadB (sv, low, s, ()) id with
  | true =>
    exact ⟨(0, 0, (⟨true, 0, (fun _ => (0, ()))⟩ : Ints), ()), (0, 0, (⟨true, 0, (fun _ => (0, ()))⟩ : Ints), ()), 14, fun k => by simp only [inbox_Mark, inbox_Mark_g, inbox_Fit_is (sv, low, s, ()) (by simp only; omega), inbox_Had_is (sv, low, s, ()) id (by simp only; omega), hf, h3, Bool.not_true, cond_false, decide_eq_false h1, Bool.not_false, cond_true, decide_eq_false h2], fun k => by simp only [draymanref18_Mark, draymanref18_Mark_g, ref_Fit_is (sv, low, s, ()) (by simp only; omega), ref_Had_is (sv, low, s, ()) id (by simp only; omega), hf, h3, Bool.not_true, cond_false, decide_eq_false h1, Bool.not_false, cond_true, decide_eq_false h2], by simp [sameB], by simp⟩
  | false =>
  have hf' := hf
  simp only [boxFit, Bool.and_eq_true] at hf'
  obtain ⟨⟨⟨_, hlow⟩, hris⟩, _⟩ := hf'
  have hlow := small_of_fit hlow
  have hsort := sorted_of hris
  have hall := (rising_all _ _ hris).1
  obtain ⟨p, hp⟩ := exists_first s id (by omega)
  have hpn := hp.le
  -- the list with the new number
  have hL : ∀ {l : List Int}, l = (il s).take p ++ id :: (il s).drop p → l.length = s.n + 1 ∧ Small l := by
    rintro l rfl
    refine ⟨by simp [il_length]; omega, fun y hy => ?_⟩
    simp only [List.mem_append, List.mem_cons] at hy
    rcases hy with hy | rfl | hy
    · exact small_of_fit (hall y (List.mem_of_mem_take hy)).2
    · omega
    · exact small_of_fit (hall y (List.mem_of_mem_drop hy)).2
  -- the program
  let A : Seq (Ints × Unit) := ⟨false, 3, (tSel [((⟨s.nl, ((p : Nat) : Int).toNat, s.g⟩ : Ints), ()), ((⟨false, 1, (fun _ => (id, ()))⟩ : Ints), ()), ((⟨s.nl, (s.n - ((p : Nat) : Int).toNat), (tShift ((p : Nat) : Int).toNat s.g)⟩ : Ints), ())] ((⟨true, 0, fun _ => (0, ())⟩ : Ints), ()))⟩
  have hA : toL A = [((⟨s.nl, p, s.g⟩ : Ints), ()), ((⟨false, 1, (fun _ => (id, ()))⟩ : Ints), ()), ((⟨s.nl, (s.n - p), (tShift p s.g)⟩ : Ints), ())] := rfl
  obtain ⟨c, hc1, hc2, hc3⟩ := concat_is (α := α) A (by show (3 : Nat) ≤ 900; omega) (by rw [hA]; simp only [tot, List.map_cons, List.map_nil, List.sum_cons, List.sum_nil]; omega)
  have hc2 : il c = (il s).take p ++ id :: (il s).drop p := by
    rw [hc2, hA]
    simp only [flat, List.flatMap_cons, List.flatMap_nil, List.append_nil, il_take s hpn, il_from]
    rfl
  obtain ⟨hclen, hcs⟩ := hL hc2
  rw [il_length] at hclen
  obtain ⟨r, low', hr1, hr2, hr3, hr4⟩ := mark_loop (α := α) (sv, low, s, ()) (0, 0, (⟨true, 0, (fun _ => (0, ()))⟩ : Ints), ()) sv (⟨true, 0, (fun _ => (0, ()))⟩ : Ints) c.n 1000 c (decide ((c.n : Int) > 16)) low rfl (by omega) hc3 hcs hlow.1 hlow.2
  obtain ⟨cl, hcl1, hcl2⟩ := clone_is (α := α) r hr3 (by omega)
  have hprog : ∀ k : Box → Int → Option α, inbox_Mark (sv, low, s, ()) id k = k (sv, low', cl, ()) 0 := by
    intro k
    obtain ⟨fd, hb⟩ := bsearch_is s id hsort (by omega) hp (fun r5 r6 =>
                (cond ((((decide ((0 : Int) ≤ r5)) && (decide (r5 ≤ (s.n : Int)))) && (decide (r5 = r5))) && (((decide ((0 : Int) ≤ r5)) && (decide (r5 ≤ (s.n : Int)))) && (decide (r5 = r5))))
                  (cond (((decide ((0 : Int) ≤ r5)) && (decide (r5 ≤ (s.n : Int)))) && ((decide ((0 : Int) ≤ r5)) && (decide (r5 ≤ (s.n : Int)))))
                    (slices_Concat_int_int (⟨false, 3, (tSel [((⟨s.nl, r5.toNat, s.g⟩ : Seq (Int × Unit)), ()), ((⟨false, 1, (fun _ => (id, ()))⟩ : Seq (Int × Unit)), ()), ((⟨s.nl, (s.n - r5.toNat), (tShift r5.toNat s.g)⟩ : Seq (Int × Unit)), ())] ((⟨true, 0, fun _ => (0, ())⟩ : Seq (Int × Unit)), ()))⟩ : Seq ((Seq (Int × Unit)) × Unit)) fun r7 =>
                      (inbox_Mark_l0_run inbox_Fit inbox_Had slices_BinarySearch_int_int slices_Concat_int_int slices_Clone_int_int
                        (fun x8 x9 x10 x11 =>
                          (slices_Clone_int_int x8 fun r12 =>
                            (k (x11.1, x11.2.1, r12, ()) 0)))
                        1000 r7 (decide ((r7.n : Int) > 16)) (sv, low, s, ()) (0, 0, (⟨true, 0, (fun _ => (0, ()))⟩ : Seq (Int × Unit)), ()) (sv, low, (⟨true, 0, (fun _ => (0, ()))⟩ : Seq (Int × Unit)), ())))
                    none)
                  none))
    simp only [inbox_Mark, inbox_Mark_g, inbox_Fit_is (sv, low, s, ()) (by simp only; omega), inbox_Had_is (sv, low, s, ()) id (by simp only; omega), hf, h3, Bool.not_true, cond_false, decide_eq_false h1, Bool.not_false, cond_true, decide_eq_false h2]
    simp only [eq_self] at hb
    refine hb.trans ?_
    have e1 : decide ((p : Int) ≤ (s.n : Int)) = true := decide_eq_true (by omega)
    simp only [nn, e1, Bool.and_self, cond_true, decide_true]
    refine (hc1 _).trans ?_
    refine (hr1 _).trans ?_
    exact hcl1 _
  -- the document
  let T : Nat → Int × Unit := tApp ((0 + ((p : Nat) : Int).toNat) + 1) (tApp (0 + ((p : Nat) : Int).toNat) (tApp 0 (fun _ => (0, ())) s.g) (fun _ => (id, ()))) (tShift ((p : Nat) : Int).toNat s.g)
  let n' : Nat := ((0 + ((p : Nat) : Int).toNat) + 1) + (s.n - ((p : Nat) : Int).toNat)
  let nl' : Bool := (((true && (Nat.beq ((p : Nat) : Int).toNat 0)) && false) && (Nat.beq (s.n - ((p : Nat) : Int).toNat) 0))
  have hT : il (⟨nl', n', T⟩ : Ints) = (il s).take p ++ id :: (il s).drop p := by
    rw [il_app nl' false s.nl, il_app false s.nl false, il_app s.nl true s.nl]
    simp only [toNatC]
    rw [il_take s hpn, il_from]
    simp [il, toL]
  have hT0 : (T 0).1 = ((il s).take p ++ id :: (il s).drop p).headD 0 := by
    rw [← hT, il_cons _ (by show 0 < n'; omega)]; rfl
  have hTt : ∀ nl, il (⟨nl, n' - 1, tShift 1 T⟩ : Ints) = ((il s).take p ++ id :: (il s).drop p).drop 1 := by
    intro nl
    rw [← hT]
    exact il_from (⟨nl', n', T⟩ : Ints) 1 nl
  have hn' : n' = s.n + 1 := by show ((0 + ((p : Nat) : Int).toNat) + 1) + (s.n - ((p : Nat) : Int).toNat) = _; simp only [toNatC]; omega
  obtain ⟨hLl, hLs⟩ := hL rfl
  have habs : ∃ r' low2, (∀ k : Box → Int → Option α, draymanref18_Mark (sv, low, s, ()) id k = k (sv, low2, r', ()) 0) ∧ (low2, il r') = absorb (decide ((c.n : Int) > 16)) low ((il s).take p ++ id :: (il s).drop p) := by
    have find : ∀ (k1 : Int → Int → Box → Box → Ints → Option α) x4 q, draymanref18_Mark_l0_run draymanref18_Fit draymanref18_Had k1 1000 id 0 (sv, low, s, ()) x4 q = k1 id (p : Int) (sv, low, s, ()) x4 q := by
      intro k1 x4 q
      obtain ⟨p', hp', h⟩ := ref_find_loop k1 id sv low s x4 q (by omega) s.n 0 1000 (by omega) (by omega) (fun a h => by omega)
      rw [hp'.unique hp] at h
      exact h
    by_cases hbig : ((n' : Nat) : Int) > 16
    · have hb2 : decide ((c.n : Int) > 16) = true := decide_eq_true (by omega)
      have hm0 : (T 0).1 ∈ (il s).take p ++ id :: (il s).drop p := by
        rw [hT0]
        cases hh : (il s).take p ++ id :: (il s).drop p with
        | nil => simp at hh
        | cons y l => simp
      obtain ⟨r', low2, h4, h5⟩ := ref_mark_loop (α := α) (sv, low, s, ()) (0, 0, (⟨true, 0, (fun _ => (0, ()))⟩ : Ints), ()) (⟨false, 1, (fun _ => (id, ()))⟩ : Ints) (n' - 1) 1000 (⟨nl', n' - 1, tShift 1 T⟩ : Ints) (T 0).1 rfl (by omega) (by rw [hTt]; exact fun y hy => hLs y (List.mem_of_mem_drop hy)) (hLs _ hm0).1 (hLs _ hm0).2
      refine ⟨r', low2, fun k => ?_, ?_⟩
      · simp only [draymanref18_Mark, draymanref18_Mark_g, ref_Fit_is (sv, low, s, ()) (by simp only; omega), ref_Had_is (sv, low, s, ()) id (by simp only; omega), hf, h3, Bool.not_true, cond_false, decide_eq_false h1, Bool.not_false, cond_true, decide_eq_false h2, find]
        have e1 : decide ((p : Int) ≤ (s.n : Int)) = true := decide_eq_true (by omega)
        have e2 : decide (((0 + ((p : Nat) : Int).toNat)) * 8 ≤ 140737488355328) = true := decide_eq_true (by simp only [toNatC]; omega)
        have e3 : decide ((((0 + ((p : Nat) : Int).toNat) + 1)) * 8 ≤ 140737488355328) = true := decide_eq_true (by simp only [toNatC]; omega)
        have e4 : decide (n' * 8 ≤ 140737488355328) = true := decide_eq_true (by omega)
        have e5 : decide ((0 : Int) < ((n' : Nat) : Int)) = true := decide_eq_true (by omega)
        have e6 : Nat.blt 0 n' = true := by rw [Nat.blt_eq]; omega
        have e7 : decide ((1 : Int) ≤ ((n' : Nat) : Int)) = true := decide_eq_true (by omega)
        rw [nn, e1, e2, e3]
        show cond (decide (n' * 8 ≤ 140737488355328)) (cond (decide (((n' : Nat) : Int) > 16)) (cond (decide ((0 : Int) < ((n' : Nat) : Int))) (cond (Nat.blt 0 n') (cond (decide ((1 : Int) ≤ ((n' : Nat) : Int))) _ none) none) none) _) none = _
        rw [e4, decide_eq_true hbig, e5, e6, e7]
        exact h4 _
      · rw [hb2, h5, hTt, hT0]
        cases hh : (il s).take p ++ id :: (il s).drop p with
        | nil => simp at hh
        | cons y l => simp only [List.drop_succ_cons, List.drop_zero, List.headD_cons, absorb, Bool.true_or, if_true]
    · have hb2 : decide ((c.n : Int) > 16) = false := decide_eq_false (by omega)
      obtain ⟨r', low2, h4, h5⟩ := ref_mark_loop (α := α) (sv, low, s, ()) (0, 0, (⟨true, 0, (fun _ => (0, ()))⟩ : Ints), ()) (⟨false, 1, (fun _ => (id, ()))⟩ : Ints) n' 1000 (⟨nl', n', T⟩ : Ints) low rfl (by omega) (by rw [hT]; exact hLs) hlow.1 hlow.2
      refine ⟨r', low2, fun k => ?_, ?_⟩
      · simp only [draymanref18_Mark, draymanref18_Mark_g, ref_Fit_is (sv, low, s, ()) (by simp only; omega), ref_Had_is (sv, low, s, ()) id (by simp only; omega), hf, h3, Bool.not_true, cond_false, decide_eq_false h1, Bool.not_false, cond_true, decide_eq_false h2, find]
        have e1 : decide ((p : Int) ≤ (s.n : Int)) = true := decide_eq_true (by omega)
        have e2 : decide (((0 + ((p : Nat) : Int).toNat)) * 8 ≤ 140737488355328) = true := decide_eq_true (by simp only [toNatC]; omega)
        have e3 : decide ((((0 + ((p : Nat) : Int).toNat) + 1)) * 8 ≤ 140737488355328) = true := decide_eq_true (by simp only [toNatC]; omega)
        have e4 : decide (n' * 8 ≤ 140737488355328) = true := decide_eq_true (by omega)
        rw [nn, e1, e2, e3]
        show cond (decide (n' * 8 ≤ 140737488355328)) (cond (decide (((n' : Nat) : Int) > 16)) _ _) none = _
        rw [e4, decide_eq_false hbig]
        exact h4 _
      · rw [hb2, h5, hT]
  obtain ⟨r', low2, h5, h6⟩ := habs
  have h7 : (low', il r) = (low2, il r') := by rw [hr2, h6, hc2]
  simp only [Prod.mk.injEq] at h7
  have hcn : cl.n ≤ 900 := by
    have := il_length cl
    rw [hcl2, il_length] at this
    omega
  exact ⟨_, _, 0, hprog, h5, by simp [sameB, h7.1, hcl2, h7.2], hcn⟩

theorem awake_is (k : Bool → Option α) : draymanlaw18_awake k = k true := by kernel_rfl

theorem InboxTells_true (x0 : Tup (.int .i64 (.int .i64 (.sl (.int .i64 (.nil)) (.nil))))) (x1 : Tup (.int .i64 (.int .i64 (.sl (.int .i64 (.nil)) (.nil))))) (x2 : Tup (.int .i64 (.nil))) (o0 : OkT (.int .i64 (.int .i64 (.sl (.int .i64 (.nil)) (.nil)))) x0) (o1 : OkT (.int .i64 (.int .i64 (.sl (.int .i64 (.nil)) (.nil)))) x1) (o2 : OkT (.int .i64 (.nil)) x2) (k : Bool → Option Unit) : draymanlaw18_InboxTells x0 x1 x2.1 k = k true := by
  obtain ⟨id, ⟨⟩⟩ := x2
  show draymanlaw18_InboxTells x0 x1 id k = k true
  have hx0 : Box := x0
  unfold draymanlaw18_InboxTells draymanlaw18_InboxTells_g
  simp only [awake_is]
  by_cases h0 : ((x0.2.2.1.n : Nat) : Int) > 20
  · simp only [decide_eq_true h0, Bool.not_true, cond_false]
  by_cases h1 : ((x1.2.2.1.n : Nat) : Int) > 20
  · simp only [decide_eq_false h0, decide_eq_true h1, Bool.not_false, cond_true]
  obtain ⟨r, r', e, hr, hr', hs, hn⟩ := mark_both (α := Unit) x0 id (by omega)
  simp only [decide_eq_false h0, decide_eq_false h1, Bool.not_false, cond_true, cond_false, hr, hr', inbox_Fit_is x0 (by omega), ref_Fit_is x0 (by omega), inbox_Had_is x0 id (by omega), ref_Had_is x0 id (by omega), beq_self_eq_true, ref_Same_is r r' hn, hs, inbox_Same_is x0 x1 (by omega), ref_Same_is x0 x1 (by omega)]
  simp only [inbox_New]
  rw [ref_Same_is _ _ (by simp)]
  simp [sameB]
end Go.Rv.Try
