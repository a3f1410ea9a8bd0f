/- Holds, fourth part: found, summed, due; the chapter's example. -/
import Derived.Test.YtmoeohjaafpmgaaDoorE3
import Derived.Test.YtmoeohjaafpmgaaDoorPureHoldLib3
set_option linter.unusedVariables false
set_option linter.unusedSimpArgs false
namespace Go.Rv.Tryd
open Go Go.Rv
variable {α : Type}
/-! ### Found -/
def findS (l : List Hm) (id : Int) : Hm × Bool := match l.find? (fun x => x.1 == id) with | some h => (h, true) | none => ((0, [], 0), false)
theorem find_map (q : Seq Hd) (id : Int) : (mHs q).find? (fun x => x.1 == id) = ((toL q).find? fun h => h.1 == id).map mH := by
  rw [mHs, List.find?_map]; rfl
theorem idx_find {q : Seq Hd} {id : Int} (h : (mHs q).any (fun x => x.1 == id) = true) : ∃ j : Nat, idxFrom (fun x : Hm => x.1 == id) 0 (mHs q) = (j : Int) ∧ j < q.n ∧ (mHs q).find? (fun x => x.1 == id) = some (mH (q.g j)) := by
  obtain ⟨j, h1, h2, h3, h4⟩ := idx_pos h
  rw [mHs_length] at h2
  refine ⟨j, h1, h2, ?_⟩
  rw [mHs_drop q h2] at h4
  generalize (mHs q).drop (j + 1) = t at h4
  generalize mHs q = l at h h4
  clear h1 h2 h3
  induction l with
  | nil => cases h
  | cons x l ih =>
    rw [List.find?_cons]
    rw [List.dropWhile_cons] at h4
    rw [List.any_cons] at h
    cases hx : x.1 == id with
    | true =>
      rw [hx, Bool.not_true, if_neg (by decide), List.cons.injEq] at h4
      rw [h4.1]
    | false =>
      rw [hx, Bool.not_false, if_pos rfl] at h4
      rw [hx, Bool.false_or] at h
      exact ih h h4
theorem find_none {l : List Hm} {id : Int} (h : l.any (fun x => x.1 == id) = false) : l.find? (fun x => x.1 == id) = none := by
  rw [List.find?_eq_none]
  rw [List.any_eq_false] at h
  exact h
theorem Find_is {q : Seq Hd} {id : Int} (hs : SmH (mHs q)) (h0 : N0 q) : ∃ r : Hd, (∀ k : Hd → Bool → Option α, holds_Find q id k = k r (findS (mHs q) id).2) ∧ mH r = (findS (mHs q) id).1 ∧ r.2.1.n < 900 := by
  obtain ⟨hn, hm⟩ := SmH_mem hs
  unfold holds_Find holds_Find_g findS
  simp only [index_id_is q _ (by omega : q.n < 900)]
  cases hany : (mHs q).any (fun x => x.1 == id) with
  | false =>
    refine ⟨zH, fun k => ?_, ?_, by decide⟩
    · rw [cT ((idxFrom_neg (i := 0)).2 hany), find_none hany]
    · rw [find_none hany]; rfl
  | true =>
    obtain ⟨j, h1, h2, h3⟩ := idx_find hany
    obtain ⟨o, ho1, ho2, _⟩ := own_is (α := α) (h0 j h2) (hm j h2)
    refine ⟨((q.g j).1, o, (q.g j).2.2.1, ()), fun k => ?_, ?_, ?_⟩
    · rw [h1, cF (by omega), inb h2, cond_true, toNatC, ho1, h3]
    · rw [h3]; show ((q.g j).1, toL o, (q.g j).2.2.1) = _; rw [ho2]; rfl
    · have := (SmL_mem (hm j h2)).1
      show o.n < 900
      rw [← toL_length, ho2, toL_length]; omega
theorem ref_Find_is {q : Seq Hd} {id : Int} (hs : SmH (mHs q)) : ∃ r : Hd, (∀ k : Hd → Bool → Option α, draymanref13_Find q id k = k r (findS (mHs q) id).2) ∧ mH r = (findS (mHs q) id).1 ∧ r.2.1.n < 900 := by
  obtain ⟨hn, hm⟩ := SmH_mem hs
  unfold findS
  rw [find_map]
  simp only [ref13_Find_is q _ (by omega : q.n < 900)]
  cases hf : (toL q).find? (fun x => x.1 == id) with
  | none => exact ⟨zH, fun k => rfl, rfl, by decide⟩
  | some x =>
    obtain ⟨i, hi, e⟩ := find_mem hf
    refine ⟨x, fun k => rfl, rfl, ?_⟩
    have := (SmL_mem (hm i hi)).1
    rw [← e]; omega
/-! ### Summed -/
def ofS (l : List Ln) (s : ByteArray) : Int := match l.find? (fun x => x.1.toList == s.toList) with | some x => x.2.1 | none => 0
theorem index_line_loop (k : Int → ByteArray → Option α) (q : Seq Ln) (s : ByteArray) (hn : q.n < 900) : ∀ (n i : Nat), q.n - i < n →
    slices_IndexFunc_api_Line_api_Line_l0_run lines_Of_1 (fun x9 x10 => k x9 x10) (fun x11 => k (-1) x11) n q (q.n : Int) (i : Int) s = k (idxFrom (fun x : Ln => x.1.toList == s.toList) i ((toL q).drop i)) s := by
  intro n
  induction n with
  | zero => intro i hi; omega
  | succ n ih =>
    intro i hi
    unfold slices_IndexFunc_api_Line_api_Line_l0_run slices_IndexFunc_api_Line_api_Line_l0_step
    by_cases hl : i < q.n
    · rw [cT (by omega), inb hl, cond_true, toNatC, toL_drop q hl]
      show cond ((q.g i).1.toList == s.toList) _ _ = _
      cases h : (q.g i).1.toList == s.toList with
      | true => rw [idxFrom_T (p := fun x : Ln => x.1.toList == s.toList) h]; rfl
      | false =>
        rw [idxFrom_F (p := fun x : Ln => x.1.toList == s.toList) h, wrap_succ (by omega)]
        exact ih (i + 1) (by omega)
    · rw [cF (by omega), toL_end q (by omega)]; rfl
theorem lines_Of_is {q : Seq Ln} (hn : q.n < 900) (s : ByteArray) (k : Int → Option α) : lines_Of q s k = k (ofS (toL q) s) := by
  unfold lines_Of lines_Of_g slices_IndexFunc_api_Line_api_Line slices_IndexFunc_api_Line_api_Line_g ofS
  have := fun k => index_line_loop (α := α) k q s hn 1000 0 (by omega)
  rw [List.drop_zero] at this
  refine (this _).trans ?_
  cases hany : (toL q).any (fun x : Ln => x.1.toList == s.toList) with
  | false =>
    rw [cT ((idxFrom_neg (i := 0)).2 hany), List.find?_eq_none.2 (by rw [List.any_eq_false] at hany; exact hany)]
  | true =>
    obtain ⟨j, h1, h2, h3, h4⟩ := idx_pos hany
    rw [toL_length] at h2
    rw [h1, cF (by omega), inb h2, cond_true, toNatC]
    rw [toL_drop q h2] at h4
    have : (toL q).find? (fun x => x.1.toList == s.toList) = some (q.g j) := by
      generalize (toL q).drop (j + 1) = t at h4
      generalize toL q = l at hany h4
      clear h1 h2 h3
      induction l with
      | nil => cases hany
      | cons x l ih =>
        rw [List.find?_cons]
        rw [List.dropWhile_cons] at h4
        rw [List.any_cons] at hany
        cases hx : x.1.toList == s.toList with
        | true =>
          rw [hx, Bool.not_true, if_neg (by decide), List.cons.injEq] at h4
          rw [h4.1]
        | false =>
          rw [hx, Bool.not_false, if_pos rfl] at h4
          rw [hx, Bool.false_or] at hany
          exact ih hany h4
    rw [this]
theorem ref11_Of_loop (k : Int → Option α) (q : Seq Ln) (s : ByteArray) (hn : q.n < 900) : ∀ (n i : Nat), q.n - i < n →
    draymanref11_Of_l0_run (fun x => k x) (k 0) n q s (i : Int) = k (ofS ((toL q).drop i) s) := by
  intro n
  induction n with
  | zero => intro i hi; omega
  | succ n ih =>
    intro i hi
    unfold draymanref11_Of_l0_run draymanref11_Of_l0_step
    by_cases hl : i < q.n
    · rw [cT (by omega), inb hl, cond_true, toNatC, toL_drop q hl]
      unfold ofS
      rw [List.find?_cons]
      cases h : (q.g i).1.toList == s.toList with
      | true => rfl
      | false => rw [wrap_succ (by omega)]; exact ih (i + 1) (by omega)
    · rw [cF (by omega), toL_end q (by omega)]; rfl
theorem ref11_Of_is {q : Seq Ln} (hn : q.n < 900) (s : ByteArray) (k : Int → Option α) : draymanref11_Of q s k = k (ofS (toL q) s) :=
  ref11_Of_loop k q s hn 1000 0 (by omega)
def sumS (s : ByteArray) : Int → List Hm → Int
  | n, [] => n
  | n, h :: l => sumS s (IntKind.i64.wrap (n + ofS h.2.1 s)) l
def totS (l : List Hm) (s : ByteArray) : Int := if holdsFit l then sumS s 0 l else 0
theorem Total_loop (k : Int → Option α) (q : Seq Hd) (s : ByteArray) (hs : SmH (mHs q)) : ∀ (n i : Nat) (z : Int), q.n - i < n →
    holds_Total_l0_run holds_Fit lines_Of (fun x => k x) n s z q (q.n : Int) (i : Int) = k (sumS s z ((mHs q).drop i)) := by
  obtain ⟨hn, hm⟩ := SmH_mem hs
  intro n
  induction n with
  | zero => intro i z hi; omega
  | succ n ih =>
    intro i z hi
    unfold holds_Total_l0_run holds_Total_l0_step
    by_cases hl : i < q.n
    · rw [cT (by omega), inb hl, cond_true, toNatC, mHs_drop q hl, lines_Of_is (by have := (SmL_mem (hm i hl)).1; omega), wrap_succ (by omega)]
      exact ih (i + 1) _ (by omega)
    · rw [cF (by omega), mHs_end q (by omega)]; rfl
theorem Total_is {q : Seq Hd} (hs : SmH (mHs q)) (s : ByteArray) (k : Int → Option α) : holds_Total q s k = k (totS (mHs q) s) := by
  unfold holds_Total holds_Total_g totS
  rw [holds_Fit_is hs]
  cases holdsFit (mHs q) with
  | false => rfl
  | true => exact Total_loop k q s hs 1000 0 0 (by have := (SmH_mem hs).1; omega)
theorem ref_Total_loop (k : Int → Option α) (q : Seq Hd) (s : ByteArray) (hs : SmH (mHs q)) (hf : holdsFit (mHs q) = true) : ∀ (n i : Nat) (z : Int), q.n - i < n →
    draymanref13_Total_l0_run draymanref13_Fit draymanref11_Of (fun x => k x) n q s z (i : Int) = k (sumS s z ((mHs q).drop i)) := by
  obtain ⟨hn, hm⟩ := SmH_mem hs
  intro n
  induction n with
  | zero => intro i z hi; omega
  | succ n ih =>
    intro i z hi
    unfold draymanref13_Total_l0_run draymanref13_Total_l0_step
    by_cases hl : i < q.n
    · rw [cT (by omega), ref13_Fit_is hs, hf, cond_true, inb hl, cond_true, toNatC, mHs_drop q hl, ref11_Of_is (by have := (SmL_mem (hm i hl)).1; omega), wrap_succ (by omega)]
      exact ih (i + 1) _ (by omega)
    · rw [cF (by omega), mHs_end q (by omega)]; rfl
theorem ref_Total_is {q : Seq Hd} (hs : SmH (mHs q)) (s : ByteArray) (k : Int → Option α) : draymanref13_Total q s k = k (totS (mHs q) s) := by
  unfold draymanref13_Total draymanref13_Total_g totS
  cases hf : holdsFit (mHs q) with
  | true => exact ref_Total_loop k q s hs hf 1000 0 0 (by have := (SmH_mem hs).1; omega)
  | false =>
    unfold draymanref13_Total_l0_run draymanref13_Total_l0_step
    rw [ref13_Fit_is hs, hf]
    by_cases h : (0 : Int) < (q.n : Int)
    · rw [cT h]; rfl
    · rw [cF h]; rfl
/-! ### Due -/
def dueS (l : List Hm) (now : Int) : List In := (l.filter fun x => x.2.2 != 0 && decide (x.2.2 ≤ now)).map fun x => (x.1, ())
theorem due_cons (x : Hm) (l : List Hm) (now : Int) : dueS (x :: l) now = cond (x.2.2 != 0 && decide (x.2.2 ≤ now)) ((x.1, ()) :: dueS l now) (dueS l now) := by
  unfold dueS
  rw [List.filter_cons]
  cases x.2.2 != 0 && decide (x.2.2 ≤ now) <;> rfl
theorem Due_loop (q : Seq Hd) (now : Int) (a : Seq In) (hn : q.n < 900) : ∀ (n i : Nat) (c : Seq In), q.n - i < n → c.n ≤ i →
    ∃ r : Seq In, (∀ k0 : Seq In → Seq In → Option α, holds_Due_l0_run k0 n now q (q.n : Int) (i : Int) a c = k0 a r) ∧ toL r = toL c ++ dueS ((mHs q).drop i) now ∧ r.n ≤ i + (q.n - i) := by
  intro n
  induction n with
  | zero => intro i c hi; omega
  | succ n ih =>
    intro i c hi hc
    unfold holds_Due_l0_run holds_Due_l0_step
    by_cases hl : i < q.n
    · rw [mHs_drop q hl, due_cons]
      have d1 : decide ((c.n + 1) * 8 ≤ 140737488355328) = true := decide_eq_true (by omega)
      have hlt : decide ((i : Int) < (q.n : Int)) = true := decide_eq_true (by omega)
      show ∃ r : Seq In, _ ∧ _ = _ ++ cond ((q.g i).2.2.1 != 0 && decide ((q.g i).2.2.1 ≤ now)) (((q.g i).1, ()) :: _) _ ∧ _
      cases h1 : (q.g i).2.2.1 != 0 with
      | false =>
        obtain ⟨r, h2, h3, h4⟩ := ih (i + 1) c (by omega) (by omega)
        refine ⟨r, fun k0 => ?_, h3, by omega⟩
        simp only [hlt, nn, Bool.and_self, cond_true, toNatC, h1, cond_false, wrap_succ (show i < 9223372036854775807 by omega)]
        exact h2 k0
      | true =>
        cases h5 : decide ((q.g i).2.2.1 ≤ now) with
        | false =>
          obtain ⟨r, h2, h3, h4⟩ := ih (i + 1) c (by omega) (by omega)
          refine ⟨r, fun k0 => ?_, h3, by omega⟩
          simp only [hlt, nn, Bool.and_self, cond_true, toNatC, h1, h5, cond_false, wrap_succ (show i < 9223372036854775807 by omega)]
          exact h2 k0
        | true =>
          obtain ⟨r, h2, h3, h4⟩ := ih (i + 1) (⟨(c.nl && false), (c.n + 1), (tApp c.n c.g (fun _ => ((q.g i).1, ())))⟩ : Seq In) (by omega) (by show c.n + 1 ≤ i + 1; omega)
          refine ⟨r, fun k0 => ?_, ?_, by omega⟩
          · simp only [hlt, nn, Bool.and_self, cond_true, toNatC, h1, h5, d1, wrap_succ (show i < 9223372036854775807 by omega)]
            exact h2 k0
          · rw [h3, toL_app _ c.nl true, List.append_assoc]; rfl
    · refine ⟨c, fun k0 => cF (by omega), ?_, by omega⟩
      rw [mHs_end q (by omega)]; simp [dueS]
theorem Due_is {q : Seq Hd} (hs : SmH (mHs q)) (now : Int) : ∃ r : Seq In, (∀ k : Seq In → Option α, holds_Due q now k = k r) ∧ toL r = dueS (mHs q) now ∧ r.n < 900 := by
  obtain ⟨hn, hm⟩ := SmH_mem hs
  obtain ⟨r, h1, h2, h3⟩ := Due_loop (α := α) q now (⟨true, 0, (fun _ => (0, ()))⟩ : Seq In) (by omega) 1000 0 (⟨true, 0, (fun _ => (0, ()))⟩ : Seq In) (by omega) (Nat.le_refl _)
  exact ⟨r, fun k => h1 _, by rw [h2]; rfl, by omega⟩
theorem ref_Due_loop (q : Seq Hd) (now : Int) (a : Seq In) (hn : q.n < 900) : ∀ (n i : Nat) (c : Seq In), q.n - i < n → c.n ≤ i →
    ∃ r : Seq In, (∀ k0 : Seq In → Seq In → Option α, draymanref13_Due_l0_run k0 n q now (i : Int) a c = k0 a r) ∧ toL r = toL c ++ dueS ((mHs q).drop i) now ∧ r.n ≤ i + (q.n - i) := by
  intro n
  induction n with
  | zero => intro i c hi; omega
  | succ n ih =>
    intro i c hi hc
    unfold draymanref13_Due_l0_run draymanref13_Due_l0_step
    by_cases hl : i < q.n
    · rw [mHs_drop q hl, due_cons]
      have d1 : decide ((c.n + 1) * 8 ≤ 140737488355328) = true := decide_eq_true (by omega)
      have hlt : decide ((i : Int) < (q.n : Int)) = true := decide_eq_true (by omega)
      show ∃ r : Seq In, _ ∧ _ = _ ++ cond ((q.g i).2.2.1 != 0 && decide ((q.g i).2.2.1 ≤ now)) (((q.g i).1, ()) :: _) _ ∧ _
      cases h1 : (q.g i).2.2.1 != 0 with
      | false =>
        obtain ⟨r, h2, h3, h4⟩ := ih (i + 1) c (by omega) (by omega)
        refine ⟨r, fun k0 => ?_, h3, by omega⟩
        simp only [hlt, nn, Bool.and_self, cond_true, toNatC, h1, cond_false, wrap_succ (show i < 9223372036854775807 by omega)]
        exact h2 k0
      | true =>
        cases h5 : decide ((q.g i).2.2.1 ≤ now) with
        | false =>
          obtain ⟨r, h2, h3, h4⟩ := ih (i + 1) c (by omega) (by omega)
          refine ⟨r, fun k0 => ?_, h3, by omega⟩
          simp only [hlt, nn, Bool.and_self, cond_true, toNatC, h1, h5, cond_false, wrap_succ (show i < 9223372036854775807 by omega)]
          exact h2 k0
        | true =>
          obtain ⟨r, h2, h3, h4⟩ := ih (i + 1) (⟨(c.nl && false), (c.n + 1), (tApp c.n c.g (fun _ => ((q.g i).1, ())))⟩ : Seq In) (by omega) (by show c.n + 1 ≤ i + 1; omega)
          refine ⟨r, fun k0 => ?_, ?_, by omega⟩
          · simp only [hlt, nn, Bool.and_self, cond_true, toNatC, h1, h5, d1, wrap_succ (show i < 9223372036854775807 by omega)]
            exact h2 k0
          · rw [h3, toL_app _ c.nl true, List.append_assoc]; rfl
    · refine ⟨c, fun k0 => cF (by omega), ?_, by omega⟩
      rw [mHs_end q (by omega)]; simp [dueS]
theorem ref_Due_is {q : Seq Hd} (hs : SmH (mHs q)) (now : Int) : ∃ r : Seq In, (∀ k : Seq In → Option α, draymanref13_Due q now k = k r) ∧ toL r = dueS (mHs q) now ∧ r.n < 900 := by
  obtain ⟨hn, hm⟩ := SmH_mem hs
  obtain ⟨r, h1, h2, h3⟩ := ref_Due_loop (α := α) q now (⟨true, 0, (fun _ => (0, ()))⟩ : Seq In) (by omega) 1000 0 (⟨true, 0, (fun _ => (0, ()))⟩ : Seq In) (by omega) (Nat.le_refl _)
  exact ⟨r, fun k => h1 _, by rw [h2]; rfl, by omega⟩
/-! ### The chapter's example -/
def teaH : ByteArray := ⟨#[116, 101, 97]⟩
theorem awake13_is (k : Bool → Option α) : draymanlaw13_awake k = k true := by
  unfold draymanlaw13_awake draymanlaw13_awake_g
  have s0 : SmH (mHs zHs) := ⟨by decide, fun h hh => by cases hh⟩
  let h1 : Hd := (1, (⟨false, 1, (fun _ => (teaH, 3, ()))⟩ : Seq Ln), 5, ())
  let h2 : Hd := (1, (⟨false, 1, (fun _ => (teaH, 3, ()))⟩ : Seq Ln), 0, ())
  have sl : SmL [(teaH, 3, ())] := ⟨by decide, fun x hx => by rw [List.mem_singleton] at hx; subst hx; decide⟩
  have p1 : putS [] (1, [(teaH, 3, ())], 5) = (0, [(1, [(teaH, 3, ())], 5)]) := by kernel_rfl
  have p2 : putS [(1, [(teaH, 3, ())], 5)] (1, [(teaH, 3, ())], 0) = (3, []) := by kernel_rfl
  have p3 : totS [(1, [(teaH, 3, ())], 5)] teaH = 3 := by decide +kernel
  obtain ⟨r2, a1, a2⟩ := Put_is (α := α) (q := zHs) (h := h1) s0 sl (fun h => by cases h)
  have a3 : putS (mHs zHs) (mH h1) = (0, [(1, [(teaH, 3, ())], 5)]) := p1
  rw [a3] at a2
  have s2 : SmH (mHs r2) := by rw [a2]; exact ⟨by show 1 ≤ 20; omega, fun h hh => by rw [List.mem_singleton] at hh; subst hh; exact sl⟩
  obtain ⟨r4, b1, b2⟩ := Put_is (α := α) (q := r2) (h := h2) s2 sl (fun h => by cases h)
  obtain ⟨d1, e1, e2, e3⟩ := Due_is (α := α) s2 5
  obtain ⟨d2, f1, f2, f3⟩ := Due_is (α := α) s2 4
  have hput : ∀ k : Int → Seq Hd → Option α, holds_Put zHs h1 k = k 0 r2 := fun k => by rw [a1 k, a3]
  have hput2 : ∀ k : Int → Seq Hd → Option α, holds_Put r2 h2 k = k 3 r4 := fun k => by rw [b1 k, a2]; exact congrArg (fun z => k z r4) (congrArg Prod.fst p2)
  refine (hput _).trans ?_
  refine (hput2 _).trans ?_
  show holds_Total r2 teaH _ = _
  rw [Total_is s2, a2, p3]
  show holds_Due r2 5 _ = _
  rw [e1]
  have e4 : toL d1 = [(1, ())] := by rw [e2, a2]; decide
  rw [ref01_Same_is e3, e4]
  show holds_Due r2 4 _ = _
  have f4 : d2.n = 0 := by rw [← toL_length, f2, a2]; decide
  rw [f1, f4]
  show holds_Fit zHs _ = _
  rw [holds_Fit_is s0]
  rfl
end Go.Rv.Tryd
