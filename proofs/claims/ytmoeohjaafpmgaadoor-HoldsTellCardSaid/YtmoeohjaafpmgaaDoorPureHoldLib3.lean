/- Holds, third part: the document's put and drop; comparisons, sums, what is due; the chapter's example. -/
import Derived.Test.YtmoeohjaafpmgaaDoorE3
import Derived.Test.YtmoeohjaafpmgaaDoorPureHoldLib2
set_option linter.unusedVariables false
set_option linter.unusedSimpArgs false
namespace Go.Rv.Tryd
open Go Go.Rv
variable {α : Type}
theorem any_find (q : Seq Hd) (id : Int) : (mHs q).any (fun x => x.1 == id) = ((toL q).find? fun h => h.1 == id).isSome := by
  rw [mHs, List.any_map]
  generalize toL q = l
  induction l with
  | nil => rfl
  | cons x l ih =>
    rw [List.any_cons, ih, List.find?_cons]
    show (x.1 == id || _) = _
    cases x.1 == id <;> rfl
/-! ### The document's put -/
theorem ref13_Put_loop (k0 : Seq Hd → Int → Hd → Seq Hd → Hd → Seq Hd → Option α) (q : Seq Hd) (h : Hd) (a : Seq Hd) (b : Hd) (c : Seq Hd) (hn : q.n < 900) : ∀ (n i : Nat), q.n - i < n → i ≤ q.n →
    ∃ j : Nat, j = i + (((mHs q).drop i).takeWhile fun x => decide (x.1 < h.1)).length ∧ j ≤ q.n ∧ draymanref13_Put_l0_run draymanref13_Fit draymanref13_One draymanref13_Find k0 n q (i : Int) h a b c = k0 q (j : Int) h a b c := by
  intro n
  induction n with
  | zero => intro i hi; omega
  | succ n ih =>
    intro i hi hle
    unfold draymanref13_Put_l0_run draymanref13_Put_l0_step
    by_cases hl : i < q.n
    · rw [cT (by omega)]
      simp only [inb hl, Bool.and_self, cond_true, toNatC]
      rw [mHs_drop q hl, List.takeWhile_cons]
      by_cases hh : (q.g i).1 < h.1
      · obtain ⟨j, h1, h2, h3⟩ := ih (i + 1) (by omega) (by omega)
        refine ⟨j, ?_, h2, ?_⟩
        · rw [if_pos (show decide ((mH (q.g i)).1 < h.1) = true from decide_eq_true hh), List.length_cons, h1]; omega
        · rw [cT hh, wrap_succ (by omega)]; exact h3
      · refine ⟨i, ?_, hle, cF hh⟩
        rw [if_neg (show ¬ decide ((mH (q.g i)).1 < h.1) = true by rw [decide_eq_false (show ¬ (mH (q.g i)).1 < h.1 from hh)]; decide)]; rfl
    · refine ⟨i, ?_, hle, cF (by omega)⟩
      rw [mHs_end q (by omega)]; rfl
theorem tw_len_take {β : Type} (p : β → Bool) (l : List β) : l.take (l.takeWhile p).length = l.takeWhile p ∧ l.drop (l.takeWhile p).length = l.dropWhile p := by
  have := List.takeWhile_append_dropWhile (p := p) (l := l)
  exact ⟨(congrArg (List.take _) this.symm).trans (List.take_left' rfl), (congrArg (List.drop _) this.symm).trans (List.drop_left' rfl)⟩
theorem tw_congr {β : Type} {p p' : β → Bool} : ∀ {l : List β}, (∀ x ∈ l, p x = p' x) → l.takeWhile p = l.takeWhile p' ∧ l.dropWhile p = l.dropWhile p'
  | [], _ => ⟨rfl, rfl⟩
  | x :: l, h => by
    have h1 := h x (List.mem_cons_self ..)
    have h2 := tw_congr (l := l) fun y hy => h y (List.mem_cons_of_mem _ hy)
    simp only [List.takeWhile_cons, List.dropWhile_cons, h1, h2.1, h2.2, and_self]
theorem ref13_Put_is {q : Seq Hd} {h : Hd} (hs : SmH (mHs q)) (hh : SmL (toL h.2.1)) : ∃ r : Seq Hd, (∀ k : Int → Seq Hd → Option α, draymanref13_Put q h k = k (putS (mHs q) (mH h)).1 r) ∧ mHs r = (putS (mHs q) (mH h)).2 := by
  have hn := (SmH_mem hs).1
  unfold draymanref13_Put draymanref13_Put_g putS
  simp only [ref13_Fit_is hs, ref13_One_is hh, ref13_Find_is q _ (by omega : q.n < 900)]
  cases holdsFit (mHs q) with
  | false => exact ⟨zHs, fun k => rfl, rfl⟩
  | true =>
    cases holdOk (mH h) with
    | false => exact ⟨zHs, fun k => rfl, rfl⟩
    | true =>
      simp only [Bool.not_true, cond_false, Bool.true_eq_false, if_false]
      rw [any_find]
      cases hf : (toL q).find? (fun x => x.1 == h.1) with
      | some x => 
        refine ⟨zHs, fun k => ?_, ?_⟩
        · rw [show ((toL q).find? fun x => x.1 == (mH h).1) = some x from hf]; rfl
        · rw [show ((toL q).find? fun x => x.1 == (mH h).1) = some x from hf]; rfl
      | none =>
        rw [show ((toL q).find? fun x => x.1 == (mH h).1) = none from hf]
        simp only [Option.isSome_none, Bool.false_eq_true, if_false, cond_false]
        by_cases h16 : q.n = 16
        · refine ⟨zHs, fun k => ?_, ?_⟩
          · rw [cbT (by omega), if_pos (by rw [mHs_length]; exact h16)]
          · rw [if_pos (by rw [mHs_length]; exact h16)]; rfl
        · rw [if_neg (by rw [mHs_length]; exact h16)]
          have hne : ∀ x ∈ mHs q, ¬ x.1 = h.1 := by
            intro x hx e
            obtain ⟨y, hy, rfl⟩ := List.mem_map.1 hx
            rw [List.find?_eq_none] at hf
            exact hf y hy (by rw [show y.1 = h.1 from e]; exact beq_self_eq_true _)
          have hcg : ∀ x ∈ mHs q, decide (x.1 < h.1) = !decide (x.1 > (mH h).1) := by
            intro x hx
            have := hne x hx
            by_cases hlt : x.1 < h.1
            · rw [decide_eq_true hlt, decide_eq_false (show ¬ x.1 > (mH h).1 by show ¬ x.1 > h.1; omega)]; rfl
            · rw [decide_eq_false hlt, decide_eq_true (show x.1 > (mH h).1 by show x.1 > h.1; omega)]; rfl
          obtain ⟨e1, e2⟩ := tw_congr hcg
          obtain ⟨t1, t2⟩ := tw_len_take (fun x : Hm => decide (x.1 < h.1)) (mHs q)
          have hj := fun k0 => ref13_Put_loop (α := α) k0 q h zHs zH zHs (by omega) 1000 0 (by omega) (by omega)
          rw [List.drop_zero] at hj
          have hjle : 0 + ((mHs q).takeWhile fun x => decide (x.1 < h.1)).length ≤ q.n := by
            obtain ⟨j, a, b, _⟩ := hj (fun _ _ _ _ _ _ => none)
            omega
          generalize hjd : 0 + ((mHs q).takeWhile fun x => decide (x.1 < h.1)).length = j at hj hjle
          have hjd' : ((mHs q).takeWhile fun x => decide (x.1 < h.1)).length = j := by omega
          rw [hjd'] at t1 t2
          refine ⟨⟨(((zHs.nl && (Nat.beq j 0)) && false) && (Nat.beq (q.n - j) 0)), (((zHs.n + j) + 1) + (q.n - j)), (tApp ((zHs.n + j) + 1) (tApp (zHs.n + j) (tApp zHs.n zHs.g q.g) (fun _ => h)) (tShift j q.g))⟩, fun k => ?_, ?_⟩
          · rw [cbF (by omega)]
            obtain ⟨j', a, b, c⟩ := hj _
            rw [a] at c
            refine c.trans ?_
            have d1 : decide ((0 + j) * 40 ≤ 140737488355328) = true := decide_eq_true (by omega)
            have d2 : decide (((0 + j) + 1) * 40 ≤ 140737488355328) = true := decide_eq_true (by omega)
            have d3 : decide ((((0 + j) + 1) + (q.n - j)) * 40 ≤ 140737488355328) = true := decide_eq_true (by omega)
            simp only [nn, decide_eq_true (show (j : Int) ≤ (q.n : Int) by omega), Bool.and_self, cond_true, toNatC, d1, d2, d3]
          · rw [mHs, toL_app _ true q.nl, List.map_append, toL_app _ true true, List.map_append, toL_app true zHs.nl q.nl, toL_shift q.nl q.nl q.n j q.g, List.map_append]
            show ([] ++ mHs (⟨q.nl, j, q.g⟩ : Seq Hd)) ++ [mH h] ++ _ = _
            rw [mHs_take _ q j hjle, List.map_drop]
            show _ ++ (mHs q).drop j = _
            rw [t1, t2, e1, e2, List.nil_append, List.append_assoc]; rfl
/-! ### The document's drop -/
theorem holdsOk_gt : ∀ {l : List Hm} {last : Int}, holdsOk last l = true → ∀ x ∈ l, last < x.1
  | [], _, _, x, hx => by cases hx
  | y :: l, last, h, x, hx => by
    unfold holdsOk at h
    simp only [Bool.and_eq_true, Bool.not_eq_true', decide_eq_false_iff_not] at h
    rcases List.mem_cons.1 hx with rfl | hx
    · omega
    · have := holdsOk_gt h.2.2 x hx; omega
theorem drop_filter (id : Int) : ∀ {l : List Hm} {last : Int}, holdsOk last l = true → (l.takeWhile fun x => !(x.1 == id)) ++ (l.dropWhile fun x => !(x.1 == id)).drop 1 = l.filter fun x => x.1 != id
  | [], _, _ => rfl
  | y :: l, last, h => by
    have hgt := holdsOk_gt (l := l) (last := y.1)
    unfold holdsOk at h
    simp only [Bool.and_eq_true] at h
    have ih := drop_filter id h.2.2
    rw [List.takeWhile_cons, List.dropWhile_cons, List.filter_cons]
    by_cases e : y.1 = id
    · subst e
      simp only [beq_self_eq_true, Bool.not_true, Bool.false_eq_true, if_false, bne_self_eq_false, List.nil_append, List.drop_one, List.tail_cons]
      symm
      rw [List.filter_eq_self]
      intro x hx
      have := hgt h.2.2 x hx
      exact bneT (by omega)
    · simp only [beqF e, Bool.not_false, if_true, bneT e, List.cons_append, ih]
theorem ref13_Drop_loop (q : Seq Hd) (id : Int) (a : Seq Hd) (b : Hd) (hn : q.n < 900) : ∀ (n i : Nat) (c : Seq Hd), q.n - i < n → c.n ≤ i →
    ∃ r : Seq Hd, (∀ k0 : Seq Hd → Hd → Seq Hd → Option α, draymanref13_Drop_l0_run draymanref13_Fit draymanref13_Find k0 n q id (i : Int) a b c = k0 a b r) ∧ mHs r = mHs c ++ ((mHs q).drop i).filter fun x => x.1 != id := by
  intro n
  induction n with
  | zero => intro i c hi; omega
  | succ n ih =>
    intro i c hi hc
    unfold draymanref13_Drop_l0_run draymanref13_Drop_l0_step
    by_cases hl : i < q.n
    · rw [mHs_drop q hl, List.filter_cons]
      have d1 : decide ((c.n + 1) * 40 ≤ 140737488355328) = true := decide_eq_true (by omega)
      have hlt : decide ((i : Int) < (q.n : Int)) = true := decide_eq_true (by omega)
      by_cases hh : (q.g i).1 = id
      · obtain ⟨r, h1, h2⟩ := ih (i + 1) c (by omega) (by omega)
        refine ⟨r, fun k0 => ?_, ?_⟩
        · simp only [hlt, nn, Bool.and_self, cond_true, toNatC, bneF hh, cond_false, wrap_succ (show i < 9223372036854775807 by omega)]
          exact h1 k0
        · rw [h2, if_neg (show ¬ ((mH (q.g i)).1 != id) = true by rw [show (mH (q.g i)).1 = id from hh, bne_self_eq_false]; decide)]
      · obtain ⟨r, h1, h2⟩ := ih (i + 1) (⟨(c.nl && false), (c.n + 1), (tApp c.n c.g (fun _ => (q.g i)))⟩ : Seq Hd) (by omega) (by show c.n + 1 ≤ i + 1; omega)
        refine ⟨r, fun k0 => ?_, ?_⟩
        · simp only [hlt, nn, Bool.and_self, cond_true, toNatC, bneT hh, d1, wrap_succ (show i < 9223372036854775807 by omega)]
          exact h1 k0
        · rw [h2, if_pos (show ((mH (q.g i)).1 != id) = true from bneT hh)]
          rw [show mHs (⟨(c.nl && false), (c.n + 1), (tApp c.n c.g (fun _ => (q.g i)))⟩ : Seq Hd) = mHs c ++ [mH (q.g i)] by
            rw [mHs, toL_app _ c.nl true, List.map_append]; rfl, List.append_assoc]
          rfl
    · refine ⟨c, fun k0 => cF (by omega), ?_⟩
      rw [mHs_end q (by omega)]; simp
theorem ref13_Drop_is {q : Seq Hd} {id : Int} (hs : SmH (mHs q)) : ∃ r : Seq Hd, (∀ k : Int → Seq Hd → Option α, draymanref13_Drop q id k = k (dropS (mHs q) id).1 r) ∧ mHs r = (dropS (mHs q) id).2 := by
  have hn := (SmH_mem hs).1
  unfold draymanref13_Drop draymanref13_Drop_g dropS
  simp only [ref13_Fit_is hs, ref13_Find_is q _ (by omega : q.n < 900)]
  cases hF : holdsFit (mHs q) with
  | false => exact ⟨zHs, fun k => rfl, rfl⟩
  | true =>
    simp only [Bool.not_true, cond_false, Bool.true_eq_false, if_false]
    rw [any_find]
    cases hf : (toL q).find? (fun x => x.1 == id) with
    | none => exact ⟨zHs, fun k => rfl, rfl⟩
    | some x =>
      obtain ⟨r, h1, h2⟩ := ref13_Drop_loop (α := α) q id zHs x (by omega) 1000 0 zHs (by omega) (by show 0 ≤ 0; omega)
      have hok : holdsOk 0 (mHs q) = true := by unfold holdsFit at hF; exact (Bool.and_eq_true _ _ ▸ hF).2
      refine ⟨r, fun k => h1 _, ?_⟩
      rw [h2, List.drop_zero, if_neg (by simp), drop_filter id hok]; rfl
/-! ### One and the same -/
theorem ln_beq (x y : Ln) : ((x.1.toList == y.1.toList) && ((x.2.1 == y.2.1) && true)) = decide (x = y) := by
  obtain ⟨a, b, _⟩ := x
  obtain ⟨c, d, _⟩ := y
  simp only [L_beq, Bool.and_true]
  by_cases h1 : a = c
  · subst h1
    by_cases h2 : b = d
    · subst h2; simp
    · simp [h2]
  · simp [h1]
theorem dec_cons {β : Type} [DecidableEq β] (x y : β) (l m : List β) : decide (x :: l = y :: m) = (decide (x = y) && decide (l = m)) := by
  rw [← Bool.decide_and]; simp only [List.cons.injEq]
theorem ref11_Same_loop (k : Bool → Option α) (a b : Seq Ln) (hn : a.n < 900) (he : a.n = b.n) : ∀ (n i : Nat), a.n - i < n →
    draymanref11_Same_l0_run (fun x => k x) (k true) n a b (i : Int) = k (decide ((toL a).drop i = (toL b).drop i)) := by
  intro n
  induction n with
  | zero => intro i hi; omega
  | succ n ih =>
    intro i hi
    unfold draymanref11_Same_l0_run draymanref11_Same_l0_step
    by_cases hl : i < a.n
    · rw [cT (by omega)]
      simp only [inb hl, inb (show i < b.n by omega), Bool.and_self, cond_true, toNatC]
      rw [toL_drop a hl, toL_drop b (by omega), dec_cons, ln_beq]
      by_cases h : a.g i = b.g i
      · rw [decide_eq_true h, wrap_succ (by omega), Bool.true_and]
        exact ih (i + 1) (by omega)
      · rw [decide_eq_false h]; rfl
    · rw [cF (by omega), toL_end a (by omega), toL_end b (by omega)]; rfl
theorem ref11_Same_is {a b : Seq Ln} (hn : a.n < 900) (k : Bool → Option α) : draymanref11_Same a b k = k (decide (toL a = toL b)) := by
  unfold draymanref11_Same
  by_cases h : a.n = b.n
  · rw [bneF (by omega : (a.n : Int) = (b.n : Int)), cond_false]
    exact ref11_Same_loop k a b hn h 1000 0 (by omega)
  · rw [bneT (by omega : (a.n : Int) ≠ (b.n : Int)), decide_eq_false]; rfl
    intro e; apply h; rw [← toL_length, e, toL_length]
theorem lines_Same_loop (k : Bool → Option α) (a b : Seq Ln) (hn : a.n < 900) (he : a.n = b.n) : ∀ (n i : Nat), a.n - i < n →
    slices_Equal_api_Line_api_Line_l0_run (fun x => k x) (k true) n a b (a.n : Int) (i : Int) = k (decide ((toL a).drop i = (toL b).drop i)) := by
  intro n
  induction n with
  | zero => intro i hi; omega
  | succ n ih =>
    intro i hi
    unfold slices_Equal_api_Line_api_Line_l0_run slices_Equal_api_Line_api_Line_l0_step
    by_cases hl : i < a.n
    · rw [cT (by omega)]
      simp only [inb hl, inb (show i < b.n by omega), Bool.and_self, cond_true, toNatC]
      rw [toL_drop a hl, toL_drop b (by omega), dec_cons, ln_beq]
      by_cases h : a.g i = b.g i
      · rw [decide_eq_true h, wrap_succ (by omega), Bool.true_and]
        exact ih (i + 1) (by omega)
      · rw [decide_eq_false h]; rfl
    · rw [cF (by omega), toL_end a (by omega), toL_end b (by omega)]; rfl
theorem lines_Same_is {a b : Seq Ln} (hn : a.n < 900) (k : Bool → Option α) : lines_Same a b k = k (decide (toL a = toL b)) := by
  unfold lines_Same lines_Same_g slices_Equal_api_Line_api_Line
  by_cases h : a.n = b.n
  · rw [bneF (by omega : (a.n : Int) = (b.n : Int)), cond_false]
    exact lines_Same_loop k a b hn h 1000 0 (by omega)
  · rw [bneT (by omega : (a.n : Int) ≠ (b.n : Int)), decide_eq_false]; rfl
    intro e; apply h; rw [← toL_length, e, toL_length]
theorem hm_dec (x y : Hd) : decide (mH x = mH y) = (decide (x.1 = y.1) && (decide (x.2.2.1 = y.2.2.1) && decide (toL x.2.1 = toL y.2.1))) := by
  rw [← Bool.decide_and, ← Bool.decide_and]
  simp only [mH, Prod.mk.injEq]
  congr 1
  apply propext
  constructor
  · exact fun h => ⟨h.1, h.2.2, h.2.1⟩
  · exact fun h => ⟨h.1, h.2.2, h.2.1⟩
theorem ref13_Same_loop (k : Bool → Option α) (a b : Seq Hd) (hn : a.n < 900) (he : a.n = b.n) (hs : ∀ i, i < a.n → (a.g i).2.1.n < 900) : ∀ (n i : Nat), a.n - i < n →
    draymanref13_Same_l0_run draymanref11_Same (fun x => k x) (k true) n a b (i : Int) = k (decide ((mHs a).drop i = (mHs b).drop i)) := by
  intro n
  induction n with
  | zero => intro i hi; omega
  | succ n ih =>
    intro i hi
    unfold draymanref13_Same_l0_run draymanref13_Same_l0_step
    by_cases hl : i < a.n
    · rw [cT (by omega)]
      simp only [inb hl, inb (show i < b.n by omega), Bool.and_self, cond_true, toNatC]
      rw [mHs_drop a hl, mHs_drop b (by omega), dec_cons, hm_dec]
      by_cases h1 : (a.g i).1 = (b.g i).1
      · rw [bneF h1, decide_eq_true h1]
        by_cases h2 : (a.g i).2.2.1 = (b.g i).2.2.1
        · rw [bneF h2, decide_eq_true h2, ref11_Same_is (hs i hl)]
          simp only [Bool.not_false, cond_true, Bool.true_and]
          cases decide (toL (a.g i).2.1 = toL (b.g i).2.1) with
          | true => rw [wrap_succ (by omega), Bool.true_and]; exact ih (i + 1) (by omega)
          | false => rfl
        · rw [bneT h2, decide_eq_false h2]; rfl
      · rw [bneT h1, decide_eq_false h1]; rfl
    · rw [cF (by omega), mHs_end a (by omega), mHs_end b (by omega)]; rfl
theorem ref13_Same_is {a b : Seq Hd} (hn : a.n < 900) (hs : ∀ i, i < a.n → (a.g i).2.1.n < 900) (k : Bool → Option α) : draymanref13_Same a b k = k (decide (mHs a = mHs b)) := by
  unfold draymanref13_Same draymanref13_Same_g
  by_cases h : a.n = b.n
  · rw [bneF (by omega : (a.n : Int) = (b.n : Int)), cond_false]
    exact ref13_Same_loop k a b hn h hs 1000 0 (by omega)
  · rw [bneT (by omega : (a.n : Int) ≠ (b.n : Int)), decide_eq_false]; rfl
    intro e; apply h; rw [← mHs_length, e, mHs_length]
theorem holds_Same_loop (k : Bool → Option α) (a b : Seq Hd) (hn : a.n < 900) (he : a.n = b.n) (hs : ∀ i, i < a.n → (a.g i).2.1.n < 900) : ∀ (n i : Nat), a.n - i < n →
    slices_EqualFunc_api_Hold_api_Hold_api_Hold_api_Hold_l0_run holds_Same_1 (fun x => k x) (k true) n b a (a.n : Int) (i : Int) = k (decide ((mHs a).drop i = (mHs b).drop i)) := by
  intro n
  induction n with
  | zero => intro i hi; omega
  | succ n ih =>
    intro i hi
    unfold slices_EqualFunc_api_Hold_api_Hold_api_Hold_api_Hold_l0_run slices_EqualFunc_api_Hold_api_Hold_api_Hold_api_Hold_l0_step
    by_cases hl : i < a.n
    · rw [cT (by omega)]
      simp only [inb hl, inb (show i < b.n by omega), Bool.and_self, cond_true, toNatC]
      rw [mHs_drop a hl, mHs_drop b (by omega), dec_cons, hm_dec]
      show holds_Same_1_g lines_Same _ _ _ = _
      unfold holds_Same_1_g
      by_cases h1 : (a.g i).1 = (b.g i).1
      · rw [beqT h1, decide_eq_true h1]
        by_cases h2 : (a.g i).2.2.1 = (b.g i).2.2.1
        · rw [beqT h2, decide_eq_true h2, lines_Same_is (hs i hl)]
          simp only [cond_true, Bool.true_and]
          cases decide (toL (a.g i).2.1 = toL (b.g i).2.1) with
          | true => rw [wrap_succ (by omega), Bool.true_and]; exact ih (i + 1) (by omega)
          | false => rfl
        · rw [beqF h2, decide_eq_false h2]; rfl
      · rw [beqF h1, decide_eq_false h1]; rfl
    · rw [cF (by omega), mHs_end a (by omega), mHs_end b (by omega)]; rfl
theorem holds_Same_is {a b : Seq Hd} (hn : a.n < 900) (hs : ∀ i, i < a.n → (a.g i).2.1.n < 900) (k : Bool → Option α) : holds_Same a b k = k (decide (mHs a = mHs b)) := by
  unfold holds_Same holds_Same_g slices_EqualFunc_api_Hold_api_Hold_api_Hold_api_Hold slices_EqualFunc_api_Hold_api_Hold_api_Hold_api_Hold_g
  by_cases h : a.n = b.n
  · rw [bneF (by omega : (a.n : Int) = (b.n : Int)), cond_false]
    exact holds_Same_loop k a b hn h hs 1000 0 (by omega)
  · rw [bneT (by omega : (a.n : Int) ≠ (b.n : Int)), decide_eq_false]; rfl
    intro e; apply h; rw [← mHs_length, e, mHs_length]
abbrev In := Int × Unit
theorem ref01_Same_loop (k : Bool → Option α) (a b : Seq In) (hn : a.n < 900) (he : a.n = b.n) : ∀ (n i : Nat), a.n - i < n →
    draymanref01_Same_l0_run (fun x => k x) (k true) n a b (i : Int) = k (decide ((toL a).drop i = (toL b).drop i)) := by
  intro n
  induction n with
  | zero => intro i hi; omega
  | succ n ih =>
    intro i hi
    unfold draymanref01_Same_l0_run draymanref01_Same_l0_step
    by_cases hl : i < a.n
    · rw [cT (by omega)]
      simp only [inb hl, inb (show i < b.n by omega), Bool.and_self, cond_true, toNatC]
      rw [toL_drop a hl, toL_drop b (by omega), dec_cons]
      by_cases h : (a.g i).1 = (b.g i).1
      · rw [decide_eq_true (show a.g i = b.g i from Prod.ext h rfl), wrap_succ (by omega), Bool.true_and, bneF h]
        exact ih (i + 1) (by omega)
      · rw [decide_eq_false (fun e => h (congrArg Prod.fst e)), bneT h]; rfl
    · rw [cF (by omega), toL_end a (by omega), toL_end b (by omega)]; rfl
theorem ref01_Same_is {a b : Seq In} (hn : a.n < 900) (k : Bool → Option α) : draymanref01_Same a b k = k (decide (toL a = toL b)) := by
  unfold draymanref01_Same
  by_cases h : a.n = b.n
  · rw [bneF (by omega : (a.n : Int) = (b.n : Int)), cond_false]
    exact ref01_Same_loop k a b hn h 1000 0 (by omega)
  · rw [bneT (by omega : (a.n : Int) ≠ (b.n : Int)), decide_eq_false]; rfl
    intro e; apply h; rw [← toL_length, e, toL_length]
end Go.Rv.Tryd
