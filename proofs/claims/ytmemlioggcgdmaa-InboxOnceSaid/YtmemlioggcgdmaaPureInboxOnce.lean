/- The plain law of InboxOnce: no reply is taken twice. No condition. -/
import Derived.Test.YtmemlioggcgdmaaE2
import Derived.Test.YtmemlioggcgdmaaPureInboxTells
set_option linter.unusedVariables false
set_option linter.unusedSimpArgs false
namespace Go.Rv.Try
open Go Go.Rv Go.RowKit
variable {α : Type}

theorem mark_gen (sv low : Int) (s : Ints) (id : Int) (p : Nat) (hn : s.n ≤ 16) (hf : boxFit (sv, low, s, ()) = true) (h1 : ¬ id < 1) (h2 : ¬ id > 1099511627776) (h3 : hadB (sv, low, s, ()) id = false) (hp : IsFirst s id p) :
    ∃ cl low', (∀ k : Box → Int → Option α, inbox_Mark (sv, low, s, ()) id k = k (sv, low', cl, ()) 0) ∧ (low', il cl) = absorb (decide (16 ≤ s.n)) low ((il s).take p ++ id :: (il s).drop p) := by
  have hf' := hf
  simp only [boxFit, Bool.and_eq_true] at hf'
  obtain ⟨⟨⟨_, hlow⟩, hris⟩, _⟩ := hf'
  have hlow := small_of_fit hlow
  have hsort := sorted_of hris
  have hall := (rising_all _ _ hris).1
  have hpn := hp.le
  let A : Seq (Ints × Unit) := ⟨false, 3, (tSel [((⟨s.nl, ((p : Nat) : Int).toNat, s.g⟩ : Ints), ()), ((⟨false, 1, (fun _ => (id, ()))⟩ : Ints), ()), ((⟨s.nl, (s.n - ((p : Nat) : Int).toNat), (tShift ((p : Nat) : Int).toNat s.g)⟩ : Ints), ())] ((⟨true, 0, fun _ => (0, ())⟩ : Ints), ()))⟩
  have hA : toL A = [((⟨s.nl, p, s.g⟩ : Ints), ()), ((⟨false, 1, (fun _ => (id, ()))⟩ : Ints), ()), ((⟨s.nl, (s.n - p), (tShift p s.g)⟩ : Ints), ())] := rfl
  obtain ⟨c, hc1, hc2, hc3⟩ := concat_is (α := α) A (by show (3 : Nat) ≤ 900; omega) (by rw [hA]; simp only [tot, List.map_cons, List.map_nil, List.sum_cons, List.sum_nil]; omega)
  have hc2 : il c = (il s).take p ++ id :: (il s).drop p := by
    rw [hc2, hA]
    simp only [flat, List.flatMap_cons, List.flatMap_nil, List.append_nil, il_take s hpn, il_from]
    rfl
  have hclen : c.n = s.n + 1 := by
    have := il_length c
    rw [hc2] at this
    simp [il_length] at this
    omega
  have hcs : Small (il c) := by
    rw [hc2]
    intro y hy
    simp only [List.mem_append, List.mem_cons] at hy
    rcases hy with hy | rfl | hy
    · exact small_of_fit (hall y (List.mem_of_mem_take hy)).2
    · omega
    · exact small_of_fit (hall y (List.mem_of_mem_drop hy)).2
  have hb2 : decide ((c.n : Int) > 16) = decide (16 ≤ s.n) := decide_eq_decide.2 (by omega)
  obtain ⟨r, low', hr1, hr2, hr3, hr4⟩ := mark_loop (α := α) (sv, low, s, ()) (0, 0, (⟨true, 0, (fun _ => (0, ()))⟩ : Ints), ()) sv (⟨true, 0, (fun _ => (0, ()))⟩ : Ints) c.n 1000 c (decide ((c.n : Int) > 16)) low rfl (by omega) hc3 hcs hlow.1 hlow.2
  obtain ⟨cl, hcl1, hcl2⟩ := clone_is (α := α) r hr3 (by omega)
  refine ⟨cl, low', fun k => ?_, by rw [hcl2, hr2, hb2, hc2]⟩
  obtain ⟨fd, hb⟩ := bsearch_is s id hsort (by omega) hp (fun r5 r6 =>
                (cond ((((decide ((0 : Int) ≤ r5)) && (decide (r5 ≤ (s.n : Int)))) && (decide (r5 = r5))) && (((decide ((0 : Int) ≤ r5)) && (decide (r5 ≤ (s.n : Int)))) && (decide (r5 = r5))))
                  (cond (((decide ((0 : Int) ≤ r5)) && (decide (r5 ≤ (s.n : Int)))) && ((decide ((0 : Int) ≤ r5)) && (decide (r5 ≤ (s.n : Int)))))
                    (slices_Concat_int_int (⟨false, 3, (tSel [((⟨s.nl, r5.toNat, s.g⟩ : Seq (Int × Unit)), ()), ((⟨false, 1, (fun _ => (id, ()))⟩ : Seq (Int × Unit)), ()), ((⟨s.nl, (s.n - r5.toNat), (tShift r5.toNat s.g)⟩ : Seq (Int × Unit)), ())] ((⟨true, 0, fun _ => (0, ())⟩ : Seq (Int × Unit)), ()))⟩ : Seq ((Seq (Int × Unit)) × Unit)) fun r7 =>
                      (inbox_Mark_l0_run inbox_Fit inbox_Had slices_BinarySearch_int_int slices_Concat_int_int slices_Clone_int_int
                        (fun x8 x9 x10 x11 =>
                          (slices_Clone_int_int x8 fun r12 =>
                            (k (x11.1, x11.2.1, r12, ()) 0)))
                        1000 r7 (decide ((r7.n : Int) > 16)) (sv, low, s, ()) (0, 0, (⟨true, 0, (fun _ => (0, ()))⟩ : Seq (Int × Unit)), ()) (sv, low, (⟨true, 0, (fun _ => (0, ()))⟩ : Seq (Int × Unit)), ())))
                    none)
                  none))
  simp only [inbox_Mark, inbox_Mark_g, inbox_Fit_is (sv, low, s, ()) (by simp only; omega), inbox_Had_is (sv, low, s, ()) id (by simp only; omega), hf, h3, Bool.not_true, cond_false, decide_eq_false h1, Bool.not_false, cond_true, decide_eq_false h2]
  simp only [eq_self] at hb
  refine hb.trans ?_
  have e1 : decide ((p : Int) ≤ (s.n : Int)) = true := decide_eq_true (by omega)
  simp only [nn, e1, Bool.and_self, cond_true, decide_true]
  refine (hc1 _).trans ?_
  refine (hr1 _).trans ?_
  exact hcl1 _

theorem rising_of : ∀ (l : List Int) (a : Int), l.Pairwise (· < ·) → (∀ x ∈ l, a < x ∧ fitN x = true) → rising a l = true
  | [], _, _, _ => rfl
  | x :: l, a, h, h2 => by
    obtain ⟨h3, h4⟩ := List.pairwise_cons.1 h
    obtain ⟨h5, h6⟩ := h2 x List.mem_cons_self
    have h7 : ¬ x ≤ a := by omega
    simp only [rising, decide_eq_false h7, h6, Bool.not_false, Bool.true_and]
    exact rising_of l x h4 fun y hy => ⟨h3 y hy, (h2 y (List.mem_cons_of_mem _ hy)).2⟩
theorem absorb_spec : ∀ (l : List Int) (full : Bool) (low low' : Int) (l' : List Int), fitN low = true → l.Pairwise (· < ·) → (∀ x ∈ l, low < x ∧ fitN x = true) → (low', l') = absorb full low l →
    fitN low' = true ∧ low ≤ low' ∧ rising (low' + 1) l' = true ∧ l'.length ≤ l.length ∧ (full = true → l ≠ [] → l'.length < l.length) ∧ ∀ t ∈ l, t ≤ low' ∨ t ∈ l'
  | [], full, low, low', l', hf, _, _, h => by
    simp only [absorb, Prod.mk.injEq] at h
    obtain ⟨rfl, rfl⟩ := h
    exact ⟨hf, Int.le_refl _, rfl, Nat.le_refl _, fun _ h => absurd rfl h, fun t ht => by cases ht⟩
  | x :: l, full, low, low', l', hf, hp, ha, h => by
    obtain ⟨h3, h4⟩ := List.pairwise_cons.1 hp
    obtain ⟨h5, h6⟩ := ha x List.mem_cons_self
    simp only [absorb] at h
    split at h
    · obtain ⟨i1, i2, i3, i4, i5, i6⟩ := absorb_spec l false x low' l' h6 h4 (fun y hy => ⟨h3 y hy, (ha y (List.mem_cons_of_mem _ hy)).2⟩) h
      refine ⟨i1, by omega, i3, by simp; omega, fun _ _ => by simp; omega, fun t ht => ?_⟩
      rcases List.mem_cons.1 ht with rfl | ht
      · exact .inl i2
      · exact i6 t ht
    · rename_i hc
      simp only [Bool.or_eq_true, beq_iff_eq, not_or, Bool.not_eq_true] at hc
      simp only [Prod.mk.injEq] at h
      obtain ⟨rfl, rfl⟩ := h
      refine ⟨hf, Int.le_refl _, rising_of _ _ hp fun y hy => ⟨?_, (ha y hy).2⟩, Nat.le_refl _, fun hh => (by rw [hc.1] at hh; cases hh), fun t ht => .inr ht⟩
      rcases List.mem_cons.1 hy with rfl | hy
      · have := hc.2; omega
      · have := h3 y hy; have := hc.2; omega

theorem mem_il {s : Ints} {x : Int} (h : x ∈ il s) : ∃ i, i < s.n ∧ (s.g i).1 = x := by
  obtain ⟨i, hi, rfl⟩ := List.getElem_of_mem h
  have hi' : i < s.n := by rwa [il_length] at hi
  exact ⟨i, hi', (il_get s hi').symm⟩
theorem ins_sorted {s : Ints} {id : Int} {p : Nat} (hs : Sorted s) (hw : (il s).Pairwise (· < ·)) (hp : IsFirst s id p) (hno : hasB id (il s) = false) : ((il s).take p ++ id :: (il s).drop p).Pairwise (· < ·) := by
  have hne : ∀ x ∈ il s, x ≠ id := by
    intro x hx e
    subst e
    have : hasB x (il s) = true := by simp only [hasB, List.any_eq_true]; exact ⟨x, hx, by simp⟩
    rw [hno] at this; cases this
  have hlo : ∀ x ∈ (il s).take p, x < id := by
    intro x hx
    obtain ⟨i, hi, rfl⟩ := List.getElem_of_mem hx
    simp only [List.length_take, il_length] at hi
    rw [List.getElem_take, il_get s (by omega)]
    exact hp.lo i (by omega)
  have hhi : ∀ x ∈ (il s).drop p, id < x := by
    intro x hx
    have hx' := hne x (List.mem_of_mem_drop hx)
    obtain ⟨i, hi, rfl⟩ := List.getElem_of_mem hx
    simp only [List.length_drop, il_length] at hi
    rw [List.getElem_drop, il_get s (by omega)] at hx' ⊢
    have h1 := hp.hi (by omega)
    by_cases h0 : i = 0
    · subst h0; simp only [Nat.add_zero] at hx' ⊢; omega
    · have := hs p (p + i) (by omega) (by omega); omega
  refine List.pairwise_append.2 ⟨hw.sublist (List.take_sublist _ _), List.pairwise_cons.2 ⟨hhi, hw.sublist (List.drop_sublist _ _)⟩, fun a ha b hb => ?_⟩
  rcases List.mem_cons.1 hb with rfl | hb
  · exact hlo a ha
  · have := hlo a ha; have := hhi b hb; omega

theorem hadB_iff {b : Box} {t : Int} : hadB b t = true ↔ t ≤ b.2.1 ∨ t ∈ il b.2.2.1 := by
  simp only [hadB, hasB, Bool.or_eq_true, decide_eq_true_eq, List.any_eq_true, beq_iff_eq, exists_eq_right]
theorem mark_step (b : Box) (hf : boxFit b = true) (id : Int) : ∃ (r : Box) (e : Int), (∀ k : Box → Int → Option α, inbox_Mark b id k = k r e) ∧ ((e == 0) = (!hadB b id && (decide (id ≥ 1) && decide (id ≤ 1099511627776)))) ∧
    (e = 0 → boxFit r = true ∧ hadB r id = true ∧ ∀ t, hadB b t = true → hadB r t = true) := by
  obtain ⟨sv, low, s, ⟨⟩⟩ := b
  have hf' := hf
  simp only [boxFit, Bool.and_eq_true, decide_eq_true_eq] at hf'
  obtain ⟨⟨⟨hsv, hlow⟩, hris⟩, hn⟩ := hf'
  by_cases h1 : id < 1
  · have h1' : ¬ id ≥ 1 := by omega
    exact ⟨(0, 0, (⟨true, 0, (fun _ => (0, ()))⟩ : Ints), ()), 1, fun k => by simp only [inbox_Mark, inbox_Mark_g, inbox_Fit_is (sv, low, s, ()) (by simp only; omega), hf, Bool.not_true, cond_false, decide_eq_true h1], by simp only [decide_eq_false h1', Bool.false_and, Bool.and_false]; rfl, fun h => by cases h⟩
  by_cases h2 : id > 1099511627776
  · have h2' : ¬ id ≤ 1099511627776 := by omega
    exact ⟨(0, 0, (⟨true, 0, (fun _ => (0, ()))⟩ : Ints), ()), 1, fun k => by simp only [inbox_Mark, inbox_Mark_g, inbox_Fit_is (sv, low, s, ()) (by simp only; omega), hf, Bool.not_true, cond_false, decide_eq_false h1, Bool.not_false, cond_true, decide_eq_true h2], by simp only [decide_eq_false h2', Bool.and_false]; rfl, fun h => by cases h⟩
  have h1' : id ≥ 1 := by omega
  have h2' : id ≤ 1099511627776 := by omega
  cases h3 : hadB (sv, low, s, ()) id with
  | true =>
    exact ⟨(0, 0, (⟨true, 0, (fun _ => (0, ()))⟩ : Ints), ()), 14, fun k => by simp only [inbox_Mark, inbox_Mark_g, inbox_Fit_is (sv, low, s, ()) (by simp only; omega), inbox_Had_is (sv, low, s, ()) id (by simp only; omega), hf, h3, Bool.not_true, cond_false, decide_eq_false h1, Bool.not_false, cond_true, decide_eq_false h2], by simp only [Bool.not_true, Bool.false_and]; rfl, fun h => by cases h⟩
  | false =>
  have hsort := sorted_of hris
  obtain ⟨hall, hpw⟩ := rising_all _ _ hris
  obtain ⟨p, hp⟩ := exists_first s id (by omega)
  have hpn := hp.le
  obtain ⟨cl, low', h4, h5⟩ := mark_gen (α := α) sv low s id p hn hf h1 h2 h3 hp
  have h3' := h3
  simp only [hadB, Bool.or_eq_false_iff, decide_eq_false_iff_not] at h3'
  obtain ⟨i1, i2, i3, i4, i5, i6⟩ := absorb_spec _ _ _ _ _ hlow (ins_sorted hsort hpw hp h3'.2) (fun x hx => by
    simp only [List.mem_append, List.mem_cons] at hx
    rcases hx with hx | rfl | hx
    · have := hall x (List.mem_of_mem_take hx); exact ⟨by omega, this.2⟩
    · exact ⟨by omega, by simp [fitN]; omega⟩
    · have := hall x (List.mem_of_mem_drop hx); exact ⟨by omega, this.2⟩) h5
  have hlen : ((il s).take p ++ id :: (il s).drop p).length = s.n + 1 := by simp [il_length]; omega
  rw [hlen] at i4
  refine ⟨(sv, low', cl, ()), 0, h4, by simp [h1', h2'], fun _ => ⟨?_, ?_, fun t ht => ?_⟩⟩
  · have hcn : cl.n ≤ 16 := by
      rw [← il_length]
      by_cases h16 : 16 ≤ s.n
      · have := i5 (decide_eq_true h16) (by simp); rw [hlen] at this; omega
      · omega
    simp only [boxFit, i1, i3, decide_eq_true hcn, Bool.and_true]
    simpa using hsv
  · rw [hadB_iff]
    exact i6 id (by simp)
  · rw [hadB_iff] at ht ⊢
    rcases ht with ht | ht
    · exact .inl (by simp only at ht ⊢; omega)
    · refine i6 t ?_
      rw [← List.take_append_drop p (il s)] at ht
      simp only [List.mem_append, List.mem_cons] at ht ⊢
      rcases ht with ht | ht
      · exact .inl ht
      · exact .inr (.inr ht)

theorem fit_n {b : Box} (h : boxFit b = true) : b.2.2.1.n ≤ 900 := by
  simp only [boxFit, Bool.and_eq_true, decide_eq_true_eq] at h; omega
theorem taken_loop (kr : Bool → Box → Ints → Box → Ints → Option α) (k2 : Ints → Int → Box → Ints → Box → Ints → Option α) (x1 : Ints) (i : Nat) (b : Box) (q : Ints) (x6 : Box) (q7 : Ints) (hi : i < x1.n) (hb : boxFit b = true) (hq : q.n ≤ 900)
    (h1 : ∀ j, j < q.n → hadB b (q.g j).1 = true) (h2 : ∀ j, j + 1 < q.n → (q.g j).1 ≠ (x1.g i).1) : ∀ (m j N : Nat), j + m = q.n → m < N →
    draymanlaw18_InboxOnce_l0_run draymanlaw18_awake inbox_New inbox_Had inbox_Mark inbox_Fit kr k2 N x1 (i : Int) (j : Int) b q x6 q7 = k2 x1 (i : Int) b q x6 q7 := by
  intro m
  induction m with
  | zero =>
    intro j N hj hN
    obtain ⟨N, rfl⟩ : ∃ M, N = M + 1 := ⟨N - 1, by omega⟩
    have h3 : ¬ ((j : Int) < (q.n : Int)) := by omega
    simp only [draymanlaw18_InboxOnce_l0_run, draymanlaw18_InboxOnce_l0_step, ltF h3, cond_false]
  | succ m ih =>
    intro j N hj hN
    obtain ⟨N, rfl⟩ : ∃ M, N = M + 1 := ⟨N - 1, by omega⟩
    have h3 : (j : Int) < (q.n : Int) := by omega
    have h4 : Nat.blt j q.n = true := by rw [Nat.blt_eq]; omega
    have hw : IntKind.i64.wrap ((q.n : Int) - 1) = (q.n : Int) - 1 := wrap64 (by omega) (by omega)
    have e := ih (j + 1) N (by omega) (by omega)
    simp only [draymanlaw18_InboxOnce_l0_run, draymanlaw18_InboxOnce_l0_step, ltT h3, inb (show j < q.n by omega), toNatC, h4, inbox_Had_is b _ (fit_n hb), h1 j (by omega), Bool.not_true, Bool.not_false, hw, inb hi, wrap_succ (show j < 9223372036854775807 by omega), cond_true]
    by_cases h5 : (j : Int) < (q.n : Int) - 1
    · have hne : ((q.g j).1 == (x1.g i).1) = false := by rw [beq_eq_false_iff_ne]; exact h2 j (by omega)
      simp only [ltT h5, hne, cond_true, cond_false]
      exact e
    · simp only [ltF h5, cond_false]
      exact e

theorem app_get {β : Type} {n : Nat} {g h : Nat → β} {j : Nat} : tApp n g h j = if j < n then g j else h (j - n) := by
  unfold tApp
  by_cases hj : j < n
  · have : Nat.blt j n = true := by rw [Nat.blt_eq]; exact hj
    simp [this, hj]
  · have : Nat.blt j n = false := by
      cases e : Nat.blt j n with
      | false => rfl
      | true => rw [Nat.blt_eq] at e; exact absurd e hj
    simp [this, hj]

theorem once_loop (kr : Bool → Box → Ints → Option α) (k0 : Box → Ints → Option α) (res : Option α) (hk0 : ∀ b q, k0 b q = res) (x1 : Ints) (hx : x1.n ≤ 60) : ∀ (m i N : Nat) (b : Box) (q : Ints), i + m = x1.n → m < N → boxFit b = true → q.n ≤ i → (∀ j, j < q.n → hadB b (q.g j).1 = true) →
    draymanlaw18_InboxOnce_l1_run draymanlaw18_awake inbox_New inbox_Had inbox_Mark inbox_Fit kr k0 N x1 (i : Int) b q = res := by
  intro m
  induction m with
  | zero =>
    intro i N b q hi hN hb hq hh
    obtain ⟨N, rfl⟩ : ∃ M, N = M + 1 := ⟨N - 1, by omega⟩
    have h3 : ¬ ((i : Int) < (x1.n : Int)) := by omega
    simp only [draymanlaw18_InboxOnce_l1_run, draymanlaw18_InboxOnce_l1_step, ltF h3, cond_false, hk0]
  | succ m ih =>
    intro i N b q hi hN hb hq hh
    obtain ⟨N, rfl⟩ : ∃ M, N = M + 1 := ⟨N - 1, by omega⟩
    have hix : i < x1.n := by omega
    have h3 : (i : Int) < (x1.n : Int) := by omega
    have hw : IntKind.i64.wrap ((i : Int) + 1) = ((i + 1 : Nat) : Int) := wrap_succ (by omega)
    obtain ⟨r, e, hr, he, hz⟩ := mark_step (α := α) b hb (x1.g i).1
    simp only [draymanlaw18_InboxOnce_l1_run, draymanlaw18_InboxOnce_l1_step, ltT h3, inb hix, toNatC, inbox_Had_is b _ (fit_n hb), hr, cond_true, hw]
    have hbne : (e != 0) = !(e == 0) := rfl
    by_cases h0 : e = 0
    · obtain ⟨g1, g2, g3⟩ := hz h0
      subst h0
      have he' : (!hadB b (x1.g i).1 && (decide ((x1.g i).1 ≥ 1) && decide ((x1.g i).1 ≤ 1099511627776))) = true := by rw [← he]; rfl
      simp only [Bool.and_eq_true, Bool.not_eq_true'] at he'
      obtain ⟨n1, n2, n3⟩ := he'
      have hsz : decide (((q.n + 1)) * 8 ≤ 140737488355328) = true := decide_eq_true (by omega)
      have hhad : ∀ j, j < q.n + 1 → hadB r ((tApp q.n q.g (fun _ => x1.g i)) j).1 = true := by
        intro j hj
        rw [app_get]
        split
        · exact g3 _ (hh j (by assumption))
        · exact g2
      have hloop := taken_loop (α := α) (fun x9 x10 q11 x12 q13 => (kr x9 x10 q11)) (fun x14 x15 x16 q17 x18 q19 => (draymanlaw18_InboxOnce_l1_run draymanlaw18_awake inbox_New inbox_Had inbox_Mark inbox_Fit kr k0 N x14 (IntKind.i64.wrap (x15 + 1)) x16 q17)) x1 i r (⟨(q.nl && false), (q.n + 1), (tApp q.n q.g (fun _ => x1.g i))⟩ : Ints) r (⟨false, 1, (fun _ => (x1.g i))⟩ : Ints) hix g1 (by simp only; omega) hhad (fun j hj => by
          simp only at hj ⊢
          rw [app_get, if_pos (by omega)]
          intro e
          have := hh j (by omega)
          rw [e, n1] at this
          cases this) (q.n + 1) 0 1000 (by simp) (by omega)
      simp only [n1, n2, n3, Bool.not_false, cond_true, beq_self_eq_true, Bool.not_true, cond_false, hsz, inbox_Fit_is r (fit_n g1), g1, bne_self_eq_false]
      refine hloop.trans ?_
      simp only [hw]
      exact ih (i + 1) N r _ (by omega) (by omega) g1 (by simp only; omega) hhad
    · have h0' : (e == 0) = false := by rw [beq_eq_false_iff_ne]; exact h0
      have e2 := ih (i + 1) N b q (by omega) (by omega) hb (by omega) hh
      rw [h0'] at he hbne
      simp only [h0', hbne, Bool.not_false, cond_true]
      cases hb2 : hadB b (x1.g i).1 with
      | true => simp only [Bool.not_true, cond_false, beq_self_eq_true, Bool.not_true]; exact e2
      | false =>
        rw [hb2] at he
        simp only [Bool.not_false, Bool.true_and] at he
        cases h5 : decide ((x1.g i).1 ≥ 1) with
        | false => simp only [Bool.not_false, cond_true, cond_false, beq_self_eq_true, Bool.not_true]; exact e2
        | true =>
          rw [h5, Bool.true_and] at he
          simp only [Bool.not_false, cond_true, ← he, beq_self_eq_true, Bool.not_true, cond_false]; exact e2

theorem InboxOnce_true (x0 : Tup (.sl (.int .i64 (.nil)) (.nil))) (o0 : OkT (.sl (.int .i64 (.nil)) (.nil)) x0) (k : Bool → Option Unit) : draymanlaw18_InboxOnce x0.1 k = k true := by
  obtain ⟨x, ⟨⟩⟩ := x0
  show draymanlaw18_InboxOnce x k = k true
  simp only [draymanlaw18_InboxOnce, draymanlaw18_InboxOnce_g, awake_is]
  by_cases h : (x.n : Int) > 60
  · simp only [decide_eq_true h, cond_true]
  · simp only [decide_eq_false h, cond_false, inbox_New]
    exact once_loop (α := Unit) _ _ (k true) (fun b q => rfl) x (by omega) x.n 0 1000 _ _ (by omega) (by omega) rfl (by simp) (fun j hj => by simp at hj)
end Go.Rv.Try
