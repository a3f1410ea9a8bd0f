/- The law SagaRules, in plain words: true for every input. -/
import Derived.Test.YtmoeohjaafpmgaaDoorE1
import Derived.Test.YtmoeohjaafpmgaaDoorPureSagaLib
set_option linter.unusedVariables false
set_option linter.unusedSimpArgs false
namespace Go.Rv.Tryd
open Go Go.Rv
variable {α : Type}
theorem ref24_Few_is (s : Sg) (k : Bool → Option α) : draymanref24_Few s k = k (decide ((s.2.1.size : Int) ≤ 60) && (decide ((s.2.2.1.size : Int) ≤ 60) && (fewLB (toL s.2.2.2.1) && decide ((s.2.2.2.2.2.2.2.2.2.2.1.n : Int) ≤ 10)))) := by
  unfold draymanref24_Few draymanref24_Few_g
  rw [ref11_Few_is]
  exact ck (ck (cb rfl))
theorem ref21_Few_is (d : Df) (k : Bool → Option α) : draymanref21_Few d k = k (decide ((d.1.size : Int) ≤ 60) && decide ((d.2.1.n : Int) ≤ 10)) := ck rfl
/-! ### What is so of one that is fit -/
theorem fit_marks {s : Sg} {d : Df} (h : fitSg s d = true) : s.2.2.2.2.2.2.2.2.2.2.1.n = d.2.1.n ∧ restS s d = true := by
  unfold fitSg at h
  simp only [Bool.and_eq_true, decide_eq_true_eq] at h
  exact ⟨h.2.2.2.2.2.2.1, h.2.2.2.2.2.2.2.2⟩
theorem mark_mem {m : Seq In} {x : Int} (h : markS m x ≠ -1) : ∃ j : Nat, x = (j : Int) ∧ j < m.n ∧ markS m x = (m.g j).1 := by
  unfold markS at h ⊢
  by_cases hx : 0 ≤ x ∧ x < (m.n : Int)
  · rw [if_pos hx]; exact ⟨x.toNat, by omega, by omega, rfl⟩
  · rw [if_neg hx] at h; exact absurd rfl h
theorem allS_get {m : Seq In} {g : List In} (h : allS (toL m) g = true) {j : Nat} (hj : j < m.n) : hasS g (m.g j).1 = true := by
  unfold allS at h
  rw [List.all_eq_true] at h
  exact h _ (List.mem_of_getElem? (toL_get m hj))
theorem has_done {v : Int} (h : hasS done1 v = true) : v = 2 := by
  unfold hasS done1 at h
  simpa using h
theorem has_gone {v : Int} (h : hasS gone3 v = true) : v ≠ 2 := by
  unfold hasS gone3 at h
  simp at h
  omega
theorem moves_at {s : Sg} {d : Df} {x : Int} {g : List In} (hx : x ≠ -1) (hm : s.2.2.2.2.2.2.2.2.2.2.1.n = d.2.1.n) (h : movesB s d x g = true) : ∃ j : Nat, s.2.2.2.2.2.2.2.1 = (j : Int) ∧ j < d.2.1.n ∧ (s.2.2.2.2.2.2.2.2.2.2.1.g j).1 = x := by
  unfold movesB at h
  simp only [Bool.and_eq_true, decide_eq_true_eq] at h
  obtain ⟨j, h1, h2, h3⟩ := mark_mem (by rw [h.1]; exact hx)
  exact ⟨j, h1, by omega, by rw [← h3, h.1]⟩
/-- All that the law asks of one that is fit. -/
structure Rules (s : Sg) (d : Df) : Prop where
  ended : liveS s = false → betweenS s d 1 3 = false ∧ betweenS s d 3 5 = false ∧ (s.2.2.2.2.2.1 = 4 ∨ s.2.2.2.2.2.1 = 5)
  both : betweenS s d 1 3 = true → betweenS s d 3 5 = false
  bound : boundS s d = true → goesBack s = false ∧ s.2.2.2.2.2.1 ≠ 5
  live : liveS s = true → ∃ j : Nat, s.2.2.2.2.2.2.2.1 = (j : Int) ∧ j < d.2.1.n ∧ j < s.2.2.2.2.2.2.2.2.2.2.1.n ∧ ((s.2.2.2.2.2.2.2.2.2.2.1.g j).1 == 3) = goesBack s
theorem between_done {s : Sg} {d : Df} {a b : Int} (hm : s.2.2.2.2.2.2.2.2.2.2.1.n = d.2.1.n) (h : allS (toL s.2.2.2.2.2.2.2.2.2.2.1) done1 = true) : betweenS s d a b = false := by
  unfold betweenS
  by_cases hb : placeS (toL d.2.1) b ≥ 0
  · have : markS s.2.2.2.2.2.2.2.2.2.2.1 (placeS (toL d.2.1) b) = 2 := by
      cases hany : (toL d.2.1).any (fun h => h.1 == b) with
      | false =>
        have := (idxFrom_neg (i := 0)).2 hany
        unfold placeS at hb
        omega
      | true =>
        obtain ⟨j, h1, h2, _⟩ := idx_pos hany
        rw [toL_length] at h2
        unfold markS placeS
        rw [h1, if_pos (by omega)]
        exact has_done (allS_get h (by omega))
    rw [bneF this, Bool.and_false, Bool.and_false]
  · rw [decide_eq_false hb, Bool.false_and, Bool.and_false]
theorem mark_gone {m : Seq In} (h : allS (toL m) gone3 = true) (x : Int) : markS m x ≠ 2 := by
  by_cases hx : markS m x = -1
  · rw [hx]; decide
  · obtain ⟨j, _, h2, h3⟩ := mark_mem hx
    rw [h3]
    exact has_gone (allS_get h h2)
theorem rules_of {s : Sg} {d : Df} (h : fitSg s d = true) : Rules s d := by
  obtain ⟨hm, hr⟩ := fit_marks h
  have hah : aheadS s d = true → ∃ j : Nat, s.2.2.2.2.2.2.2.1 = (j : Int) ∧ j < d.2.1.n ∧ (s.2.2.2.2.2.2.2.2.2.2.1.g j).1 = 1 := by
    intro ha
    unfold aheadS at ha
    rw [Bool.and_eq_true] at ha
    exact moves_at (by decide) hm ha.2
  have hba : backS s d = true → boundS s d = false ∧ ∃ j : Nat, s.2.2.2.2.2.2.2.1 = (j : Int) ∧ j < d.2.1.n ∧ (s.2.2.2.2.2.2.2.2.2.2.1.g j).1 = 3 := by
    intro ha
    unfold backS at ha
    simp only [Bool.and_eq_true, Bool.not_eq_true'] at ha
    exact ⟨ha.2.1, moves_at (by decide) hm ha.2.2⟩
  have both : betweenS s d 1 3 = true → betweenS s d 3 5 = false := by
    intro hb
    unfold betweenS at hb ⊢
    simp only [Bool.and_eq_true, bne_iff_ne] at hb
    rw [beqF hb.2.2]; rfl
  have ah : ∀ (hl : liveS s = true) (hg : goesBack s = false), aheadS s d = true → Rules s d := by
    intro hl hg ha
    obtain ⟨j, j1, j2, j3⟩ := hah ha
    refine ⟨fun h => absurd h (by rw [hl]; decide), both, fun _ => ⟨hg, ?_⟩, fun _ => ⟨j, j1, j2, by omega, by rw [hg, j3]; rfl⟩⟩
    intro h5
    unfold liveS at hl
    simp only [decide_eq_true_eq] at hl
    omega
  have ba : ∀ (hl : liveS s = true) (hg : goesBack s = true), backS s d = true → Rules s d := by
    intro hl hg ha
    obtain ⟨hb, j, j1, j2, j3⟩ := hba ha
    exact ⟨fun h => absurd h (by rw [hl]; decide), both, fun h => absurd h (by rw [hb]; decide), fun _ => ⟨j, j1, j2, by omega, by rw [hg, j3]; rfl⟩⟩
  unfold restS at hr
  by_cases h3 : s.2.2.2.2.2.1 = 3
  · rw [if_pos h3] at hr
    have hl : liveS s = true := decide_eq_true (by omega)
    by_cases w1 : s.2.2.2.2.2.2.1 = 1
    · rw [if_pos w1] at hr; exact ah hl (decide_eq_false (by omega)) hr
    · rw [if_neg w1] at hr
      by_cases w2 : s.2.2.2.2.2.2.1 = 2
      · rw [if_pos w2] at hr; exact ba hl (decide_eq_true (by omega)) hr
      · rw [if_neg w2] at hr; cases hr
  · rw [if_neg h3] at hr
    by_cases w0 : s.2.2.2.2.2.2.1 ≠ 0
    · rw [if_pos w0] at hr; cases hr
    · rw [if_neg w0] at hr
      by_cases h1 : s.2.2.2.2.2.1 = 1
      · rw [if_pos h1] at hr; exact ah (decide_eq_true (by omega)) (decide_eq_false (by omega)) hr
      · rw [if_neg h1] at hr
        by_cases h2 : s.2.2.2.2.2.1 = 2
        · rw [if_pos h2] at hr; exact ba (decide_eq_true (by omega)) (decide_eq_true (by omega)) hr
        · rw [if_neg h2] at hr
          have hl : liveS s = false := decide_eq_false (by omega)
          have hg : goesBack s = false := decide_eq_false (by omega)
          by_cases h4 : s.2.2.2.2.2.1 = 4
          · rw [if_pos h4] at hr
            simp only [Bool.and_eq_true] at hr
            have ha := hr.2.2.2
            exact ⟨fun _ => ⟨between_done hm ha, between_done hm ha, .inl h4⟩, both, fun _ => ⟨hg, by omega⟩, fun h => absurd h (by rw [hl]; decide)⟩
          · rw [if_neg h4] at hr
            by_cases h5 : s.2.2.2.2.2.1 = 5
            · rw [if_pos h5] at hr
              simp only [Bool.and_eq_true] at hr
              have ha := hr.2.2.2
              have hb : ∀ a b, betweenS s d a b = false := by
                intro a b
                unfold betweenS
                rw [beqF (mark_gone ha _), Bool.false_and]
              exact ⟨fun _ => ⟨hb _ _, hb _ _, .inr h5⟩, both, fun h => absurd h (by unfold boundS; rw [beqF (mark_gone ha _)]; decide), fun h => absurd h (by rw [hl]; decide)⟩
            · rw [if_neg h5] at hr; cases hr
/-! ### The chapter's example -/
abbrev xSaga : Sg := (1, (⟨#[97]⟩ : ByteArray), (⟨#[112, 114, 101, 112, 97, 105, 100]⟩ : ByteArray), (⟨true, 0, (fun _ => (ByteArray.empty, 0, ()))⟩ : Seq (ByteArray × Int × Unit)), 5, 1, 0, 1, 0, 0, (⟨false, 3, (tSel [(2, ()), (1, ()), (0, ())] (0, ()))⟩ : Seq (Int × Unit)), ())
abbrev xDef2 : Df := ((⟨#[112, 114, 101, 112, 97, 105, 100]⟩ : ByteArray), (⟨false, 3, (tSel [(2, 1, 3, 2, 8, 0, ()), (6, 1, 3, 2, 8, 0, ()), (4, 1, 3, 1, 4, 50, ())] (0, 0, 0, 0, 0, 0, ()))⟩ : Seq Stp), ())
abbrev xDef0 : Df := ((⟨#[102, 117, 108, 102, 105, 108]⟩ : ByteArray), (⟨false, 6, (tSel [(1, 1, 0, 1, 1, 40, ()), (2, 1, 3, 1, 8, 30, ()), (3, 1, 0, 1, 1, 0, ()), (4, 2, 3, 1, 8, 0, ()), (5, 3, 0, 1, 1, 0, ()), (6, 3, 5, 1, 8, 0, ())] (0, 0, 0, 0, 0, 0, ()))⟩ : Seq Stp), ())
theorem x_fit2 : fitSg xSaga xDef2 = true := by decide +kernel
theorem x_fit0 : fitSg xSaga xDef0 = false := by decide +kernel
abbrev xDef1 : Df := ((⟨#[112, 105, 99, 107, 117, 112]⟩ : ByteArray), (⟨false, 5, (tSel [(1, 1, 0, 1, 1, 20, ()), (2, 1, 2, 1, 4, 20, ()), (3, 1, 0, 1, 1, 0, ()), (6, 2, 2, 1, 4, 0, ()), (5, 3, 0, 1, 1, 0, ())] (0, 0, 0, 0, 0, 0, ()))⟩ : Seq Stp), ())
def xBuilt : Seq Df := ⟨false, 3, tSel [xDef0, xDef1, xDef2] (ByteArray.empty, (⟨true, 0, fun _ => (0, 0, 0, 0, 0, 0, ())⟩ : Seq Stp), ())⟩
theorem built_is (k : Seq Df → Option α) : draymanref21_Built k = k xBuilt := rfl
theorem built_2 : xBuilt.g 2 = xDef2 := rfl
theorem built_0 : xBuilt.g 0 = xDef0 := rfl
theorem word_2 (k : ByteArray → Option α) : saga_Word 2 k = k (⟨#[117, 110, 100, 111, 105, 110, 103]⟩ : ByteArray) := rfl
theorem word_0 (k : ByteArray → Option α) : saga_Word 0 k = k (⟨#[]⟩ : ByteArray) := rfl
theorem awake24_is (k : Bool → Option α) : draymanlaw24_awake k = k true := by
  have sl : SmL (toL xSaga.2.2.2.1) := ⟨by decide, fun x hx => by cases hx⟩
  have e2 : ∀ k : Bool → Option α, saga_Fit xSaga xDef2 k = k true := fun k => by
    rw [SFit_is (by decide) sl (by decide) (by decide), x_fit2]
  have e0 : ∀ k : Bool → Option α, saga_Fit xSaga xDef0 k = k false := fun k => by
    rw [SFit_is (by decide) sl (by decide) (by decide), x_fit0]
  have eb : boundS xSaga xDef2 = false := by decide +kernel
  have el : liveS xSaga = true := by decide +kernel
  have eg : goesBack xSaga = false := by decide +kernel
  unfold draymanlaw24_awake draymanlaw24_awake_g
  rw [built_is, word_2, beq_self_eq_true, cond_true, word_0, beq_self_eq_true, cond_true, cT (show (2 : Int) < (xBuilt.n : Int) by decide), condT (show Nat.blt 2 xBuilt.n = true from rfl), built_2, e2, cond_true, cT (show (0 : Int) < (xBuilt.n : Int) by decide), condT (show Nat.blt 0 xBuilt.n = true from rfl), built_0, e0, Bool.not_false, cond_true, Live_is, el, cond_true, Back_is, eg, Bool.not_false, cond_true, cT (show (2 : Int) < (xBuilt.n : Int) by decide), condT (show Nat.blt 2 xBuilt.n = true from rfl), Bound_is (by decide), eb]
  rfl
/-- What lies behind several ways, told at each. -/
theorem SagaRules_unj (x1 : Sg) (x2 : Df) (k : Bool → Option Unit) : draymanlaw24_SagaRules x1 x2 k =
  (draymanref24_Few x1 fun r3 =>
    (cond (!(!r3))
      (draymanref21_Few x2 fun r4 =>
        (cond (!(!r4))
          (saga_Fit x1 x2 fun r5 =>
            (cond (!r5)
              (draymanlaw24_awake fun r6 =>
                (k r6))
              (saga_Holds x1 x2 fun r7 =>
                (saga_Keeps x1 x2 fun r8 =>
                  (saga_Live x1 fun r9 =>
                    (cond (!r9)
                      (cond (!r7)
                        (cond (!r8)
                          (cond r7
                            (cond (!r8)
                              (saga_Bound x1 x2 fun r10 =>
                                (cond r10
                                  (saga_Back x1 fun r11 =>
                                    (cond (!r11)
                                      (cond (x1.2.2.2.2.2.1 == 5)
                                        (k false)
                                        (saga_Live x1 fun r12 =>
                                          (cond (!r12)
                                            (cond (!(x1.2.2.2.2.2.1 == 4))
                                              (cond (x1.2.2.2.2.2.1 == 5)
                                                (draymanlaw24_awake fun r13 =>
                                                  (k r13))
                                                (k false))
                                              (draymanlaw24_awake fun r14 =>
                                                (k r14)))
                                            (cond (decide (x1.2.2.2.2.2.2.2.1 ≥ 0))
                                              (cond (decide (x1.2.2.2.2.2.2.2.1 < (x2.2.1.n : Int)))
                                                (cond (decide (x1.2.2.2.2.2.2.2.1 < (x1.2.2.2.2.2.2.2.2.2.2.1.n : Int)))
                                                  (cond ((decide ((0 : Int) ≤ x1.2.2.2.2.2.2.2.1)) && (decide (x1.2.2.2.2.2.2.2.1 < (x1.2.2.2.2.2.2.2.2.2.2.1.n : Int))))
                                                    (saga_Back x1 fun r15 =>
                                                      (cond (((x1.2.2.2.2.2.2.2.2.2.2.1.g x1.2.2.2.2.2.2.2.1.toNat).1 == 3) == r15)
                                                        (draymanlaw24_awake fun r16 =>
                                                          (k r16))
                                                        (k false)))
                                                    none)
                                                  (k false))
                                                (k false))
                                              (k false)))))
                                      (k false)))
                                  (saga_Live x1 fun r17 =>
                                    (cond (!r17)
                                      (cond (!(x1.2.2.2.2.2.1 == 4))
                                        (cond (x1.2.2.2.2.2.1 == 5)
                                          (draymanlaw24_awake fun r18 =>
                                            (k r18))
                                          (k false))
                                        (draymanlaw24_awake fun r19 =>
                                          (k r19)))
                                      (cond (decide (x1.2.2.2.2.2.2.2.1 ≥ 0))
                                        (cond (decide (x1.2.2.2.2.2.2.2.1 < (x2.2.1.n : Int)))
                                          (cond (decide (x1.2.2.2.2.2.2.2.1 < (x1.2.2.2.2.2.2.2.2.2.2.1.n : Int)))
                                            (cond ((decide ((0 : Int) ≤ x1.2.2.2.2.2.2.2.1)) && (decide (x1.2.2.2.2.2.2.2.1 < (x1.2.2.2.2.2.2.2.2.2.2.1.n : Int))))
                                              (saga_Back x1 fun r20 =>
                                                (cond (((x1.2.2.2.2.2.2.2.2.2.2.1.g x1.2.2.2.2.2.2.2.1.toNat).1 == 3) == r20)
                                                  (draymanlaw24_awake fun r21 =>
                                                    (k r21))
                                                  (k false)))
                                              none)
                                            (k false))
                                          (k false))
                                        (k false))))))
                              (k false))
                            (saga_Bound x1 x2 fun r22 =>
                              (cond r22
                                (saga_Back x1 fun r23 =>
                                  (cond (!r23)
                                    (cond (x1.2.2.2.2.2.1 == 5)
                                      (k false)
                                      (saga_Live x1 fun r24 =>
                                        (cond (!r24)
                                          (cond (!(x1.2.2.2.2.2.1 == 4))
                                            (cond (x1.2.2.2.2.2.1 == 5)
                                              (draymanlaw24_awake fun r25 =>
                                                (k r25))
                                              (k false))
                                            (draymanlaw24_awake fun r26 =>
                                              (k r26)))
                                          (cond (decide (x1.2.2.2.2.2.2.2.1 ≥ 0))
                                            (cond (decide (x1.2.2.2.2.2.2.2.1 < (x2.2.1.n : Int)))
                                              (cond (decide (x1.2.2.2.2.2.2.2.1 < (x1.2.2.2.2.2.2.2.2.2.2.1.n : Int)))
                                                (cond ((decide ((0 : Int) ≤ x1.2.2.2.2.2.2.2.1)) && (decide (x1.2.2.2.2.2.2.2.1 < (x1.2.2.2.2.2.2.2.2.2.2.1.n : Int))))
                                                  (saga_Back x1 fun r27 =>
                                                    (cond (((x1.2.2.2.2.2.2.2.2.2.2.1.g x1.2.2.2.2.2.2.2.1.toNat).1 == 3) == r27)
                                                      (draymanlaw24_awake fun r28 =>
                                                        (k r28))
                                                      (k false)))
                                                  none)
                                                (k false))
                                              (k false))
                                            (k false)))))
                                    (k false)))
                                (saga_Live x1 fun r29 =>
                                  (cond (!r29)
                                    (cond (!(x1.2.2.2.2.2.1 == 4))
                                      (cond (x1.2.2.2.2.2.1 == 5)
                                        (draymanlaw24_awake fun r30 =>
                                          (k r30))
                                        (k false))
                                      (draymanlaw24_awake fun r31 =>
                                        (k r31)))
                                    (cond (decide (x1.2.2.2.2.2.2.2.1 ≥ 0))
                                      (cond (decide (x1.2.2.2.2.2.2.2.1 < (x2.2.1.n : Int)))
                                        (cond (decide (x1.2.2.2.2.2.2.2.1 < (x1.2.2.2.2.2.2.2.2.2.2.1.n : Int)))
                                          (cond ((decide ((0 : Int) ≤ x1.2.2.2.2.2.2.2.1)) && (decide (x1.2.2.2.2.2.2.2.1 < (x1.2.2.2.2.2.2.2.2.2.2.1.n : Int))))
                                            (saga_Back x1 fun r32 =>
                                              (cond (((x1.2.2.2.2.2.2.2.2.2.2.1.g x1.2.2.2.2.2.2.2.1.toNat).1 == 3) == r32)
                                                (draymanlaw24_awake fun r33 =>
                                                  (k r33))
                                                (k false)))
                                            none)
                                          (k false))
                                        (k false))
                                      (k false)))))))
                          (k false))
                        (k false))
                      (cond r7
                        (cond (!r8)
                          (saga_Bound x1 x2 fun r34 =>
                            (cond r34
                              (saga_Back x1 fun r35 =>
                                (cond (!r35)
                                  (cond (x1.2.2.2.2.2.1 == 5)
                                    (k false)
                                    (saga_Live x1 fun r36 =>
                                      (cond (!r36)
                                        (cond (!(x1.2.2.2.2.2.1 == 4))
                                          (cond (x1.2.2.2.2.2.1 == 5)
                                            (draymanlaw24_awake fun r37 =>
                                              (k r37))
                                            (k false))
                                          (draymanlaw24_awake fun r38 =>
                                            (k r38)))
                                        (cond (decide (x1.2.2.2.2.2.2.2.1 ≥ 0))
                                          (cond (decide (x1.2.2.2.2.2.2.2.1 < (x2.2.1.n : Int)))
                                            (cond (decide (x1.2.2.2.2.2.2.2.1 < (x1.2.2.2.2.2.2.2.2.2.2.1.n : Int)))
                                              (cond ((decide ((0 : Int) ≤ x1.2.2.2.2.2.2.2.1)) && (decide (x1.2.2.2.2.2.2.2.1 < (x1.2.2.2.2.2.2.2.2.2.2.1.n : Int))))
                                                (saga_Back x1 fun r39 =>
                                                  (cond (((x1.2.2.2.2.2.2.2.2.2.2.1.g x1.2.2.2.2.2.2.2.1.toNat).1 == 3) == r39)
                                                    (draymanlaw24_awake fun r40 =>
                                                      (k r40))
                                                    (k false)))
                                                none)
                                              (k false))
                                            (k false))
                                          (k false)))))
                                  (k false)))
                              (saga_Live x1 fun r41 =>
                                (cond (!r41)
                                  (cond (!(x1.2.2.2.2.2.1 == 4))
                                    (cond (x1.2.2.2.2.2.1 == 5)
                                      (draymanlaw24_awake fun r42 =>
                                        (k r42))
                                      (k false))
                                    (draymanlaw24_awake fun r43 =>
                                      (k r43)))
                                  (cond (decide (x1.2.2.2.2.2.2.2.1 ≥ 0))
                                    (cond (decide (x1.2.2.2.2.2.2.2.1 < (x2.2.1.n : Int)))
                                      (cond (decide (x1.2.2.2.2.2.2.2.1 < (x1.2.2.2.2.2.2.2.2.2.2.1.n : Int)))
                                        (cond ((decide ((0 : Int) ≤ x1.2.2.2.2.2.2.2.1)) && (decide (x1.2.2.2.2.2.2.2.1 < (x1.2.2.2.2.2.2.2.2.2.2.1.n : Int))))
                                          (saga_Back x1 fun r44 =>
                                            (cond (((x1.2.2.2.2.2.2.2.2.2.2.1.g x1.2.2.2.2.2.2.2.1.toNat).1 == 3) == r44)
                                              (draymanlaw24_awake fun r45 =>
                                                (k r45))
                                              (k false)))
                                          none)
                                        (k false))
                                      (k false))
                                    (k false))))))
                          (k false))
                        (saga_Bound x1 x2 fun r46 =>
                          (cond r46
                            (saga_Back x1 fun r47 =>
                              (cond (!r47)
                                (cond (x1.2.2.2.2.2.1 == 5)
                                  (k false)
                                  (saga_Live x1 fun r48 =>
                                    (cond (!r48)
                                      (cond (!(x1.2.2.2.2.2.1 == 4))
                                        (cond (x1.2.2.2.2.2.1 == 5)
                                          (draymanlaw24_awake fun r49 =>
                                            (k r49))
                                          (k false))
                                        (draymanlaw24_awake fun r50 =>
                                          (k r50)))
                                      (cond (decide (x1.2.2.2.2.2.2.2.1 ≥ 0))
                                        (cond (decide (x1.2.2.2.2.2.2.2.1 < (x2.2.1.n : Int)))
                                          (cond (decide (x1.2.2.2.2.2.2.2.1 < (x1.2.2.2.2.2.2.2.2.2.2.1.n : Int)))
                                            (cond ((decide ((0 : Int) ≤ x1.2.2.2.2.2.2.2.1)) && (decide (x1.2.2.2.2.2.2.2.1 < (x1.2.2.2.2.2.2.2.2.2.2.1.n : Int))))
                                              (saga_Back x1 fun r51 =>
                                                (cond (((x1.2.2.2.2.2.2.2.2.2.2.1.g x1.2.2.2.2.2.2.2.1.toNat).1 == 3) == r51)
                                                  (draymanlaw24_awake fun r52 =>
                                                    (k r52))
                                                  (k false)))
                                              none)
                                            (k false))
                                          (k false))
                                        (k false)))))
                                (k false)))
                            (saga_Live x1 fun r53 =>
                              (cond (!r53)
                                (cond (!(x1.2.2.2.2.2.1 == 4))
                                  (cond (x1.2.2.2.2.2.1 == 5)
                                    (draymanlaw24_awake fun r54 =>
                                      (k r54))
                                    (k false))
                                  (draymanlaw24_awake fun r55 =>
                                    (k r55)))
                                (cond (decide (x1.2.2.2.2.2.2.2.1 ≥ 0))
                                  (cond (decide (x1.2.2.2.2.2.2.2.1 < (x2.2.1.n : Int)))
                                    (cond (decide (x1.2.2.2.2.2.2.2.1 < (x1.2.2.2.2.2.2.2.2.2.2.1.n : Int)))
                                      (cond ((decide ((0 : Int) ≤ x1.2.2.2.2.2.2.2.1)) && (decide (x1.2.2.2.2.2.2.2.1 < (x1.2.2.2.2.2.2.2.2.2.2.1.n : Int))))
                                        (saga_Back x1 fun r56 =>
                                          (cond (((x1.2.2.2.2.2.2.2.2.2.2.1.g x1.2.2.2.2.2.2.2.1.toNat).1 == 3) == r56)
                                            (draymanlaw24_awake fun r57 =>
                                              (k r57))
                                            (k false)))
                                        none)
                                      (k false))
                                    (k false))
                                  (k false)))))))))))))
          (draymanlaw24_awake fun r58 =>
            (k r58))))
      (draymanlaw24_awake fun r59 =>
        (k r59)))) := by kernel_rfl
theorem SagaRules_core (s : Sg) (d : Df) (k : Bool → Option Unit) : draymanlaw24_SagaRules s d k = k true := by
  rw [SagaRules_unj]
  simp only [awake24_is, ref24_Few_is, ref21_Few_is]
  cases hf : (decide ((s.2.1.size : Int) ≤ 60) && (decide ((s.2.2.1.size : Int) ≤ 60) && (fewLB (toL s.2.2.2.1) && decide ((s.2.2.2.2.2.2.2.2.2.2.1.n : Int) ≤ 10)))) with
  | false => rfl
  | true =>
    cases hg : (decide ((d.1.size : Int) ≤ 60) && decide ((d.2.1.n : Int) ≤ 10)) with
    | false => rfl
    | true =>
      simp only [Bool.and_eq_true, decide_eq_true_eq] at hf hg
      have hn : d.2.1.n < 900 := by omega
      simp only [SFit_is (show s.2.1.size ≤ 9223372036854775806 by omega) (fewLB_sm hf.2.2.1) (show d.1.size ≤ 9223372036854775806 by omega) hn, Holds_is hn, Keeps_is hn, Live_is, Bound_is hn, Back_is, Bool.not_true, Bool.not_false, cond_true]
      cases hq : fitSg s d with
      | false => rfl
      | true =>
        have hR := rules_of hq
        cases hl : liveS s with
        | false =>
          obtain ⟨r1, r2, r3⟩ := hR.ended hl
          have hmode : (cond (!(s.2.2.2.2.2.1 == 4)) (cond (s.2.2.2.2.2.1 == 5) (k true) (k false)) (k true)) = k true := by
            rcases r3 with r3 | r3
            · rw [beqT r3]; rfl
            · rw [beqF (by omega), beqT r3]; rfl
          simp only [r1, r2, Bool.not_true, Bool.not_false, cond_true, cond_false, hmode]
          cases hb : boundS s d with
          | false => rfl
          | true =>
            obtain ⟨b1, b2⟩ := hR.bound hb
            simp only [b1, beqF b2, Bool.not_false, cond_true, cond_false]
        | true =>
          obtain ⟨j, j1, j2, j3, j4⟩ := hR.live hl
          have hin : (decide ((0 : Int) ≤ (j : Int)) && decide ((j : Int) < (s.2.2.2.2.2.2.2.2.2.2.1.n : Int))) = true := inb j3
          have htail : (cond (decide (s.2.2.2.2.2.2.2.1 ≥ 0)) (cond (decide (s.2.2.2.2.2.2.2.1 < (d.2.1.n : Int))) (cond (decide (s.2.2.2.2.2.2.2.1 < (s.2.2.2.2.2.2.2.2.2.2.1.n : Int))) (cond ((decide ((0 : Int) ≤ s.2.2.2.2.2.2.2.1)) && (decide (s.2.2.2.2.2.2.2.1 < (s.2.2.2.2.2.2.2.2.2.2.1.n : Int)))) (cond (((s.2.2.2.2.2.2.2.2.2.2.1.g s.2.2.2.2.2.2.2.1.toNat).1 == 3) == goesBack s) (k true) (k false)) none) (k false)) (k false)) (k false)) = k true := by
            rw [j1, cT (by omega), cT (by omega), cT (by omega), hin, cond_true, toNatC, j4, beq_self_eq_true, cond_true]
          simp only [Bool.not_true, Bool.not_false, cond_true, cond_false, htail]
          cases h1 : betweenS s d 1 3 with
          | true =>
            have h2 := hR.both h1
            simp only [h2, Bool.not_true, Bool.not_false, cond_true, cond_false]
            cases hb : boundS s d with
            | false => rfl
            | true =>
              obtain ⟨b1, b2⟩ := hR.bound hb
              simp only [b1, beqF b2, Bool.not_false, cond_true, cond_false]
          | false =>
            simp only [cond_false]
            cases hb : boundS s d with
            | false => rfl
            | true =>
              obtain ⟨b1, b2⟩ := hR.bound hb
              simp only [b1, beqF b2, Bool.not_false, cond_true, cond_false]
theorem SagaRules_true (x0 : Tup (.int .i64 (.str (.str (.sl (.str (.int .i64 (.nil))) (.int .i64 (.int .i64 (.int .i64 (.int .i64 (.int .i64 (.int .i64 (.sl (.int .i64 (.nil)) (.nil))))))))))))) (x1 : Tup (.str (.sl (.int .i64 (.int .i64 (.int .i64 (.int .i64 (.int .i64 (.int .i64 (.nil))))))) (.nil)))) (o0 : OkT (.int .i64 (.str (.str (.sl (.str (.int .i64 (.nil))) (.int .i64 (.int .i64 (.int .i64 (.int .i64 (.int .i64 (.int .i64 (.sl (.int .i64 (.nil)) (.nil)))))))))))) x0) (o1 : OkT (.str (.sl (.int .i64 (.int .i64 (.int .i64 (.int .i64 (.int .i64 (.int .i64 (.nil))))))) (.nil))) x1) (k : Bool → Option Unit) : draymanlaw24_SagaRules x0 x1 k = k true := SagaRules_core x0 x1 k
end Go.Rv.Tryd
