/- BackTells: for any whole numbers, the program's Fit, Delay, Whole and Last of package back answer as the document's. No conditions. -/
import Derived.Test.YtmemlioggcgdmaaHBackx2
namespace Go.Proofs.Ytmemlioggcgdmaa.Pure
open Go.RowKit Go.Proofs.Ytmemlioggcgdmaa.HBack Go.Proofs.YtmemlioggcgdmaaW.PrintWords Go.Proofs.YtmemlioggcgdmaaW.PrintLast

theorem bfit (a b c : Int) : back_Fit.f a b c = some (decide (0 ≤ a ∧ a ≤ 5 ∧ 1 ≤ b ∧ b ≤ c ∧ c ≤ 32)) := by
  unfold back_Fit.f
  by_cases h1 : 0 ≤ a <;> by_cases h2 : a ≤ 5 <;> by_cases h3 : 1 ≤ b <;> by_cases h4 : b ≤ c <;> simp [h1, h2, h3, h4]

theorem rfit (a b c : Int) : draymanref15_Fit.f a b c = some (decide (0 ≤ a ∧ a ≤ 5 ∧ 1 ≤ b ∧ b ≤ c ∧ c ≤ 32)) := by
  unfold draymanref15_Fit.f
  by_cases h1 : 0 ≤ a <;> by_cases h2 : a ≤ 5 <;> by_cases h3 : 1 ≤ b <;> by_cases h4 : b ≤ c <;> by_cases h5 : c ≤ 32 <;> by_cases h6 : 1 ≤ c <;> simp [h1, h2, h3, h4, h5, h6] <;> omega

theorem w64 {x : Int} (h0 : -9223372036854775808 ≤ x) (h1 : x ≤ 9223372036854775807) : wrap64 x = x := by
  unfold wrap64
  omega

/-- Both loops double n till the cap is met or the failures are counted; they come to one number, at least n, at most the cap, or n itself where it is above. -/
theorem delay_loops (c k : Int) (hc : c ≤ 32) (hk1 : 1 ≤ k) (hk : k ≤ 9223372036854775807) (d : Nat) : ∀ (fuel : Nat) (n i : Int), 1 ≤ n → n ≤ c → 0 ≤ i → i ≤ k - 1 → c - n ≤ d → d < fuel → 
    ∃ r, back_Delay.l0 (fuel + 1) c n (wrap64 (k - 1)) i = some r ∧ draymanref15_Delay.l0 (fuel + 1) c k n (i + 1) = some r ∧ n ≤ r ∧ r ≤ c := by
  induction d with
  | zero =>
    intro fuel n i h1 h2 h3 h4 h5 h6
    obtain rfl : n = c := by omega
    refine ⟨n, ?_, ?_, by omega, by omega⟩
    · simp only [back_Delay.l0]; rw [w64 (by omega) (by omega)]
      by_cases h : i < k - 1
      · rw [if_pos h, if_pos (by omega)]; unfold mn; simp
      · rw [if_neg h]; unfold mn; simp
    · simp only [draymanref15_Delay.l0]
      by_cases h : i + 1 < k
      · rw [if_pos h, if_neg (by omega)]; unfold mn; simp
      · rw [if_neg h]; unfold mn; simp
  | succ d ih =>
    intro fuel n i h1 h2 h3 h4 h5 h6
    by_cases hn : n = c
    · subst hn
      refine ⟨n, ?_, ?_, by omega, by omega⟩
      · simp only [back_Delay.l0]; rw [w64 (by omega) (by omega)]
        by_cases h : i < k - 1
        · rw [if_pos h, if_pos (by omega)]; unfold mn; simp
        · rw [if_neg h]; unfold mn; simp
      · simp only [draymanref15_Delay.l0]
        by_cases h : i + 1 < k
        · rw [if_pos h, if_neg (by omega)]; unfold mn; simp
        · rw [if_neg h]; unfold mn; simp
    · by_cases h : i < k - 1
      · by_cases h2n : 2 * n ≤ c
        · obtain ⟨fuel, rfl⟩ : ∃ m, fuel = m + 1 := ⟨fuel - 1, by omega⟩
          obtain ⟨r, e1, e2, e3, e4⟩ := ih fuel (n * 2) (i + 1) (by omega) (by omega) (by omega) (by omega) (by omega) (by omega)
          refine ⟨r, ?_, ?_, by omega, e4⟩
          · rw [back_Delay.l0]; rw [w64 (x := k - 1) (by omega) (by omega)] at e1 ⊢
            rw [if_pos h, if_neg (by omega), w64 (by omega) (by omega), w64 (by omega) (by omega)]; exact e1
          · rw [draymanref15_Delay.l0]
            rw [if_pos (by omega), if_pos (by omega), w64 (by omega) (by omega), w64 (by omega) (by omega), Int.mul_comm]; exact e2
        · obtain ⟨fuel, rfl⟩ : ∃ m, fuel = m + 1 := ⟨fuel - 1, by omega⟩
          refine ⟨c, ?_, ?_, by omega, by omega⟩
          · rw [back_Delay.l0]; rw [w64 (x := k - 1) (by omega) (by omega)]
            rw [if_pos h, if_neg (by omega), w64 (by omega) (by omega), w64 (by omega) (by omega), back_Delay.l0]
            by_cases h' : i + 1 < k - 1
            · rw [if_pos h', if_pos (by omega)]; unfold mn; rw [if_pos (by omega)]
            · rw [if_neg h']; unfold mn; rw [if_pos (by omega)]
          · rw [draymanref15_Delay.l0]
            rw [if_pos (by omega), if_pos (by omega), w64 (by omega) (by omega), w64 (by omega) (by omega), draymanref15_Delay.l0]
            by_cases h' : i + 1 + 1 < k
            · rw [if_pos h', if_neg (by omega)]; unfold mn; rw [if_pos (by omega)]
            · rw [if_neg h']; unfold mn; rw [if_pos (by omega)]
      · refine ⟨n, ?_, ?_, by omega, by omega⟩
        · rw [back_Delay.l0]; rw [w64 (x := k - 1) (by omega) (by omega), if_neg h]; unfold mn; rw [if_neg (by omega)]
        · rw [draymanref15_Delay.l0, if_neg (by omega)]; unfold mn; rw [if_neg (by omega)]

theorem back_Delay.up {k : Nat} {a b c d r : Int} (h : back_Delay.l0 k a b c d = some r) : back_Delay.l0 (k + 1) a b c d = some r := back_Delay.mono_l k _ _ _ _ _ h

theorem delays (b c k : Int) (hk : k ≤ 9223372036854775807) (fuel : Nat) (hf : 40 ≤ fuel) :
    ∃ r, back_Delay.f fuel b c k = some r ∧ draymanref15_Delay.f fuel b c k = some r ∧ 0 ≤ r ∧ r ≤ 32 := by
  unfold back_Delay.f draymanref15_Delay.f
  rw [bfit, rfit]
  simp only [Option.bind_some]
  obtain ⟨fuel, rfl⟩ : ∃ m, fuel = m + 1 := ⟨fuel - 1, by omega⟩
  by_cases hfit : (0 : Int) ≤ 0 ∧ (0 : Int) ≤ 5 ∧ 1 ≤ b ∧ b ≤ c ∧ c ≤ 32
  · rw [if_pos (decide_eq_true hfit), if_pos (decide_eq_true hfit)]
    by_cases hk1 : k < 1
    · exact ⟨0, by simp [hk1], by simp [draymanref15_Delay.j0, hk1], by omega, by omega⟩
    · obtain ⟨fuel, rfl⟩ : ∃ m, fuel = m + 1 := ⟨fuel - 1, by omega⟩
      obtain ⟨r, e1, e2, e3, e4⟩ := delay_loops c k (by omega) (by omega) hk 33 fuel b 0 (by omega) (by omega) (by omega) (by omega) (by omega) (by omega)
      refine ⟨r, ?_, ?_, by omega, by omega⟩
      · rw [if_neg hk1]; exact back_Delay.up e1
      · rw [draymanref15_Delay.j0, if_neg (by simpa using hk1)]; exact e2
  · rw [if_neg (by simpa using hfit), if_neg (by simpa using hfit)]
    exact ⟨0, rfl, by simp [draymanref15_Delay.j0], by omega, by omega⟩

theorem whole_loops (t b c : Int) (ht : t ≤ 5) (d : Nat) : ∀ (fuel : Nat) (n i : Int), 0 ≤ n → n ≤ 32 + 32 * i → 0 ≤ i → i ≤ t → t - i = d → d + 40 < fuel →
    ∃ r, back_Whole.l0 fuel b c n t i = some r ∧ draymanref15_Whole.l0 fuel t b c n (i + 1) = some r := by
  induction d with
  | zero =>
    intro fuel n i h1 h2 h3 h4 h5 h6
    obtain ⟨fuel, rfl⟩ : ∃ m, fuel = m + 1 := ⟨fuel - 1, by omega⟩
    exact ⟨n, by rw [back_Whole.l0, if_neg (by omega)], by rw [draymanref15_Whole.l0, if_neg (by omega)]⟩
  | succ d ih =>
    intro fuel n i h1 h2 h3 h4 h5 h6
    obtain ⟨fuel, rfl⟩ : ∃ m, fuel = m + 1 := ⟨fuel - 1, by omega⟩
    obtain ⟨x, x1, x2, x3, x4⟩ := delays b c (i + 1) (by omega) fuel (by omega)
    obtain ⟨r, e1, e2⟩ := ih fuel (n + x) (i + 1) (by omega) (by omega) (by omega) (by omega) (by omega) (by omega)
    refine ⟨r, ?_, ?_⟩
    · rw [back_Whole.l0, if_pos (by omega), w64 (x := i + 1) (by omega) (by omega), x1]; simp only [Option.bind_some]
      rw [w64 (by omega) (by omega)]; exact e1
    · rw [draymanref15_Whole.l0, if_pos (by omega), x2]; simp only [Option.bind_some]
      rw [w64 (by omega) (by omega), w64 (by omega) (by omega)]; exact e2

theorem wholes (t b c : Int) (fuel : Nat) (hf : 50 ≤ fuel) : ∃ r, back_Whole.f fuel t b c = some r ∧ draymanref15_Whole.f fuel t b c = some r := by
  unfold back_Whole.f draymanref15_Whole.f
  rw [bfit, rfit]
  simp only [Option.bind_some]
  by_cases hfit : 0 ≤ t ∧ t ≤ 5 ∧ 1 ≤ b ∧ b ≤ c ∧ c ≤ 32
  · rw [if_pos (decide_eq_true hfit), if_pos (decide_eq_true hfit)]
    exact whole_loops t b c (by omega) t.toNat fuel c 0 (by omega) (by omega) (by omega) (by omega) (by omega) (by omega)
  · rw [if_neg (by simpa using hfit), if_neg (by simpa using hfit)]
    exact ⟨0, rfl, rfl⟩

theorem awake15 : draymanlaw15_awake.f 60 = some true := by decide +kernel

theorem BackTells : draymanlaw15_BackTells.Pure := by
  intro t b c k _ _ _ hk
  have hk : k ≤ 9223372036854775807 := by
    simp only [Lit.wf] at hk
    rw [Bool.and_eq_true, decide_eq_true_eq, decide_eq_true_eq] at hk
    have h2 := hk.2
    have e : IntKind.i64.max = 9223372036854775807 := by decide
    omega
  refine ⟨60, ?_⟩
  obtain ⟨x, x1, x2, _, _⟩ := delays b c k hk 60 (by omega)
  obtain ⟨y, y1, y2⟩ := wholes t b c 60 (by omega)
  unfold draymanlaw15_BackTells.f back_Last.f draymanref15_Last.f
  rw [bfit, rfit, x1, x2, y1, y2, awake15]
  simp

end Go.Proofs.Ytmemlioggcgdmaa.Pure
