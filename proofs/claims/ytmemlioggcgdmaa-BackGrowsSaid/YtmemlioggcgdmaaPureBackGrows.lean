/- BackGrows: for any policy that may be, and up to 40 failures, delays never become less, lie between the base and the cap, double as long as the cap is not met, and sum up to at most the tries and one times the cap. No conditions. -/
import Derived.Test.YtmemlioggcgdmaaHBackx2
namespace Go.Proofs.Ytmemlioggcgdmaa.Pure
open Go.RowKit Go.Proofs.Ytmemlioggcgdmaa.HBack Go.Proofs.YtmemlioggcgdmaaW.PrintWords Go.Proofs.YtmemlioggcgdmaaW.PrintLast

theorem gfit (a b c : Int) : back_Fit.f a b c = some (decide (0 ≤ a ∧ a ≤ 5 ∧ 1 ≤ b ∧ b ≤ c ∧ c ≤ 32)) := by
  unfold back_Fit.f
  by_cases h1 : 0 ≤ a <;> by_cases h2 : a ≤ 5 <;> by_cases h3 : 1 ≤ b <;> by_cases h4 : b ≤ c <;> simp [h1, h2, h3, h4]

theorem g64 {x : Int} (h0 : -9223372036854775808 ≤ x) (h1 : x ≤ 9223372036854775807) : wrap64 x = x := by
  unfold wrap64
  omega

/-- n doubled j times, held at the cap. -/
def dl (c : Int) : Nat → Int → Int
  | 0, n => n
  | j + 1, n => dl c j (if 2 * n ≤ c then 2 * n else c)

theorem dl_range (c : Int) (j : Nat) : ∀ n, 1 ≤ n → n ≤ c → n ≤ dl c j n ∧ dl c j n ≤ c := by
  induction j with
  | zero => intro n h1 h2; exact ⟨Int.le_refl _, h2⟩
  | succ j ih =>
    intro n h1 h2
    have h := ih (if 2 * n ≤ c then 2 * n else c) (by split <;> omega) (by split <;> omega)
    simp only [dl]
    refine ⟨?_, h.2⟩
    have : n ≤ (if 2 * n ≤ c then 2 * n else c) := by split <;> omega
    omega

theorem dl_top (c : Int) (hc : 1 ≤ c) (j : Nat) : dl c j c = c := by
  have := dl_range c j c hc (Int.le_refl _)
  omega

theorem dl_next (c : Int) (j : Nat) : ∀ n, 1 ≤ n → n ≤ c → dl c (j + 1) n = (if 2 * dl c j n ≤ c then 2 * dl c j n else c) := by
  induction j with
  | zero => intro n _ _; rfl
  | succ j ih =>
    intro n h1 h2
    rw [dl, ih (if 2 * n ≤ c then 2 * n else c) (by split <;> omega) (by split <;> omega)]
    rfl

theorem delay_loop (c k : Int) (hc : c ≤ 32) (hc1 : 1 ≤ c) (hk1 : 1 ≤ k) (hk : k ≤ 100) (j : Nat) : ∀ (fuel : Nat) (n i : Int), 1 ≤ n → n ≤ 64 → 0 ≤ i → k - 1 - i = j → j < fuel →
    back_Delay.l0 fuel c n (wrap64 (k - 1)) i = some (dl c j (if n ≤ c then n else c)) := by
  induction j with
  | zero =>
    intro fuel n i h1 h2 h3 h4 h5
    obtain ⟨fuel, rfl⟩ : ∃ m, fuel = m + 1 := ⟨fuel - 1, by omega⟩
    rw [back_Delay.l0, g64 (by omega) (by omega), if_neg (by omega)]
    unfold mn dl
    congr 1
    split <;> split <;> omega
  | succ j ih =>
    intro fuel n i h1 h2 h3 h4 h5
    obtain ⟨fuel, rfl⟩ : ∃ m, fuel = m + 1 := ⟨fuel - 1, by omega⟩
    rw [back_Delay.l0]
    by_cases hn : n ≥ c
    · rw [g64 (x := k - 1) (by omega) (by omega), if_pos (by omega), if_pos hn]
      have : (if n ≤ c then n else c) = c := by split <;> omega
      rw [this, dl_top c hc1]
      unfold mn
      congr 1
      split <;> omega
    · have e := ih fuel (n * 2) (i + 1) (by omega) (by omega) (by omega) (by omega) (by omega)
      rw [g64 (x := k - 1) (by omega) (by omega)] at e ⊢
      rw [if_pos (by omega), if_neg hn, g64 (by omega) (by omega), g64 (by omega) (by omega), e, if_pos (by omega : n ≤ c), dl, Int.mul_comm]

theorem delay_is (b c : Int) (k : Nat) (hb : 1 ≤ b) (hbc : b ≤ c) (hc : c ≤ 32) (hk : k ≤ 60) (fuel : Nat) (hf : 80 ≤ fuel) : back_Delay.f fuel b c ((k : Int) + 1) = some (dl c k b) := by
  unfold back_Delay.f
  rw [gfit]
  simp only [Option.bind_some]
  rw [if_pos (decide_eq_true ⟨by omega, by omega, hb, hbc, hc⟩), if_neg (by omega), delay_loop c (k + 1) hc (by omega) (by omega) (by omega) k fuel b 0 hb (by omega) (by omega) (by omega) (by omega), if_pos hbc]

theorem whole_loop (t b c : Int) (hb : 1 ≤ b) (hbc : b ≤ c) (hc : c ≤ 32) (ht : t ≤ 5) (d : Nat) : ∀ (fuel : Nat) (n : Int) (i : Nat), 0 ≤ n → n ≤ 32 + 32 * i → t - i = d → d + 80 < fuel →
    ∃ r, back_Whole.l0 fuel b c n t i = some r ∧ n ≤ r ∧ r ≤ n + d * c := by
  induction d with
  | zero =>
    intro fuel n i h1 h2 h5 h6
    obtain ⟨fuel, rfl⟩ : ∃ m, fuel = m + 1 := ⟨fuel - 1, by omega⟩
    exact ⟨n, by rw [back_Whole.l0, if_neg (by omega)], by omega, by omega⟩
  | succ d ih =>
    intro fuel n i h1 h2 h5 h6
    obtain ⟨fuel, rfl⟩ : ∃ m, fuel = m + 1 := ⟨fuel - 1, by omega⟩
    have hr := dl_range c i b hb hbc
    have x1 := delay_is b c i hb hbc hc (by omega) fuel (by omega)
    obtain ⟨r, e1, e2, e3⟩ := ih fuel (n + dl c i b) (i + 1) (by omega) (by omega) (by omega) (by omega)
    refine ⟨r, ?_, by omega, ?_⟩
    · rw [back_Whole.l0, if_pos (by omega), g64 (x := (i : Int) + 1) (by omega) (by omega), x1]; simp only [Option.bind_some]
      rw [g64 (by omega) (by omega)]; exact e1
    · have : ((d + 1 : Nat) : Int) * c = d * c + c := by rw [Int.natCast_succ, Int.add_mul, Int.one_mul]
      rw [this]; omega

theorem awake15g : draymanlaw15_awake.f 200 = some true := by decide +kernel

theorem awake_up (d : Nat) : draymanlaw15_awake.f (200 + d) = some true := by
  induction d with
  | zero => exact awake15g
  | succ d ih => exact draymanlaw15_awake.mono _ _ ih

theorem grows_loop (t b c : Int) (hb : 1 ≤ b) (hbc : b ≤ c) (hc : c ≤ 32) (ht0 : 0 ≤ t) (ht : t ≤ 5) (d : Nat) : ∀ (fuel i : Nat), i + d = 40 → d + 250 < fuel →
    draymanlaw15_BackGrows.l0 fuel t c b ((i : Int) + 1) = some true := by
  induction d with
  | zero =>
    intro fuel i h1 h2
    obtain ⟨fuel, rfl⟩ : ∃ m, fuel = m + 1 := ⟨fuel - 1, by omega⟩
    obtain ⟨n, e1, e2, e3⟩ := whole_loop t b c hb hbc hc ht t.toNat fuel c 0 (by omega) (by omega) (by omega) (by omega)
    have e1' : back_Whole.f fuel t b c = some n := by
      unfold back_Whole.f
      rw [gfit]; simp only [Option.bind_some]
      rw [if_pos (decide_eq_true ⟨ht0, ht, hb, hbc, hc⟩)]; exact e1
    have e3' : n ≤ (t + 1) * c := by
      rw [Int.add_mul, Int.one_mul]
      have : ((t.toNat : Nat) : Int) = t := by omega
      rw [this] at e3; omega
    have hm : (t + 1) * c ≤ 192 := by
      have : (t + 1) * c ≤ 6 * 32 := Int.mul_le_mul (by omega) (by omega) (by omega) (by omega)
      omega
    rw [draymanlaw15_BackGrows.l0, if_neg (by omega), e1']; simp only [Option.bind_some]
    rw [g64 (x := t + 1) (by omega) (by omega), g64 (x := (t + 1) * c) (by omega) (by omega), if_pos (by omega), if_pos (by omega)]
    obtain ⟨z, rfl⟩ : ∃ z, fuel = 200 + z := ⟨fuel - 200, by omega⟩
    rw [awake_up]; rfl
  | succ d ih =>
    intro fuel i h1 h2
    obtain ⟨fuel, rfl⟩ : ∃ m, fuel = m + 1 := ⟨fuel - 1, by omega⟩
    have x1 := delay_is b c i hb hbc hc (by omega) fuel (by omega)
    have x2 := delay_is b c (i + 1) hb hbc hc (by omega) fuel (by omega)
    have hr := dl_range c i b hb hbc
    have hr2 := dl_range c (i + 1) b hb hbc
    have hn := dl_next c i b hb hbc
    have h := ih fuel (i + 1) (by omega) (by omega)
    rw [draymanlaw15_BackGrows.l0, if_pos (by omega), x1]; simp only [Option.bind_some]
    rw [g64 (x := (i : Int) + 1 + 1) (by omega) (by omega)]
    rw [Int.natCast_succ] at x2 h
    rw [x2]; simp only [Option.bind_some]
    rw [g64 (x := 2 * dl c i b) (by omega) (by omega)]
    have hy : dl c (i + 1) b = mn (2 * dl c i b) c := by
      rw [hn]; unfold mn
      split <;> split <;> omega
    rw [if_neg (by omega), if_neg (by omega), if_neg (by rw [hn]; split <;> omega), if_pos hy]
    exact h

theorem u8_range {n : Int} (h : (Lit.int .u8 n).wf = true) : 0 ≤ n ∧ n ≤ 255 := by
  simp only [Lit.wf] at h
  rw [Bool.and_eq_true, decide_eq_true_eq, decide_eq_true_eq] at h
  have e : IntKind.u8.max = 255 := by decide
  have e' : IntKind.u8.min = 0 := by decide
  omega

theorem BackGrows : draymanlaw15_BackGrows.Pure := by
  intro a0 a1 a2 h0 h1 h2
  have h0 := u8_range h0
  have h1 := u8_range h1
  have h2 := u8_range h2
  refine ⟨400, ?_⟩
  unfold draymanlaw15_BackGrows.f
  rw [g64 (x := a0) (by omega) (by omega), g64 (x := a1) (by omega) (by omega), g64 (x := a2) (by omega) (by omega)]
  rw [Int.tmod_eq_emod_of_nonneg (by omega : 0 ≤ a0), Int.tmod_eq_emod_of_nonneg (by omega : 0 ≤ a2), Int.tmod_eq_emod_of_nonneg (by omega : 0 ≤ a1)]
  rw [g64 (x := 1 + a2 % 32) (by omega) (by omega)]
  obtain ⟨c, hc⟩ : ∃ c, 1 + a2 % 32 = c := ⟨_, rfl⟩
  rw [hc]
  have hm := Int.emod_lt_of_pos a1 (by omega : 0 < c)
  have hm0 := Int.emod_nonneg a1 (by omega : c ≠ 0)
  rw [g64 (x := 1 + a1 % c) (by omega) (by omega)]
  obtain ⟨b, hb⟩ : ∃ b, 1 + a1 % c = b := ⟨_, rfl⟩
  rw [hb]
  obtain ⟨t, ht⟩ : ∃ t, a0 % 6 = t := ⟨_, rfl⟩
  rw [ht]
  have hd1 := delay_is b c 0 (by omega) (by omega) (by omega) (by omega) 400 (by omega)
  have hd0 : back_Delay.f 400 b c 0 = some 0 := by
    unfold back_Delay.f
    rw [gfit]
    by_cases h : decide ((0 : Int) ≤ 0 ∧ (0 : Int) ≤ 5 ∧ 1 ≤ b ∧ b ≤ c ∧ c ≤ 32) = true
    · simp only [Option.bind_some]; rw [if_pos h]; rfl
    · simp only [Option.bind_some]; rw [if_neg h]
  have hg := grows_loop t b c (by omega) (by omega) (by omega) (by omega) (by omega) 40 399 0 (by omega) (by omega)
  rw [if_neg (by omega), gfit]; simp only [Option.bind_some]
  rw [if_pos (decide_eq_true ⟨by omega, by omega, by omega, by omega, by omega⟩)]
  have hd1' : back_Delay.f 400 b c 1 = some b := hd1
  rw [hd1']; simp only [Option.bind_some]
  rw [if_pos trivial, hd0]; simp only [Option.bind_some]
  exact hg

end Go.Proofs.Ytmemlioggcgdmaa.Pure
