/- Names: what the program tells of them. No condition but lengths that Go lets be. -/
import Derived.Test.YtmoeohjaafpmgaaDoorE1
import Derived.Test.YtmoeohjaafpmgaaDoorRvW
import Derived.Test.YtmoeohjaafpmgaaDoorPureCondLib
set_option linter.unusedVariables false
set_option linter.unusedSimpArgs false
namespace Go.Rv.Tryd
open Go Go.Rv
variable {α : Type}
def isR (n : Int) : Bool := decide ((97 ≤ n ∧ n ≤ 122) ∨ (48 ≤ n ∧ n ≤ 57) ∨ n = 45 ∨ (223 ≤ n ∧ n ≤ 255 ∧ n ≠ 247))
theorem isR_T {n : Int} (h : (97 ≤ n ∧ n ≤ 122) ∨ (48 ≤ n ∧ n ≤ 57) ∨ n = 45 ∨ (223 ≤ n ∧ n ≤ 255 ∧ n ≠ 247)) : isR n = true := decide_eq_true h
theorem isR_F {n : Int} (h : ¬ ((97 ≤ n ∧ n ≤ 122) ∨ (48 ≤ n ∧ n ≤ 57) ∨ n = 45 ∨ (223 ≤ n ∧ n ≤ 255 ∧ n ≠ 247))) : isR n = false := decide_eq_false h
theorem name_Rune_is (n : Int) (k : Bool → Option α) : name_Rune n k = k (isR n) := by
  unfold name_Rune
  rcases (by omega : (97 ≤ n ∧ n ≤ 122) ∨ (48 ≤ n ∧ n ≤ 57) ∨ n = 45 ∨ (223 ≤ n ∧ n ≤ 255 ∧ n ≠ 247) ∨ n = 247 ∨ n > 255 ∨ n < 45 ∨ (45 < n ∧ n < 48) ∨ (57 < n ∧ n < 97) ∨ (122 < n ∧ n < 223)) with h | h | h | h | h | h | h | h | h | h
  all_goals
    first
      | rw [isR_T (by omega)]
      | rw [isR_F (by omega)]
    repeat first | refine (cT (by omega)).trans ?_ | refine (cF (by omega)).trans ?_ | refine (cbT (by omega)).trans ?_ | refine (cbF (by omega)).trans ?_
    first | rfl | rw [bneT (by omega)] | rw [bneF (by omega)]
def countB (s : ByteArray) : Int := match runes s.toList with | some rs => (rs.length : Int) | none => -1
theorem name_Count_is {s : ByteArray} (hs : s.size ≤ 9223372036854775806) (k : Int → Option α) : name_Count s k = k (countB s) := by
  unfold name_Count name_Count_g unicode_utf8_ValidString unicode_utf8_RuneCountInString countB
  rw [decide_eq_true hs]
  simp only [cond_true]
  rw [validD_runes, ← ByteArray.toList_eq]
  cases h : runes s.toList with
  | none => rfl
  | some rs => rw [runeCount_runes h]; rfl

def nameL : Option (List Nat) → Bool
  | some (r :: rs) => decide (rs.length < 12) && !Nat.beq r 45 && (r :: rs).all fun x => isR x
  | _ => false
/-- Whether a text is a name. -/
def nameB (s : ByteArray) : Bool := nameL (runes s.toList)

theorem drop_ne {s : ByteArray} {p : Nat} (hp : p < s.size) : s.toList.drop p ≠ [] := by
  intro e
  have := congrArg List.length e
  simp only [List.length_drop, List.length_nil] at this
  rw [L_size] at hp; omega
theorem drop_e {s : ByteArray} {p : Nat} (hp : ¬ p < s.size) : s.toList.drop p = [] := List.drop_of_length_le (by rw [L_size] at hp; omega)
theorem runes_cons {l : List UInt8} {r : Nat} {rs : List Nat} (h : runes l = some (r :: rs)) : l ≠ [] ∧ badL l = false ∧ (decR l).1 = r ∧ runes (l.drop (decR l).2) = some rs := by
  have hne : l ≠ [] := by rintro rfl; rw [runes_nil] at h; cases h
  rw [runes_step hne] at h
  split at h
  · cases h
  · rename_i hb
    cases hr : runes (l.drop (decR l).2) with
    | none => rw [hr] at h; cases h
    | some r2 =>
      rw [hr] at h
      simp only [Option.map_some, Option.some.injEq, List.cons.injEq] at h
      exact ⟨hne, by simpa using hb, h.1, by rw [h.2]⟩
theorem runes_nilOf {l : List UInt8} (h : runes l = some []) : l = [] := by
  by_cases hne : l = []
  · exact hne
  · rw [runes_step hne] at h
    split at h
    · cases h
    · cases hr : runes (l.drop (decR l).2) with
      | none => rw [hr] at h; cases h
      | some r2 => rw [hr] at h; cases h

theorem name_loop (kr : Bool → ByteArray → Int → Option α) (k0 : ByteArray → Int → Option α) (k : Bool → Option α) (hk1 : ∀ b s p, kr b s p = k b) (hk0 : ∀ s p, k0 s p = k true) :
    ∀ (n : Nat) (s : ByteArray) (p : Nat) (rs : List Nat), 0 < p → rs.length < n → runes (s.toList.drop p) = some rs → name_Fit_l0_run name_Count name_Rune kr k0 n s (p : Int) = k (rs.all fun x => isR x) := by
  intro n
  induction n with
  | zero => intro s p rs hp0 hn; omega
  | succ n ih =>
    intro s p rs hp0 hn h
    unfold name_Fit_l0_run name_Fit_l0_step
    simp only [Int.toNat_natCast]
    cases rs with
    | nil =>
      have := runes_nilOf h
      have hp : Nat.blt p s.size = false := by
        have h1 := congrArg List.length this
        simp only [List.length_drop, List.length_nil] at h1
        rw [← L_size] at h1
        cases e : Nat.blt p s.size with
        | false => rfl
        | true => rw [Nat.blt_eq] at e; omega
      rw [hp]
      simp only [cond_false, hk0, List.all_nil]
    | cons r rs =>
      obtain ⟨hne, hb, hr, hrs⟩ := runes_cons h
      have hp : Nat.blt p s.size = true := by
        rw [Nat.blt_eq]
        rcases Nat.lt_or_ge p s.size with h1 | h1
        · exact h1
        · exact absurd (drop_e (by omega)) hne
      rw [hp]
      simp only [cond_true, name_Rune_is, decR_at, hr]
      cases hR : isR r with
      | false => simp [hR, hk1]
      | true =>
        have hw := decR_w (s.toList.drop p)
        have hp' : ((p : Int) == 0) = false := beqF (by omega)
        simp only [Bool.not_true, Bool.not_false, cond_true, hp', cond_false]
        rw [List.drop_drop] at hrs
        rw [ih s _ rs (by omega) (by simp only [List.length_cons] at hn; omega) hrs]
        simp [hR]
theorem name_Fit_is {s : ByteArray} (hs : s.size ≤ 9223372036854775806) (k : Bool → Option α) : name_Fit s k = k (nameB s) := by
  unfold name_Fit name_Fit_g
  rw [name_Count_is hs]
  unfold countB nameB
  cases h : runes s.toList with
  | none => rfl
  | some rs =>
    cases rs with
    | nil => rfl
    | cons r rs =>
      simp only [nameL, List.length_cons]
      refine (cnF (by omega)).trans ?_
      by_cases hl : rs.length < 12
      · refine (cF (by omega)).trans ?_
        obtain ⟨hne, hb, hr, hrs⟩ := runes_cons h
        rw [name_Fit_l0_run, name_Fit_l0_step]
        have hp : Nat.blt (Int.toNat 0) s.size = true := by
          rw [Nat.blt_eq, L_size]
          show 0 < _
          exact List.length_pos_iff.2 hne
        have ht : Int.toNat 0 = 0 := rfl
        rw [hp]
        simp only [cond_true, name_Rune_is, ht, decR_at, List.drop_zero, hr, decide_eq_true hl, Bool.true_and]
        cases hR : isR r with
        | false => simp [hR]
        | true =>
          have e0 : (((0 : Nat) : Int) == 0) = true := rfl
          simp only [Bool.not_true, Bool.not_false, cond_true, e0]
          by_cases h45 : r = 45
          · subst h45; rfl
          · rw [cbF (by omega)]
            have hw := decR_w s.toList
            have := name_loop (α := α) (fun x6 s7 p8 => k x6) (fun s9 p10 => k true) k (fun _ _ _ => rfl) (fun _ _ => rfl) 999 s (0 + (decR s.toList).2) rs (by omega) (by omega) (by rw [Nat.zero_add]; exact hrs)
            rw [this]
            have hb : Nat.beq r 45 = false := by
              cases e : Nat.beq r 45 with
              | false => rfl
              | true => rw [Nat.beq_eq] at e; exact absurd e h45
            simp [hb, hR]
      · refine (cT (by omega)).trans ?_
        rw [decide_eq_false hl]; simp

end Go.Rv.Tryd
