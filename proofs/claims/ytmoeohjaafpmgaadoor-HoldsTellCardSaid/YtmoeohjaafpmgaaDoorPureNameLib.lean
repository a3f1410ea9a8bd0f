/- Names: what the program's and the document's functions on runes and names tell, in plain words: one and the same. No condition but lengths that Go lets be. -/
import Derived.Test.YtmoeohjaafpmgaaDoorE3
import Derived.Test.YtmoeohjaafpmgaaDoorRvW
set_option linter.unusedVariables false
set_option linter.unusedSimpArgs false
namespace Go.Rv.Tryd
open Go Go.Rv
variable {α : Type}

/-! ### Which runes are of names -/
def isR (n : Int) : Bool := decide ((97 ≤ n ∧ n ≤ 122) ∨ (48 ≤ n ∧ n ≤ 57) ∨ n = 45 ∨ (223 ≤ n ∧ n ≤ 255 ∧ n ≠ 247))
theorem isR_T {n : Int} (h : (97 ≤ n ∧ n ≤ 122) ∨ (48 ≤ n ∧ n ≤ 57) ∨ n = 45 ∨ (223 ≤ n ∧ n ≤ 255 ∧ n ≠ 247)) : isR n = true := decide_eq_true h
theorem isR_F {n : Int} (h : ¬ ((97 ≤ n ∧ n ≤ 122) ∨ (48 ≤ n ∧ n ≤ 57) ∨ n = 45 ∨ (223 ≤ n ∧ n ≤ 255 ∧ n ≠ 247))) : isR n = false := decide_eq_false h
theorem bneT {a b : Int} (h : a ≠ b) : (a != b) = true := by simp [h]
theorem bneF {a b : Int} (h : a = b) : (a != b) = false := by simp [h]
theorem beqT {a b : Int} (h : a = b) : (a == b) = true := by simp [h]
theorem beqF {a b : Int} (h : a ≠ b) : (a == b) = false := by simp [h]
theorem cT {β : Type} {p : Prop} [Decidable p] {a b : β} (h : p) : cond (decide p) a b = a := by rw [decide_eq_true h]; rfl
theorem cF {β : Type} {p : Prop} [Decidable p] {a b : β} (h : ¬ p) : cond (decide p) a b = b := by rw [decide_eq_false h]; rfl
theorem cnT {β : Type} {p : Prop} [Decidable p] {a b : β} (h : p) : cond (!decide p) a b = b := by rw [decide_eq_true h]; rfl
theorem cnF {β : Type} {p : Prop} [Decidable p] {a b : β} (h : ¬ p) : cond (!decide p) a b = a := by rw [decide_eq_false h]; rfl
theorem cbT {β : Type} {x y : Int} {a b : β} (h : x = y) : cond (x == y) a b = a := by rw [beqT h]; rfl
theorem cbF {β : Type} {x y : Int} {a b : β} (h : x ≠ y) : cond (x == y) a b = b := by rw [beqF h]; rfl
theorem cnbT {β : Type} {x y : Int} {a b : β} (h : x = y) : cond (!(x == y)) a b = b := by rw [beqT h]; rfl
theorem cnbF {β : Type} {x y : Int} {a b : β} (h : x ≠ y) : cond (!(x == y)) a b = a := by rw [beqF h]; rfl

theorem name_Rune_is (n : Int) (k : Bool → Option α) : name_Rune n k = k (isR n) := by
  unfold name_Rune
  rcases (by omega : (97 ≤ n ∧ n ≤ 122) ∨ (48 ≤ n ∧ n ≤ 57) ∨ n = 45 ∨ (223 ≤ n ∧ n ≤ 255 ∧ n ≠ 247) ∨ n = 247 ∨ n > 255 ∨ n < 45 ∨ (45 < n ∧ n < 48) ∨ (57 < n ∧ n < 97) ∨ (122 < n ∧ n < 223)) with h | h | h | h | h | h | h | h | h | h
  all_goals
    first
      | rw [isR_T (by omega)]
      | rw [isR_F (by omega)]
    repeat first | refine (cT (by omega)).trans ?_ | refine (cF (by omega)).trans ?_ | refine (cbT (by omega)).trans ?_ | refine (cbF (by omega)).trans ?_
    first | rfl | rw [bneT (by omega)] | rw [bneF (by omega)]
theorem ref_Rune_is (n : Int) (k : Bool → Option α) : draymanref02_Rune n k = k (isR n) := by
  unfold draymanref02_Rune
  rcases (by omega : (97 ≤ n ∧ n ≤ 122) ∨ (48 ≤ n ∧ n ≤ 57) ∨ n = 45 ∨ (223 ≤ n ∧ n ≤ 255 ∧ n ≠ 247) ∨ n = 247 ∨ n > 255 ∨ n < 45 ∨ (45 < n ∧ n < 48) ∨ (57 < n ∧ n < 97) ∨ (122 < n ∧ n < 223)) with h | h | h | h | h | h | h | h | h | h
  all_goals
    first
      | rw [isR_T (by omega)]
      | rw [isR_F (by omega)]
    repeat first | refine (cT (by omega)).trans ?_ | refine (cF (by omega)).trans ?_ | refine (cnT (by omega)).trans ?_ | refine (cnF (by omega)).trans ?_ | refine (cnbT (by omega)).trans ?_ | refine (cnbF (by omega)).trans ?_
    first | rfl | rw [bneT (by omega)] | rw [bneF (by omega)]

/-! ### How many runes a text has -/
def countB (s : ByteArray) : Int := match runes s.toList with | some rs => (rs.length : Int) | none => -1
theorem name_Count_is {s : ByteArray} (hs : s.size ≤ 9223372036854775806) (k : Int → Option α) : name_Count s k = k (countB s) := by
  unfold name_Count name_Count_g unicode_utf8_ValidString unicode_utf8_RuneCountInString countB
  rw [decide_eq_true hs]
  simp only [cond_true]
  rw [validD_runes, ← ByteArray.toList_eq]
  cases h : runes s.toList with
  | none => rfl
  | some rs => rw [runeCount_runes h]; rfl

/-! ### Names -/
def nameL : Option (List Nat) → Bool
  | some (r :: rs) => decide (rs.length < 12) && !Nat.beq r 45 && (r :: rs).all fun x => isR x
  | _ => false
/-- Whether a text is a name. -/
def nameB (s : ByteArray) : Bool := nameL (runes s.toList)

theorem drop_ne {s : ByteArray} {p : Nat} (hp : p < s.size) : s.toList.drop p ≠ [] := by
  intro e
  have := congrArg List.length e
  simp only [List.length_drop, List.length_nil] at this
  rw [L_size] at hp; omega
theorem drop_e {s : ByteArray} {p : Nat} (hp : ¬ p < s.size) : s.toList.drop p = [] := List.drop_of_length_le (by rw [L_size] at hp; omega)
theorem runes_cons {l : List UInt8} {r : Nat} {rs : List Nat} (h : runes l = some (r :: rs)) : l ≠ [] ∧ badL l = false ∧ (decR l).1 = r ∧ runes (l.drop (decR l).2) = some rs := by
  have hne : l ≠ [] := by rintro rfl; rw [runes_nil] at h; cases h
  rw [runes_step hne] at h
  split at h
  · cases h
  · rename_i hb
    cases hr : runes (l.drop (decR l).2) with
    | none => rw [hr] at h; cases h
    | some r2 =>
      rw [hr] at h
      simp only [Option.map_some, Option.some.injEq, List.cons.injEq] at h
      exact ⟨hne, by simpa using hb, h.1, by rw [h.2]⟩
theorem runes_nilOf {l : List UInt8} (h : runes l = some []) : l = [] := by
  by_cases hne : l = []
  · exact hne
  · rw [runes_step hne] at h
    split at h
    · cases h
    · cases hr : runes (l.drop (decR l).2) with
      | none => rw [hr] at h; cases h
      | some r2 => rw [hr] at h; cases h

theorem name_loop (kr : Bool → ByteArray → Int → Option α) (k0 : ByteArray → Int → Option α) (k : Bool → Option α) (hk1 : ∀ b s p, kr b s p = k b) (hk0 : ∀ s p, k0 s p = k true) :
    ∀ (n : Nat) (s : ByteArray) (p : Nat) (rs : List Nat), 0 < p → rs.length < n → runes (s.toList.drop p) = some rs → name_Fit_l0_run name_Count name_Rune kr k0 n s (p : Int) = k (rs.all fun x => isR x) := by
  intro n
  induction n with
  | zero => intro s p rs hp0 hn; omega
  | succ n ih =>
    intro s p rs hp0 hn h
    unfold name_Fit_l0_run name_Fit_l0_step
    simp only [Int.toNat_natCast]
    cases rs with
    | nil =>
      have := runes_nilOf h
      have hp : Nat.blt p s.size = false := by
        have h1 := congrArg List.length this
        simp only [List.length_drop, List.length_nil] at h1
        rw [← L_size] at h1
        cases e : Nat.blt p s.size with
        | false => rfl
        | true => rw [Nat.blt_eq] at e; omega
      rw [hp]
      simp only [cond_false, hk0, List.all_nil]
    | cons r rs =>
      obtain ⟨hne, hb, hr, hrs⟩ := runes_cons h
      have hp : Nat.blt p s.size = true := by
        rw [Nat.blt_eq]
        rcases Nat.lt_or_ge p s.size with h1 | h1
        · exact h1
        · exact absurd (drop_e (by omega)) hne
      rw [hp]
      simp only [cond_true, name_Rune_is, decR_at, hr]
      cases hR : isR r with
      | false => simp [hR, hk1]
      | true =>
        have hw := decR_w (s.toList.drop p)
        have hp' : ((p : Int) == 0) = false := beqF (by omega)
        simp only [Bool.not_true, Bool.not_false, cond_true, hp', cond_false]
        rw [List.drop_drop] at hrs
        rw [ih s _ rs (by omega) (by simp only [List.length_cons] at hn; omega) hrs]
        simp [hR]
theorem name_Fit_is {s : ByteArray} (hs : s.size ≤ 9223372036854775806) (k : Bool → Option α) : name_Fit s k = k (nameB s) := by
  unfold name_Fit name_Fit_g
  rw [name_Count_is hs]
  unfold countB nameB
  cases h : runes s.toList with
  | none => rfl
  | some rs =>
    cases rs with
    | nil => rfl
    | cons r rs =>
      simp only [nameL, List.length_cons]
      refine (cnF (by omega)).trans ?_
      by_cases hl : rs.length < 12
      · refine (cF (by omega)).trans ?_
        obtain ⟨hne, hb, hr, hrs⟩ := runes_cons h
        rw [name_Fit_l0_run, name_Fit_l0_step]
        have hp : Nat.blt (Int.toNat 0) s.size = true := by
          rw [Nat.blt_eq, L_size]
          show 0 < _
          exact List.length_pos_iff.2 hne
        have ht : Int.toNat 0 = 0 := rfl
        rw [hp]
        simp only [cond_true, name_Rune_is, ht, decR_at, List.drop_zero, hr, decide_eq_true hl, Bool.true_and]
        cases hR : isR r with
        | false => simp [hR]
        | true =>
          have e0 : (((0 : Nat) : Int) == 0) = true := rfl
          simp only [Bool.not_true, Bool.not_false, cond_true, e0]
          by_cases h45 : r = 45
          · subst h45; rfl
          · rw [cbF (by omega)]
            have hw := decR_w s.toList
            have := name_loop (α := α) (fun x6 s7 p8 => k x6) (fun s9 p10 => k true) k (fun _ _ _ => rfl) (fun _ _ => rfl) 999 s (0 + (decR s.toList).2) rs (by omega) (by omega) (by rw [Nat.zero_add]; exact hrs)
            rw [this]
            have hb : Nat.beq r 45 = false := by
              cases e : Nat.beq r 45 with
              | false => rfl
              | true => rw [Nat.beq_eq] at e; exact absurd e h45
            simp [hb, hR]
      · refine (cT (by omega)).trans ?_
        rw [decide_eq_false hl]; simp

/-! ### The document's runes -/
def moreV (s : ByteArray) (j : Nat) : Int := if j < s.size ∧ (s.toList[j]?.getD 0).toNat / 64 = 2 then (((s.toList[j]?.getD 0).toNat % 64 : Nat) : Int) else -1
theorem byte_lt (s : ByteArray) (j : Nat) : (s.toList[j]?.getD 0).toNat < 256 := (s.toList[j]?.getD 0).toNat_lt
theorem ref_more_is {s : ByteArray} (hs : s.size ≤ 9223372036854775806) (j : Nat) (hj : j ≤ 9223372036854775806) (k : Int → Option α) : draymanref02_more s (j : Int) k = k (moreV s j) := by
  unfold draymanref02_more moreV
  have hb := byte_lt s j
  rw [byteAt_nat]
  generalize (s.toList[j]?.getD 0).toNat = b at hb
  by_cases h : j < s.size
  · refine (cnF (by omega)).trans ?_
    rw [inb h]
    simp only [cond_true]
    by_cases h1 : b < 128
    · refine (cnT (by omega)).trans ?_
      rw [if_neg (by omega)]
    · refine (cnF (by omega)).trans ?_
      by_cases h2 : b > 191
      · refine (cT (by omega)).trans ?_
        rw [if_neg (by omega)]
      · refine (cF (by omega)).trans ?_
        rw [if_pos ⟨h, by omega⟩, wrap64 (x := (b : Int)) (by omega) (by omega), wrap64 (by omega) (by omega)]
        congr 1; omega
  · refine (cnT (by omega)).trans ?_
    rw [if_neg (by omega)]
theorem moreV_cases (s : ByteArray) (j : Nat) : (moreV s j = -1 ∧ ¬ (j < s.size ∧ (s.toList[j]?.getD 0).toNat / 64 = 2)) ∨ (0 ≤ moreV s j ∧ moreV s j ≤ 63 ∧ j < s.size ∧ (s.toList[j]?.getD 0).toNat / 64 = 2 ∧ moreV s j = (((s.toList[j]?.getD 0).toNat % 64 : Nat) : Int)) := by
  unfold moreV
  split
  · rename_i h; right; exact ⟨by omega, by omega, h.1, h.2, rfl⟩
  · rename_i h; left; exact ⟨rfl, h⟩
set_option maxHeartbeats 4000000 in
theorem ref_One_is {s : ByteArray} {i : Nat} (hs : s.size ≤ 9223372036854775800) (hi : i < s.size) (k : Int → Int → Option α) :
    draymanref02_One s (i : Int) k = if badL (s.toList.drop i) then k 0 0 else k ((decR (s.toList.drop i)).1 : Int) ((decR (s.toList.drop i)).2 : Int) := by
  unfold draymanref02_One draymanref02_One_g
  rw [inb hi]
  simp only [cond_true, cond_false, joinD_is, hdI_c, hdB_c, List.tail_cons]
  have e1 : IntKind.i64.wrap ((i : Int) + 1) = ((i + 1 : Nat) : Int) := by rw [wrap64 (by omega) (by omega)]; omega
  have e2 : IntKind.i64.wrap ((i : Int) + 2) = ((i + 2 : Nat) : Int) := by rw [wrap64 (by omega) (by omega)]; omega
  have e3 : IntKind.i64.wrap ((i : Int) + 3) = ((i + 3 : Nat) : Int) := by rw [wrap64 (by omega) (by omega)]; omega
  simp only [e1, e2, e3, ref_more_is (show s.size ≤ 9223372036854775806 by omega) (i + 1) (by omega), ref_more_is (show s.size ≤ 9223372036854775806 by omega) (i + 2) (by omega), ref_more_is (show s.size ≤ 9223372036854775806 by omega) (i + 3) (by omega), byteAt_nat]
  have hb := byte_lt s i
  have hd : badL (s.toList.drop i) = (Nat.beq (decR (s.toList.drop i)).1 65533 && Nat.beq (decR (s.toList.drop i)).2 1) := rfl
  have hN := decR_N (s.toList.drop i)
  have g0 : (s.toList.drop i).getD 0 0 = s.toList[i]?.getD 0 := by simp [List.getD_eq_getElem?_getD]
  have g1 : (s.toList.drop i).getD 1 0 = s.toList[i + 1]?.getD 0 := by simp [List.getD_eq_getElem?_getD]
  have g2 : (s.toList.drop i).getD 2 0 = s.toList[i + 2]?.getD 0 := by simp [List.getD_eq_getElem?_getD]
  have g3 : (s.toList.drop i).getD 3 0 = s.toList[i + 3]?.getD 0 := by simp [List.getD_eq_getElem?_getD]
  have hlen : (s.toList.drop i).length = s.size - i := by rw [List.length_drop, ← L_size]
  rw [g0, g1, g2, g3, hlen] at hN
  rw [hd, hN]
  have m1 := moreV_cases s (i + 1)
  have m2 := moreV_cases s (i + 2)
  have m3 := moreV_cases s (i + 3)
  revert m1 m2 m3
  generalize moreV s (i + 1) = x
  generalize moreV s (i + 2) = y
  generalize moreV s (i + 3) = z
  clear hN hd g0 g1 g2 g3 e1 e2 e3 hlen
  have k1 := byte_lt s (i + 1)
  have k2 := byte_lt s (i + 2)
  have k3 := byte_lt s (i + 3)
  revert hb k1 k2 k3
  generalize (s.toList[i]?.getD 0).toNat = b0
  generalize (s.toList[i + 1]?.getD 0).toNat = b1
  generalize (s.toList[i + 2]?.getD 0).toNat = b2
  generalize (s.toList[i + 3]?.getD 0).toNat = b3
  generalize s.size = N at hi hs
  intro hb k1 k2 k3 m1 m2 m3
  have hx : -1 ≤ x ∧ x ≤ 63 := by clear m2 m3; omega
  have hy : -1 ≤ y ∧ y ≤ 63 := by clear m1 m3; omega
  have hz : -1 ≤ z ∧ z ≤ 63 := by clear m1 m2; omega
  revert m1 m2 m3
  simp (disch := omega) only [wrap64]
  intro m1 m2 m3
  have fin0 : (Nat.beq 65533 65533 && Nat.beq 1 1) = true := rfl
  unfold Lib.decodeN
  by_cases c1 : b0 < 128
  · rw [if_pos c1]
    clear m1 m2 m3
    refine (cT (by omega)).trans ?_
    have : (Nat.beq b0 65533 && Nat.beq 1 1) = false := by
      have : Nat.beq b0 65533 = false := by
        cases e : Nat.beq b0 65533 with
        | false => rfl
        | true => rw [Nat.beq_eq] at e; omega
      rw [this]; rfl
    simp only [this, Bool.false_eq_true, if_false]
    rfl
  rw [if_neg c1]
  have nb2 : ∀ n : Nat, (Nat.beq n 65533 && Nat.beq 2 1) = false := fun n => by cases Nat.beq n 65533 <;> rfl
  have nb3 : ∀ n : Nat, (Nat.beq n 65533 && Nat.beq 3 1) = false := fun n => by cases Nat.beq n 65533 <;> rfl
  have nb4 : ∀ n : Nat, (Nat.beq n 65533 && Nat.beq 4 1) = false := fun n => by cases Nat.beq n 65533 <;> rfl
  by_cases d2 : b0 / 32 = 6 ∧ (1 < N - i ∧ b1 / 64 = 2)
  · rw [if_pos d2]
    have h1 : x = ((b1 % 64 : Nat) : Int) := by clear m2 m3; omega
    have h2 : 192 ≤ b0 ∧ b0 ≤ 223 := by clear m1 m2 m3; omega
    clear m1 m2 m3 d2 c1 hx hy hz
    by_cases d3 : b0 % 32 * 64 + b1 % 64 ≥ 128
    · rw [if_pos d3]
      repeat first | refine (cT (by omega)).trans ?_ | refine (cF (by omega)).trans ?_
      simp only [nb2, Bool.false_eq_true, if_false]
      congr 1; omega
    · rw [if_neg d3]
      repeat first | refine (cT (by omega)).trans ?_ | refine (cF (by omega)).trans ?_
      simp only [fin0, if_true]
  rw [if_neg d2]
  by_cases d3 : b0 / 16 = 14 ∧ (1 < N - i ∧ b1 / 64 = 2) ∧ (2 < N - i ∧ b2 / 64 = 2)
  · rw [if_pos d3]
    have h1 : x = ((b1 % 64 : Nat) : Int) := by clear m2 m3 d2; omega
    have h3 : y = ((b2 % 64 : Nat) : Int) := by clear m1 m3 d2; omega
    have h2 : 224 ≤ b0 ∧ b0 ≤ 239 := by clear m1 m2 m3 d2; omega
    clear m1 m2 m3 d2 d3 c1 hx hy hz
    by_cases d4 : b0 % 16 * 4096 + b1 % 64 * 64 + b2 % 64 ≥ 2048 ∧ (b0 % 16 * 4096 + b1 % 64 * 64 + b2 % 64 < 55296 ∨ (57344 ≤ b0 % 16 * 4096 + b1 % 64 * 64 + b2 % 64 ∧ b0 % 16 * 4096 + b1 % 64 * 64 + b2 % 64 ≤ 1114111))
    · rw [if_pos d4]
      rcases d4.2 with d5 | d5
      all_goals
        repeat first | refine (cT (by omega)).trans ?_ | refine (cF (by omega)).trans ?_ | refine (cnT (by omega)).trans ?_ | refine (cnF (by omega)).trans ?_
        simp only [nb3, Bool.false_eq_true, if_false]
        congr 1; omega
    · rw [if_neg d4]
      simp only [fin0, if_true]
      rcases (by omega : b0 % 16 * 4096 + b1 % 64 * 64 + b2 % 64 < 2048 ∨ (55296 ≤ b0 % 16 * 4096 + b1 % 64 * 64 + b2 % 64 ∧ b0 % 16 * 4096 + b1 % 64 * 64 + b2 % 64 < 57344)) with d5 | d5
      all_goals
        repeat first | refine (cT (by omega)).trans ?_ | refine (cF (by omega)).trans ?_ | refine (cnT (by omega)).trans ?_ | refine (cnF (by omega)).trans ?_
        rfl
  rw [if_neg d3]
  by_cases d4 : b0 / 8 = 30 ∧ (1 < N - i ∧ b1 / 64 = 2) ∧ (2 < N - i ∧ b2 / 64 = 2) ∧ (3 < N - i ∧ b3 / 64 = 2)
  · rw [if_pos d4]
    have h1 : x = ((b1 % 64 : Nat) : Int) := by clear m2 m3 d2 d3; omega
    have h3 : y = ((b2 % 64 : Nat) : Int) := by clear m1 m3 d2 d3; omega
    have h4 : z = ((b3 % 64 : Nat) : Int) := by clear m1 m2 d2 d3; omega
    have h2 : 240 ≤ b0 ∧ b0 ≤ 247 := by clear m1 m2 m3 d2 d3; omega
    clear m1 m2 m3 d2 d3 d4 c1 hx hy hz
    by_cases d5 : b0 % 8 * 262144 + b1 % 64 * 4096 + b2 % 64 * 64 + b3 % 64 ≥ 65536 ∧ (b0 % 8 * 262144 + b1 % 64 * 4096 + b2 % 64 * 64 + b3 % 64 < 55296 ∨ (57344 ≤ b0 % 8 * 262144 + b1 % 64 * 4096 + b2 % 64 * 64 + b3 % 64 ∧ b0 % 8 * 262144 + b1 % 64 * 4096 + b2 % 64 * 64 + b3 % 64 ≤ 1114111))
    · rw [if_pos d5]
      repeat first | refine (cT (by omega)).trans ?_ | refine (cF (by omega)).trans ?_ | refine (cnT (by omega)).trans ?_ | refine (cnF (by omega)).trans ?_
      simp only [nb4, Bool.false_eq_true, if_false]
      congr 1; omega
    · rw [if_neg d5]
      simp only [fin0, if_true]
      rcases (by omega : b0 % 8 * 262144 + b1 % 64 * 4096 + b2 % 64 * 64 + b3 % 64 < 65536 ∨ (1114111 < b0 % 8 * 262144 + b1 % 64 * 4096 + b2 % 64 * 64 + b3 % 64 ∧ b0 ≤ 244) ∨ 244 < b0) with d6 | d6 | d6
      all_goals
        repeat first | refine (cT (by omega)).trans ?_ | refine (cF (by omega)).trans ?_ | refine (cnT (by omega)).trans ?_ | refine (cnF (by omega)).trans ?_
        rfl
  rw [if_neg d4]
  simp only [fin0, if_true]
  have key : (b0 < 192 ∨ 247 < b0) ∨ (b0 / 32 = 6 ∧ x = -1) ∨ (b0 / 16 = 14 ∧ (x = -1 ∨ (0 ≤ x ∧ y = -1))) ∨ (b0 / 8 = 30 ∧ (x = -1 ∨ (0 ≤ x ∧ y = -1) ∨ (0 ≤ x ∧ 0 ≤ y ∧ z = -1))) := by
    rcases (by clear m1 m2 m3 d2 d3 d4; omega : (b0 < 192 ∨ 247 < b0) ∨ b0 / 32 = 6 ∨ b0 / 16 = 14 ∨ b0 / 8 = 30) with q | q | q | q
    · exact .inl q
    · refine .inr (.inl ⟨q, ?_⟩); clear m2 m3 d3 d4; omega
    · refine .inr (.inr (.inl ⟨q, ?_⟩)); clear m3 d2 d4; omega
    · refine .inr (.inr (.inr ⟨q, ?_⟩)); clear d2 d3; omega
  clear m1 m2 m3 d2 d3 d4
  rcases (by omega : b0 < 194 ∨ (194 ≤ b0 ∧ b0 ≤ 223 ∧ x = -1) ∨ (224 ≤ b0 ∧ b0 ≤ 239 ∧ x = -1) ∨ (224 ≤ b0 ∧ b0 ≤ 239 ∧ 0 ≤ x ∧ y = -1) ∨ (240 ≤ b0 ∧ b0 ≤ 244 ∧ x = -1) ∨ (240 ≤ b0 ∧ b0 ≤ 244 ∧ 0 ≤ x ∧ y = -1) ∨ (240 ≤ b0 ∧ b0 ≤ 244 ∧ 0 ≤ x ∧ 0 ≤ y ∧ z = -1) ∨ 244 < b0) with d5 | d5 | d5 | d5 | d5 | d5 | d5 | d5
  all_goals
    clear key
    repeat first | refine (cT (by omega)).trans ?_ | refine (cF (by omega)).trans ?_ | refine (cnT (by omega)).trans ?_ | refine (cnF (by omega)).trans ?_
    rfl
theorem seq_get {β : Type} {q : Seq β} {l : List β} (h : toL q = l) {i : Nat} (hi : i < l.length) : q.g i = l[i] := by
  subst h
  simp [toL]
theorem seq_n {β : Type} {q : Seq β} {l : List β} (h : toL q = l) : q.n = l.length := by rw [← h, toL_length]
def runeSeq (rs : List Nat) : List (Int × Unit) := rs.map fun (r : Nat) => ((r : Int), ())
def rqGo : Nat → List UInt8 → Seq (Int × Unit) → Seq (Int × Unit)
  | 0, _, q => q
  | n + 1, l, q => if l.isEmpty || badL l then q else rqGo n (l.drop (decR l).2) ⟨(q.nl && false), (q.n + 1), (tApp q.n q.g (fun _ => (((decR l).1 : Int), ())))⟩
theorem rqGo_toL : ∀ (n : Nat) (l : List UInt8) (q : Seq (Int × Unit)) (rs : List Nat), l.length < n → runes l = some rs → toL (rqGo n l q) = toL q ++ runeSeq rs := by
  intro n
  induction n with
  | zero => intro l q rs hn; omega
  | succ n ih =>
    intro l q rs hn h
    cases rs with
    | nil =>
      have := runes_nilOf h
      subst this
      simp [rqGo, runeSeq]
    | cons r rs =>
      obtain ⟨hne, hb, hr, hrs⟩ := runes_cons h
      have he : (l.isEmpty || badL l) = false := by rw [hb]; simpa using hne
      have hw := decR_w l
      have hp := List.length_pos_iff.2 hne
      rw [rqGo, if_neg (by rw [he]; simp), ih _ _ rs (by rw [List.length_drop]; omega) hrs, toL_app (q.nl && false) q.nl true q.n 1 q.g, hr]
      simp only [toL_one, runeSeq, List.map_cons, List.append_assoc, List.singleton_append]
theorem ref_Runes_loop {s : ByteArray} (hS : s.size ≤ 17592186044415) (kr : Seq (Int × Unit) → Bool → Seq (Int × Unit) → Seq (Int × Unit) → Option α) (k0 : Seq (Int × Unit) → Seq (Int × Unit) → Option α) :
    ∀ (n : Nat) (i : Nat) (q4 q5 : Seq (Int × Unit)), s.size - i < n → q5.n ≤ i →
      draymanref02_Runes_l0_run draymanref02_One kr k0 n s (i : Int) q4 q5 = (match runes (s.toList.drop i) with | none => kr (⟨true, 0, fun _ => (0, ())⟩) false q4 (rqGo n (s.toList.drop i) q5) | some _ => k0 q4 (rqGo n (s.toList.drop i) q5)) := by
  intro n
  induction n with
  | zero => intro i q4 q5 hn; omega
  | succ n ih =>
    intro i q4 q5 hn hq
    unfold draymanref02_Runes_l0_run draymanref02_Runes_l0_step
    by_cases hi : i < s.size
    · rw [cT (by omega), ref_One_is (by omega) hi]
      have hne := drop_ne hi
      have hem : (s.toList.drop i).isEmpty = false := by simpa using hne
      rw [runes_step hne, rqGo]
      by_cases hb : badL (s.toList.drop i) = true
      · simp only [hb, Bool.or_true, if_true]
        rfl
      · have hb' : badL (s.toList.drop i) = false := by simpa using hb
        simp only [hb', hem, Bool.or_false, Bool.false_eq_true, if_false]
        have hw := decR_w (s.toList.drop i)
        have hle := decR_le hne
        rw [List.length_drop, ← L_size] at hle
        rw [cbF (by omega), cT (by omega)]
        have e : IntKind.i64.wrap ((i : Int) + ((decR (s.toList.drop i)).2 : Int)) = ((i + (decR (s.toList.drop i)).2 : Nat) : Int) := by rw [wrap64 (by omega) (by omega)]; omega
        rw [e, ih (i + (decR (s.toList.drop i)).2) q4 _ (by omega) (by show q5.n + 1 ≤ _; omega), List.drop_drop]
        cases runes (s.toList.drop (i + (decR (s.toList.drop i)).2)) <;> rfl
    · rw [cF (by omega)]
      have e := drop_e hi
      rw [e]
      rfl
/-- The document's runes of a text. -/
theorem ref_Runes_is {s : ByteArray} (hs : s.size < 1000) : ∃ (q : Seq (Int × Unit)) (b : Bool), (∀ k : Seq (Int × Unit) → Bool → Option α, draymanref02_Runes s k = k q b) ∧ ((runes s.toList = none ∧ b = false) ∨ ∃ rs, runes s.toList = some rs ∧ b = true ∧ toL q = runeSeq rs) := by
  unfold draymanref02_Runes draymanref02_Runes_g
  have key := fun k : Seq (Int × Unit) → Bool → Option α => ref_Runes_loop (α := α) (s := s) (by omega) (fun x8 x9 q10 q11 => k x8 x9) (fun q12 q13 => k q13 true) 1000 0 ⟨true, 0, fun _ => (0, ())⟩ ⟨true, 0, fun _ => (0, ())⟩ (by omega) (Nat.le_refl _)
  rw [List.drop_zero] at key
  cases h : runes s.toList with
  | none => exact ⟨_, false, fun k => by have := key k; rw [h] at this; exact this, .inl ⟨rfl, rfl⟩⟩
  | some rs =>
    refine ⟨_, true, fun k => by have := key k; rw [h] at this; exact this, .inr ⟨rs, rfl, rfl, ?_⟩⟩
    rw [rqGo_toL 1000 s.toList _ rs (by rw [← L_size]; omega) h]
    rfl
theorem runeSeq_get {q : Seq (Int × Unit)} {rs : List Nat} (h : toL q = runeSeq rs) : q.n = rs.length ∧ ∀ i (hi : i < rs.length), (q.g i).1 = (rs[i] : Int) := by
  refine ⟨by rw [seq_n h]; simp [runeSeq], fun i hi => ?_⟩
  rw [seq_get h (by simpa [runeSeq] using hi)]
  simp [runeSeq]
theorem ref_Fit_loop (k : Bool → Option α) (q : Seq (Int × Unit)) (rs : List Nat) (h : toL q = runeSeq rs) (hrs : rs.length < 900) : ∀ (n i : Nat), rs.length - i < n → draymanref02_Fit_l0_run draymanref02_Runes draymanref02_Rune (fun x => k x) (k true) n q (i : Int) = k ((rs.drop i).all fun x => isR x) := by
  obtain ⟨hn, hg⟩ := runeSeq_get h
  intro n
  induction n with
  | zero => intro i hi; omega
  | succ n ih =>
    intro i hi
    unfold draymanref02_Fit_l0_run draymanref02_Fit_l0_step
    by_cases hl : i < rs.length
    · rw [cT (by omega), inb (by omega), cond_true, toNatC, hg i hl, ref_Rune_is, List.drop_eq_getElem_cons hl, List.all_cons]
      cases hR : isR (rs[i] : Int) with
      | false => rfl
      | true => rw [wrap_succ (by omega)]; exact ih (i + 1) (by omega)
    · rw [cF (by omega), List.drop_of_length_le (by omega)]; rfl
theorem nameL_long {s : ByteArray} (h : 48 < s.size) : nameB s = false := by
  unfold nameB
  cases hr : runes s.toList with
  | none => rfl
  | some rs =>
    have := (runes_len _ _ hr).2
    rw [← L_size] at this
    cases rs with
    | nil => rfl
    | cons r rs =>
      simp only [List.length_cons] at this
      simp only [nameL]
      rw [decide_eq_false (by omega)]
      rfl
/-- THE DOCUMENT's NAMES ARE THE PROGRAM's. -/
theorem ref_Fit_is {s : ByteArray} (k : Bool → Option α) : draymanref02_Fit s k = k (nameB s) := by
  unfold draymanref02_Fit draymanref02_Fit_g
  by_cases hs : (s.size : Int) > 48
  · rw [cT hs, nameL_long (by omega)]
  · rw [cF hs]
    obtain ⟨q, b, hk, hq⟩ := ref_Runes_is (α := α) (s := s) (by omega)
    rw [hk]
    unfold nameB
    rcases hq with ⟨hr, rfl⟩ | ⟨rs, hr, rfl, hq⟩
    · rw [hr]; rfl
    · rw [hr]
      obtain ⟨hn, hg⟩ := runeSeq_get hq
      rw [hn]
      simp only [Bool.not_true, Bool.not_false, cond_true]
      cases rs with
      | nil => rfl
      | cons r rs =>
        simp only [List.length_cons, nameL]
        rw [cnF (by omega)]
        by_cases hl : rs.length < 12
        · rw [cnF (by omega), cT (by omega), hg 0 (by simp), decide_eq_true hl, Bool.true_and]
          by_cases h45 : r = 45
          · subst h45; rfl
          · rw [cbF (show ((r :: rs)[0] : Int) ≠ 45 by simp; omega)]
            have hb : Nat.beq r 45 = false := by
              cases e : Nat.beq r 45 with
              | false => rfl
              | true => rw [Nat.beq_eq] at e; exact absurd e h45
            have := ref_Fit_loop (α := α) k q (r :: rs) hq (by simp only [List.length_cons]; omega) 1000 0 (by simp only [List.length_cons]; omega)
            refine Eq.trans this ?_
            rw [List.drop_zero, hb]; rfl
        · rw [cnT (by omega), decide_eq_false hl]; rfl
end Go.Rv.Tryd
