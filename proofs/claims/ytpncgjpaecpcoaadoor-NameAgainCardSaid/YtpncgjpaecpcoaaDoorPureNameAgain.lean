/- The law NameAgain, in plain words: true for every input. -/
import Derived.Test.YtpncgjpaecpcoaaDoorE1
import Derived.Test.YtpncgjpaecpcoaaDoorPureNameFold
set_option linter.unusedVariables false
set_option linter.unusedSimpArgs false
namespace Go.Rv.Tryd
open Go Go.Rv
theorem smallN_name {n : Nat} (h : isR n = true) : smallN n = n := by
  unfold isR at h; simp only [decide_eq_true_eq] at h
  unfold smallN; rw [if_neg (by omega)]
theorem smalls_name : ∀ (rs : List Nat), (rs.all fun x => isR x) = true → rs.map smallN = rs
  | [], _ => rfl
  | r :: rs, h => by
    simp only [List.all_cons, Bool.and_eq_true] at h
    rw [List.map_cons, smallN_name h.1, smalls_name rs h.2]
theorem nameL_all {rs : List Nat} (h : nameL (some rs) = true) : (rs.all fun x => isR x) = true ∧ rs.length ≤ 12 ∧ rs ≠ [] := by
  cases rs with
  | nil => cases h
  | cons r rs =>
    simp only [nameL, Bool.and_eq_true, decide_eq_true_eq] at h
    exact ⟨h.2, by simp only [List.length_cons]; omega, by simp⟩
theorem foldB_same {l : List UInt8} {rs : List Nat} (h : runes l = some rs) (hs : rs.map smallN = rs) : foldB rs = mkB l := by
  unfold foldB
  rw [hs, enc_runes _ _ h]
theorem NameAgain_true (x0 : Tup (.str (.nil))) (o0 : OkT (.str (.nil)) x0) (k : Bool → Option Unit) : draymanlaw02_NameAgain x0.1 k = k true := by
  unfold draymanlaw02_NameAgain draymanlaw02_NameAgain_g
  generalize x0.1 = s
  by_cases h : (s.size : Int) > 80
  · rw [cT h, awake_is]
  · rw [cF h, name_Fold_is (by omega)]
    unfold foldR
    cases hr : runes s.toList with
    | none =>
      have hn : nameB s = false := by unfold nameB; rw [hr]; rfl
      simp only [name_Fit_is (show s.size ≤ 9223372036854775806 by omega), hn, awake_is]
      rw [cneT (by omega)]; simp
    | some rs =>
      have hz := foldB_size rs
      have hl := (runes_len _ _ hr).1
      rw [← L_size] at hl
      cases hN : nameL (some (rs.map smallN)) with
      | false =>
        have hn : nameB s = false := by
          unfold nameB; rw [hr]
          cases hN2 : nameL (some rs) with
          | false => rfl
          | true => rw [smalls_name rs (nameL_all hN2).1, hN2] at hN; cases hN
        simp only [hN, Bool.false_eq_true, if_false, name_Fit_is (show s.size ≤ 9223372036854775806 by omega), hn, awake_is]
        rw [cneT (by omega)]; simp
      | true =>
        obtain ⟨hA, hL, hne⟩ := nameL_all hN
        have hfr := runes_foldB hr
        have hidem := smalls_name _ hA
        have hf2 : foldR (foldB rs) = (foldB rs, 0) := by
          unfold foldR
          rw [hfr]
          simp only [hidem, hN, if_true]
          rw [foldB_same hfr hidem, mkB_L]
        have hc1 : countB (foldB rs) = countB s := by unfold countB; rw [hfr, hr]; simp
        have hb : nameB (foldB rs) = true := by rw [nameB_foldB hr, hN]
        simp only [hN, if_true]
        rw [cneF rfl, name_Fold_is (by omega), hf2, name_Fit_is (by omega), hb, name_Count_is (by omega), name_Count_is (by omega), hc1]
        simp only [cond_true, beq_self_eq_true, name_Fit_is (show s.size ≤ 9223372036854775806 by omega), awake_is]
        have e0 : ((0 : Int) == 0) = true := rfl
        cases hn : nameB s with
        | false => rfl
        | true =>
          have hn' : nameL (some rs) = true := by unfold nameB at hn; rw [hr] at hn; exact hn
          have : foldB rs = s := by rw [foldB_same hr (smalls_name rs (nameL_all hn').1), mkB_L]
          rw [this]
          simp
end Go.Rv.Tryd
