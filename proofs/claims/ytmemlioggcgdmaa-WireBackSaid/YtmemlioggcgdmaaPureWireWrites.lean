/- The plain law of WireWrites, and the chapter's examples. No condition but those of the law. -/
import Derived.Test.YtmemlioggcgdmaaE1
import Derived.Test.YtmemlioggcgdmaaPureWireLib
set_option linter.unusedVariables false
set_option linter.unusedSimpArgs false
namespace Go.Rv.Try
open Go Go.Rv Go.RowKit
variable {α : Type}
theorem iL0 : intL 0 = [0] := by
  have : place 0 = 0 := rfl
  rw [intL, intP, this, be_zero (by omega)]; rfl
theorem be1 : be 1 = [1] := by rw [be_pos (by omega), be_zero (by omega)]; rfl
theorem iLm1 : intL (-1) = [1, 1] := by
  have : place (-1) = 1 := rfl
  rw [intL, intP, this, be1]; rfl
theorem iL128 : intL 128 = [2, 1, 0] := by
  have : place 128 = 256 := rfl
  rw [intL, intP, this, be_pos (by omega), be1]; rfl
theorem iL2 : intL 2 = [1, 4] := by
  have : place 2 = 4 := rfl
  rw [intL, intP, this, be_pos (by omega), be_zero (by omega)]; rfl
theorem iL97 : intL (([97, 98] : List UInt8).length : Int) = [1, 4] := iL2
theorem bytes7 : (⟨#[1, 1, 1, 1, 4, 97, 98]⟩ : ByteArray) = mkB (intL (-1) ++ ((if true then 1 else 0) :: (intL (([97, 98] : List UInt8).length : Int) ++ [97, 98] ++ []))) := by
  rw [iLm1, iL97]; rfl
theorem text97 : textB (⟨#[97, 98]⟩ : ByteArray) = mkB [1, 4, 97, 98] := by
  have : textB (⟨#[97, 98]⟩ : ByteArray) = mkB (intL 2) ++ mkB [97, 98] := rfl
  rw [this, mkB_app, iL2]; rfl
theorem sz7 : (⟨#[1, 1, 1, 1, 4, 97, 98]⟩ : ByteArray).size ≤ 4000000000000 := by
  have : (⟨#[1, 1, 1, 1, 4, 97, 98]⟩ : ByteArray).size = 7 := rfl
  omega
theorem sz97 : (⟨#[97, 98]⟩ : ByteArray).size ≤ 4000000000000 := by
  have : (⟨#[97, 98]⟩ : ByteArray).size = 2 := rfl
  omega
theorem beqB (l : List UInt8) : ((mkB l).toList == (⟨l.toArray⟩ : ByteArray).toList) = true := beq_self_eq_true _
theorem rest97 : (mkB (intL (([97, 98] : List UInt8).length : Int) ++ [97, 98] ++ [])).size ≤ 4000000000000 := by
  rw [List.append_nil, mkB_size, List.length_append, iL97]
  have : ([1, 4] : List UInt8).length = 2 := rfl
  have : ([97, 98] : List UInt8).length = 2 := rfl
  omega
theorem e6 : rdInt 0 1 (mkB [], true, ()) = (0, badR) := by unfold rdInt; rw [toL_mkB]; rfl
theorem awake_is (k : Bool → Option α) : draymanlaw03_awake k = k true := by
  unfold draymanlaw03_awake draymanlaw03_awake_g
  rw [wire_Int_is (show okI 0 by unfold okI; omega), wire_Int_is (show okI (-1) by unfold okI; omega), wire_Int_is (show okI 128 by unfold okI; omega), wire_Text_is sz97]
  have e0 : ((intB 0).toList == (⟨#[0]⟩ : ByteArray).toList) = true := by rw [intB, iL0]; exact beqB [0]
  have e1 : ((intB (-1)).toList == (⟨#[1, 1]⟩ : ByteArray).toList) = true := by rw [intB, iLm1]; exact beqB [1, 1]
  have e2 : ((intB 128).toList == (⟨#[2, 1, 0]⟩ : ByteArray).toList) = true := by rw [intB, iL128]; exact beqB [2, 1, 0]
  have e3 : ((mkB [1, 4, 97, 98]).toList == (⟨#[1, 4, 97, 98]⟩ : ByteArray).toList) = true := beqB [1, 4, 97, 98]
  rw [text97, e0, e1, e2, e3, Bool.not_true, Bool.not_false, cond_true, cond_true, cond_true, cond_true]
  rw [rInt_is _ _ _ sz7, bytes7, rdInt_int (show okI (-1) by unfold okI; omega) (by omega) (by omega)]
  dsimp only
  rw [rFlag_is, rdFlag_flag]
  dsimp only
  rw [rText_is _ _ rest97, rdText_text (by simp) (by simp)]
  dsimp only
  have e4 : ((mkB [97, 98]).toList == (⟨#[97, 98]⟩ : ByteArray).toList) = true := beqB [97, 98]
  rw [e4, rDone_is]
  have e5 : rdDone (mkB [], true, ()) = true := rfl
  rw [e5, cond_true, cond_true, rInt_is _ _ _ (Nat.zero_le _), e6]
  dsimp only
  rw [rDone_is]
  rfl

theorem wf_ok {n : Int} (h : (Lit.int .i64 n).wf = true) : okI n := by
  have h2 : (decide (-9223372036854775808 ≤ n) && decide (n ≤ 9223372036854775807)) = true := h
  simp only [Bool.and_eq_true, decide_eq_true_eq] at h2
  exact h2

theorem WireWrites_true (x0 : Tup (.sl (.int .i64 (.nil)) (.nil))) (x1 : Tup (.bool (.nil))) (x2 : Tup (.str (.nil))) (o0 : OkT (.sl (.int .i64 (.nil)) (.nil)) x0) (o1 : OkT (.bool (.nil)) x1) (o2 : OkT (.str (.nil)) x2) (k : Bool → Option Unit) : draymanlaw03_WireWrites x0.1 x1.1 x2.1 k = k true := by
  obtain ⟨l, ⟨⟩⟩ := x0
  obtain ⟨b, ⟨⟩⟩ := x1
  obtain ⟨s, ⟨⟩⟩ := x2
  have hok : ∀ i, i < l.n → okI (l.g i).1 := fun i hi => by
    have h := (o0.1.2.2 i hi).1
    exact wf_ok h
  show draymanlaw03_WireWrites l b s k = k true
  unfold draymanlaw03_WireWrites draymanlaw03_WireWrites_g
  simp only [awake_is]
  by_cases h1 : (l.n : Int) > 20
  · rw [decide_eq_true h1]; rfl
  rw [decide_eq_false h1]
  by_cases h2 : (s.size : Int) > 300
  · rw [decide_eq_true h2]; rfl
  rw [decide_eq_false h2]
  have z : okI 0 := by unfold okI; omega
  have hb : ∀ x : ByteArray, (x.toList == x.toList) = true := fun x => beq_self_eq_true _
  have tail : ∀ n : Int, okI n → (wire_Int n fun r5 => draymanref03_Int n fun r6 => cond (r5.toList == r6.toList) (wire_Flag b fun r7 => draymanref03_Flag b fun r8 => cond (r7.toList == r8.toList) (wire_Text s fun r9 => draymanref03_Text s fun r10 => cond (r9.toList == r10.toList) (wire_Ints l fun r11 => draymanref03_Ints l fun r12 => cond (r11.toList == r12.toList) (k true) (k false)) (k false)) (k false)) (k false)) = k true := by
    intro n hn
    rw [wire_Int_is hn, ref_Int_is hn, hb, cond_true, flag_is, ref_flag_is, hb, cond_true, wire_Text_is (by omega), ref_Text_is (by omega), hb, cond_true, wire_Ints_is l (by omega) hok, ref_Ints_is l (by omega) hok, hb, cond_true]
  rw [Bool.not_false, cond_true, cond_false]
  by_cases h3 : (l.n : Int) > 0
  · simp only [decide_eq_true h3, cond_true]
    exact tail _ (hok 0 (by omega))
  · rw [decide_eq_false h3, cond_false]
    exact tail 0 z
end Go.Rv.Try
