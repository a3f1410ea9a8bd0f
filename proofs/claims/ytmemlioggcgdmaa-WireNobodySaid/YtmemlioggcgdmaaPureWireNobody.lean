/- The plain law of WireNobody. No condition. -/
import Derived.Test.YtmemlioggcgdmaaE1
import Derived.Test.YtmemlioggcgdmaaPureWireWrites
set_option linter.unusedVariables false
set_option linter.unusedSimpArgs false
namespace Go.Rv.Try
open Go Go.Rv Go.RowKit
theorem rdInt_bad (low high : Int) : rdInt low high badR = (0, badR) := by
  unfold rdInt
  have : badR.2.1 = false := rfl
  rw [this]
theorem badR_g : badR.2.1 = false := rfl
theorem rdText_bad (most : Int) : rdText most badR = (mkB [], badR) := by
  unfold rdText
  rw [rdInt_bad, if_neg]
  rintro ⟨h, _⟩
  rw [badR_g] at h
  cases h
theorem rdList_bad (most : Int) : rdList most badR = (0, badR) := by
  unfold rdList
  rw [rdInt_bad, if_neg]
  rintro ⟨h, _⟩
  rw [badR_g] at h
  cases h
theorem rdFlag_bad : rdFlag badR = (false, badR) := by
  unfold rdFlag
  rw [badR_g]
theorem badR_size : badR.1.size = 0 := rfl
theorem nI (l h : Int) (k : Int → Option Unit) : wire_Reader_Int_s1 l h k = k 0 := rfl
theorem nF (k : Bool → Option Unit) : wire_Reader_Flag_s1 k = k false := rfl
theorem nT (h : Int) (k : ByteArray → Option Unit) : wire_Reader_Text_s1 h k = k (⟨#[]⟩ : ByteArray) := rfl
theorem nL (h : Int) (k : Int → Option Unit) : wire_Reader_List_s1 h k = k 0 := rfl
theorem nLf (k : Int → Option Unit) : wire_Reader_Left_s1 k = k 0 := rfl
theorem nD (k : Bool → Option Unit) : wire_Reader_Done_s1 k = k false := rfl
theorem WireNobody_true (x0 : Tup (.int .i64 (.nil))) (x1 : Tup (.int .i64 (.nil))) (o0 : OkT (.int .i64 (.nil)) x0) (o1 : OkT (.int .i64 (.nil)) x1) (k : Bool → Option Unit) : draymanlaw03_WireNobody x0.1 x1.1 k = k true := by
  obtain ⟨low, ⟨⟩⟩ := x0
  obtain ⟨high, ⟨⟩⟩ := x1
  show draymanlaw03_WireNobody low high k = k true
  unfold draymanlaw03_WireNobody draymanlaw03_WireNobody_g
  have hz : badR.1.size ≤ 4000000000000 := by rw [badR_size]; omega
  have e1 : rdFlag badR = (false, badR) := rdFlag_bad
  have e2 : rdText high badR = (mkB [], badR) := rdText_bad high
  have e3 : rdList high badR = (0, badR) := rdList_bad high
  have e4 : rdDone badR = false := rfl
  have e5 : ((⟨#[]⟩ : ByteArray), false, ()) = badR := rfl
  have e6 : rdInt low high badR = (0, badR) := rdInt_bad low high
  have e7 : ((mkB []).toList == (⟨#[]⟩ : ByteArray).toList) = true := beqB []
  have e8 : ((⟨#[]⟩ : ByteArray).toList == (⟨#[]⟩ : ByteArray).toList) = true := beqB []
  have e9 : ((0 : Int) != 0) = false := rfl
  have e10 : ((badR.1.size : Int) != 0) = false := by rw [badR_size]; rfl
  rw [nI, e9, Bool.not_false, cond_true, nF, Bool.not_false, cond_true, nT, e8, Bool.not_true, Bool.not_false, cond_true, nL, e9, Bool.not_false, cond_true, nLf, e9, Bool.not_false, cond_true, nD, cond_false, e5, rInt_is _ _ _ hz, e6]
  dsimp only
  rw [e9, Bool.not_false, cond_true, rFlag_is, e1]
  dsimp only
  rw [Bool.not_false, cond_true, rText_is _ _ hz, e2]
  dsimp only
  rw [e7, Bool.not_true, Bool.not_false, cond_true, rList_is _ _ hz, e3]
  dsimp only
  rw [e9, Bool.not_false, cond_true, rLeft_is, e10, Bool.not_false, cond_true, rDone_is, e4, cond_false, awake_is]
end Go.Rv.Try
