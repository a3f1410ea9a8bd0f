/- What utf8.ValidString and utf8.RuneCountInString do, by the library's own contracts; no condition but that the tables are as they were laid. -/
import Derived.Test.YtmoeohjaafpmgaaDoorProg
import Derived.Test.YtmoeohjaafpmgaaDoorFx
import Derived.Test.YtmoeohjaafpmgaaDoorRvU
import Derived.Shelf.Unicode.ValidAny
import Derived.Shelf.Utf8.RuneCount
namespace Go.Rv.Tryd
open Go Go.Rv Go.RowKit Go.Proofs Go.Shelf Go.Lib
def layValid_ren : Go.Shelf.Ren := ⟨fun | 196 => 116 | 259 => 131 | n => n, fun | 9 => 9 | 4 => 4 | 3 => 3 | 5 => 5 | 12 => 12 | 119 => 123 | 0 => 0 | 46 => 127 | 139 => 126 | 138 => 125 | 53 => 130 | n => n, fun | 3 => 0 | 4 => 1 | n => n⟩
theorem layValid : Lays.n196 Go.Proofs.Tryd.prog layValid_ren := { mixed := by kernel_rfl, f196 := Tryd.func116.trans (congrArg some (by kernel_rfl)), f259 := Tryd.func131.trans (congrArg some (by kernel_rfl)), t0 := Tryd.underlying0, a0 := Tryd.isAgg0, z0 := Tryd.sizeOf0, v0 := Tryd.zeroValue0, t3 := Tryd.underlying3, a3 := Tryd.isAgg3, z3 := Tryd.sizeOf3, v3 := Tryd.zeroValue3, t4 := Tryd.underlying4, a4 := Tryd.isAgg4, z4 := Tryd.sizeOf4, v4 := Tryd.zeroValue4, t5 := Tryd.underlying5, a5 := Tryd.isAgg5, z5 := Tryd.sizeOf5, v5 := Tryd.zeroValue5, t9 := Tryd.underlying9, a9 := Tryd.isAgg9, z9 := Tryd.sizeOf9, v9 := Tryd.zeroValue9, t12 := Tryd.underlying12, a12 := Tryd.isAgg12, z12 := Tryd.sizeOf12, v12 := Tryd.zeroValue12, t46 := Tryd.underlying127, a46 := Tryd.isAgg127, z46 := Tryd.sizeOf127, v46 := Tryd.zeroValue127, t53 := Tryd.underlying130, a53 := Tryd.isAgg130, z53 := Tryd.sizeOf130, v53 := Tryd.zeroValue130, t119 := Tryd.underlying123, a119 := Tryd.isAgg123, z119 := Tryd.sizeOf123, t138 := Tryd.underlying125, a138 := Tryd.isAgg125, z138 := Tryd.sizeOf125, v138 := Tryd.zeroValue125, t139 := Tryd.underlying126, a139 := Tryd.isAgg126, z139 := Tryd.sizeOf126, v139 := Tryd.zeroValue126, g3 := by kernel_rfl, g4 := by kernel_rfl }
def layCount_ren : Go.Shelf.Ren := ⟨fun | 195 => 117 | n => n, fun | 9 => 9 | 3 => 3 | 0 => 0 | 4 => 4 | n => n, fun  | n => n⟩
theorem layCount : Lays.n195 Go.Proofs.Tryd.prog layCount_ren := { mixed := by kernel_rfl, f195 := Tryd.func117.trans (congrArg some (by kernel_rfl)), t0 := Tryd.underlying0, a0 := Tryd.isAgg0, z0 := Tryd.sizeOf0, v0 := Tryd.zeroValue0, t3 := Tryd.underlying3, a3 := Tryd.isAgg3, z3 := Tryd.sizeOf3, v3 := Tryd.zeroValue3, t4 := Tryd.underlying4, a4 := Tryd.isAgg4, z4 := Tryd.sizeOf4, v4 := Tryd.zeroValue4, t9 := Tryd.underlying9, a9 := Tryd.isAgg9, z9 := Tryd.sizeOf9, v9 := Tryd.zeroValue9 }

abbrev unicode_utf8_ValidString_T (α : Type) : Type := ByteArray → (Bool → Option α) → Option α
noncomputable def unicode_utf8_ValidString {α : Type} : unicode_utf8_ValidString_T α := fun s k => cond (decide (s.size ≤ 9223372036854775806)) (k (Lib.validD s.data.toList)) none
noncomputable def unicode_utf8_ValidString_sp {α : Type} (f : unicode_utf8_ValidString_T α) : FunSpec α := ⟨116, [.str], [], fun ds k => f (hdS ds) (fun r1 => k (enc dep (.bool) [.b r1]).1 [])⟩
noncomputable def unicode_utf8_ValidString_spec {α : Type} : FunSpec α := unicode_utf8_ValidString_sp unicode_utf8_ValidString
theorem unicode_utf8_ValidString_ok {α : Type} : (unicode_utf8_ValidString_spec : FunSpec α).ok Go.Proofs.Tryd.prog := by
  intro ds k res h
  have hs : (hdS ds).size ≤ 9223372036854775806 := by
    by_cases hh : (hdS ds).size ≤ 9223372036854775806
    · exact hh
    · have e : (unicode_utf8_ValidString_spec : FunSpec α).run ds k = none := by
        show cond (decide ((hdS ds).size ≤ 9223372036854775806)) _ none = none
        rw [decide_eq_false hh]; rfl
      rw [e] at h; cases h
  have h2 : k (.bool (Lib.validD (hdS ds).data.toList)) [] = some res := by
    have e : (unicode_utf8_ValidString_spec : FunSpec α).run ds k = k (.bool (Lib.validD (hdS ds).data.toList)) [] := by
      show cond (decide ((hdS ds).size ≤ 9223372036854775806)) _ none = _
      rw [decide_eq_true hs]; rfl
    rw [← e]; exact h
  refine funOK_str (s := hdS ds) (v := .bool (Lib.validD (hdS ds).data.toList)) (x := .bool (Lib.validD (hdS ds).data.toList)) (fun w F => .bool _) (fun w ht => ?_) h2
  exact (Any.utf8_ValidString layValid (hdS ds) w (by omega) ht).mono fun e w' hh => hh

abbrev unicode_utf8_RuneCountInString_T (α : Type) : Type := ByteArray → (Int → Option α) → Option α
noncomputable def unicode_utf8_RuneCountInString {α : Type} : unicode_utf8_RuneCountInString_T α := fun s k => cond (decide (s.size ≤ 9223372036854775806)) (k (Lib.runeCount s)) none
noncomputable def unicode_utf8_RuneCountInString_sp {α : Type} (f : unicode_utf8_RuneCountInString_T α) : FunSpec α := ⟨117, [.str], [], fun ds k => f (hdS ds) (fun r1 => k (enc dep (.int .i64) [.i r1]).1 [])⟩
noncomputable def unicode_utf8_RuneCountInString_spec {α : Type} : FunSpec α := unicode_utf8_RuneCountInString_sp unicode_utf8_RuneCountInString
theorem unicode_utf8_RuneCountInString_ok {α : Type} : (unicode_utf8_RuneCountInString_spec : FunSpec α).ok Go.Proofs.Tryd.prog := by
  intro ds k res h
  have hs : (hdS ds).size ≤ 9223372036854775806 := by
    by_cases hh : (hdS ds).size ≤ 9223372036854775806
    · exact hh
    · have e : (unicode_utf8_RuneCountInString_spec : FunSpec α).run ds k = none := by
        show cond (decide ((hdS ds).size ≤ 9223372036854775806)) _ none = none
        rw [decide_eq_false hh]; rfl
      rw [e] at h; cases h
  have h2 : k (.int .i64 (Lib.runeCount (hdS ds))) [] = some res := by
    have e : (unicode_utf8_RuneCountInString_spec : FunSpec α).run ds k = k (.int .i64 (Lib.runeCount (hdS ds))) [] := by
      show cond (decide ((hdS ds).size ≤ 9223372036854775806)) _ none = _
      rw [decide_eq_true hs]; rfl
    rw [← e]; exact h
  refine funOK_str (s := hdS ds) (v := .int .i64 (Lib.runeCount (hdS ds))) (x := .int .i64 (Lib.runeCount (hdS ds))) (fun w F => .int _ _) (fun w ht => ?_) h2
  refine (Any.utf8_RuneCountInString layCount (hdS ds) w (by omega)).mono fun e w' hh => ⟨hh.1, ?_⟩
  obtain ⟨pos, rfl⟩ := hh.2
  exact (Below.refl _ _).alloc (Nat.le_refl _) _
end Go.Rv.Tryd
