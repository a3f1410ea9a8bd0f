/- The package variables that are known: the two tables of package unicode/utf8. No condition. -/
import Derived.Test.YtmoeohjaafpmgaaDoorRvP
import Derived.Shelf.Unicode.ValidAny
namespace Go.Rv.Tryd
open Go Go.Rv
theorem cell_lt {w : World} {k j : Nat} {v : Value} (h : w.cell? ⟨k, j, none⟩ = some v) : k < w.heap.size := by
  rcases Nat.lt_or_ge k w.heap.size with h1 | h1
  · exact h1
  · simp [World.cell?, Array.getElem?_eq_none h1] at h
instance fxUtf8 : Fx where
  blk k := k = 0 ∨ k = 1
  tab w := Lib.Utf8Tabs 0 1 w
  stab w w' hk h := by
    refine ⟨fun c hc => ?_, fun i hi => ?_⟩
    · rw [World.cell?_of_block (a := ⟨0, c, none⟩) (w := w) (hk _ (.inl rfl))]; exact h.1 c hc
    · rw [World.cell?_of_block (a := ⟨1, 2 * i, none⟩) (w := w) (hk _ (.inr rfl)), World.cell?_of_block (a := ⟨1, 2 * i + 1, none⟩) (w := w) (hk _ (.inr rfl))]; exact h.2 i hi
  lt w k h hk := by
    rcases hk with rfl | rfl
    · exact cell_lt (h.1 0 (by omega))
    · exact cell_lt (h.2 0 (by omega)).1
end Go.Rv.Tryd
