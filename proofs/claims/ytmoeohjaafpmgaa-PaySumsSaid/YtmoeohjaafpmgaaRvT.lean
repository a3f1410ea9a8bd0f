/- Rv, part T: tools for the plain laws: whole numbers without wrap, slices as lists. Of no program. -/
import Derived.Test.YtmoeohjaafpmgaaRvQ
import Derived.Test.YtmoeohjaafpmgaaRvP
set_option linter.unusedVariables false
set_option linter.unusedSimpArgs false
set_option linter.unusedSectionVars false
namespace Go.Rv
open Go

theorem wrap64 {x : Int} (h1 : -9223372036854775808 ≤ x) (h2 : x ≤ 9223372036854775807) : IntKind.i64.wrap x = x := by
  simp [IntKind.wrap, IntKind.min, IntKind.max, IntKind.signed, IntKind.bits]; omega
theorem wrapU64 {x : Int} (h1 : 0 ≤ x) (h2 : x ≤ 18446744073709551615) : IntKind.u64.wrap x = x := by
  simp [IntKind.wrap, IntKind.min, IntKind.max, IntKind.signed, IntKind.bits]; omega
theorem wrapU8 {x : Int} (h1 : 0 ≤ x) (h2 : x ≤ 255) : IntKind.u8.wrap x = x := by
  simp [IntKind.wrap, IntKind.min, IntKind.max, IntKind.signed, IntKind.bits]; omega
theorem wrap_succ {j : Nat} (h : j < 9223372036854775807) : IntKind.i64.wrap ((j : Int) + 1) = ((j + 1 : Nat) : Int) := by
  rw [wrap64 (by omega) (by omega)]; omega
theorem wrap_half {i j : Nat} (h : i + j < 9223372036854775807) : IntKind.i64.wrap (Int.fdiv (IntKind.u64.wrap (IntKind.i64.wrap ((i : Int) + (j : Int)))) (2 ^ (min 1 IntKind.u64.bits))) = (((i + j) / 2 : Nat) : Int) := by
  have e : (2 : Int) ^ (min 1 IntKind.u64.bits) = 2 := rfl
  have e1 : IntKind.i64.wrap ((i : Int) + (j : Int)) = (i : Int) + (j : Int) := wrap64 (by omega) (by omega)
  rw [e1, wrapU64 (by omega) (by omega), e]
  have : Int.fdiv ((i : Int) + (j : Int)) 2 = (((i + j) / 2 : Nat) : Int) := by
    rw [Int.fdiv_eq_ediv_of_nonneg _ (by omega)]; omega
  rw [this, wrap64 (by omega) (by omega)]

theorem inb {j n : Nat} (h : j < n) : (decide ((0 : Int) ≤ (j : Int)) && decide ((j : Int) < (n : Int))) = true := by simp; omega
theorem nn (j : Nat) : decide ((0 : Int) ≤ (j : Int)) = true := decide_eq_true (by omega)
theorem toNatC (j : Nat) : (j : Int).toNat = j := Int.toNat_natCast j
theorem ltT {a b : Int} (h : a < b) : decide (a < b) = true := decide_eq_true h
theorem ltF {a b : Int} (h : ¬ a < b) : decide (a < b) = false := decide_eq_false h

theorem joinD_is {α : Type} (f : List Dyn → Option α) (g : (List Dyn → Option α) → Option α) : joinD f g = g f := rfl
/-- What is told once behind several ways: the same value whatever way was gone. -/
theorem joinD_law {α : Type} {K : List Dyn → Option α} {f : (List Dyn → Option α) → Option α} {R : Option α} (Q : List Dyn → Prop) (hK : ∀ ds, Q ds → K ds = R) (hf : ∀ J : List Dyn → Option α, (∀ ds, Q ds → J ds = R) → f J = R) : joinD K f = R := hf K hK
theorem condT {α : Type} {b : Bool} (h : b = true) {x y : α} : cond b x y = x := by rw [h]; rfl
theorem condF {α : Type} {b : Bool} (h : b = false) {x y : α} : cond b x y = y := by rw [h]; rfl
theorem hdI_c (x : Int) (l : List Dyn) : hdI (.i x :: l) = x := rfl
theorem hdB_c (x : Bool) (l : List Dyn) : hdB (.b x :: l) = x := rfl
theorem hdS_c (x : ByteArray) (l : List Dyn) : hdS (.s x :: l) = x := rfl
theorem hdQ_c (t : Ty) (x : Seq (Tup t)) (l : List Dyn) : hdQ t (.q t x :: l) = x := by simp [hdQ, castQ]
theorem hdM_c (a b : Ty) (x : List (Tup a × Tup b)) (l : List Dyn) : hdM a b (.m a b x :: l) = x := by simp [hdM, castM]

/-- A slice as a list. -/
def toL {β : Type} (s : Seq β) : List β := (List.range s.n).map s.g
theorem toL_length {β : Type} (s : Seq β) : (toL s).length = s.n := by simp [toL]
theorem toL_get {β : Type} (s : Seq β) {i : Nat} (h : i < s.n) : (toL s)[i]? = some (s.g i) := by simp [toL, h]
theorem toL_drop {β : Type} (s : Seq β) {j : Nat} (h : j < s.n) : (toL s).drop j = s.g j :: (toL s).drop (j + 1) := by
  have hl : j < (toL s).length := by rw [toL_length]; exact h
  rw [List.drop_eq_getElem_cons hl]
  have : (toL s)[j] = s.g j := by simp [toL]
  rw [this]
theorem toL_end {β : Type} (s : Seq β) {j : Nat} (h : s.n ≤ j) : (toL s).drop j = [] := List.drop_of_length_le (by rw [toL_length]; exact h)
theorem toL_zero {β : Type} (nl : Bool) (g : Nat → β) : toL (⟨nl, 0, g⟩ : Seq β) = [] := rfl
theorem toL_one {β : Type} (nl : Bool) (g : Nat → β) : toL (⟨nl, 1, g⟩ : Seq β) = [g 0] := rfl
theorem toL_ext {β : Type} {s : Seq β} {l : List β} (hn : s.n = l.length) (h : ∀ i (hi : i < l.length), s.g i = l[i]) : toL s = l := by
  apply List.ext_getElem
  · rw [toL_length, hn]
  · intro i h1 h2
    simp [toL, h i h2]
theorem toL_app {β : Type} (nl nl1 nl2 : Bool) (n m : Nat) (g h : Nat → β) : toL (⟨nl, n + m, tApp n g h⟩ : Seq β) = toL (⟨nl1, n, g⟩ : Seq β) ++ toL (⟨nl2, m, h⟩ : Seq β) := by
  refine toL_ext (by simp [toL]) fun i hi => ?_
  simp only [List.length_append, toL_length] at hi
  rw [List.getElem_append]
  split
  · rename_i hlt
    rw [toL_length] at hlt
    have hb : Nat.blt i n = true := by rw [Nat.blt_eq]; exact hlt
    simp [toL, tApp, hb]
  · rename_i hlt
    rw [toL_length] at hlt
    have hb : Nat.blt i n = false := by
      cases e : Nat.blt i n with
      | false => rfl
      | true => rw [Nat.blt_eq] at e; exact absurd e hlt
    simp [toL, tApp, hb]
theorem toL_shift {β : Type} (nl nl1 : Bool) (n k : Nat) (g : Nat → β) : toL (⟨nl, n - k, tShift k g⟩ : Seq β) = (toL (⟨nl1, n, g⟩ : Seq β)).drop k := by
  refine toL_ext (by simp [toL]) fun i hi => ?_
  simp only [List.length_drop, toL_length] at hi
  simp [toL, tShift]
theorem toL_take {β : Type} (nl nl1 : Bool) (n k : Nat) (g : Nat → β) (h : k ≤ n) : toL (⟨nl, k, g⟩ : Seq β) = (toL (⟨nl1, n, g⟩ : Seq β)).take k := by
  refine toL_ext (by simp [toL]; omega) fun i hi => ?_
  simp [toL]
end Go.Rv
