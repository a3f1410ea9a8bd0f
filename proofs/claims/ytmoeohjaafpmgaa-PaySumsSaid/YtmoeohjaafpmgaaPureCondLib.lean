/- Words of plain laws: conditions, and places in lists. -/
import Derived.Test.YtmoeohjaafpmgaaE3
import Derived.Test.YtmoeohjaafpmgaaRvT
set_option linter.unusedVariables false
set_option linter.unusedSimpArgs false
namespace Go.Rv.Try
open Go Go.Rv
variable {α : Type}
theorem bneT {a b : Int} (h : a ≠ b) : (a != b) = true := by simp [h]
theorem bneF {a b : Int} (h : a = b) : (a != b) = false := by simp [h]
theorem beqT {a b : Int} (h : a = b) : (a == b) = true := by simp [h]
theorem beqF {a b : Int} (h : a ≠ b) : (a == b) = false := by simp [h]
theorem cT {β : Type} {p : Prop} [Decidable p] {a b : β} (h : p) : cond (decide p) a b = a := by rw [decide_eq_true h]; rfl
theorem cF {β : Type} {p : Prop} [Decidable p] {a b : β} (h : ¬ p) : cond (decide p) a b = b := by rw [decide_eq_false h]; rfl
theorem cnT {β : Type} {p : Prop} [Decidable p] {a b : β} (h : p) : cond (!decide p) a b = b := by rw [decide_eq_true h]; rfl
theorem cnF {β : Type} {p : Prop} [Decidable p] {a b : β} (h : ¬ p) : cond (!decide p) a b = a := by rw [decide_eq_false h]; rfl
theorem cbT {β : Type} {x y : Int} {a b : β} (h : x = y) : cond (x == y) a b = a := by rw [beqT h]; rfl
theorem cbF {β : Type} {x y : Int} {a b : β} (h : x ≠ y) : cond (x == y) a b = b := by rw [beqF h]; rfl
theorem cnbT {β : Type} {x y : Int} {a b : β} (h : x = y) : cond (!(x == y)) a b = b := by rw [beqT h]; rfl
theorem cnbF {β : Type} {x y : Int} {a b : β} (h : x ≠ y) : cond (!(x == y)) a b = a := by rw [beqF h]; rfl

theorem ck {p : Prop} [Decidable p] {b : Bool} {k : Bool → Option α} {X : Option α} (h : X = k b) : cond (decide p) X (k false) = k (decide p && b) := by
  by_cases hp : p
  · rw [cT hp, h, decide_eq_true hp, Bool.true_and]
  · rw [cF hp, decide_eq_false hp, Bool.false_and]
theorem cb {c b : Bool} {k : Bool → Option α} {X : Option α} (h : X = k b) : cond c X (k false) = k (c && b) := by
  cases c with
  | false => rfl
  | true => exact h
theorem decNle {n d : Nat} {c : Int} (h : c = (d : Int)) : decide ((n : Int) ≤ c) = decide (n ≤ d) := by
  subst h
  by_cases h : n ≤ d
  · rw [decide_eq_true h, decide_eq_true (by omega)]
  · rw [decide_eq_false h, decide_eq_false (by omega)]
/-- The place of the first that answers, or less than nothing. -/
def idxFrom {β : Type} (p : β → Bool) (i : Nat) (l : List β) : Int := if l.any p then ((i + (l.takeWhile fun x => !p x).length : Nat) : Int) else -1
theorem idxFrom_nil {β : Type} (p : β → Bool) (i : Nat) : idxFrom p i [] = -1 := rfl
theorem idxFrom_T {β : Type} {p : β → Bool} {i : Nat} {x : β} {l : List β} (h : p x = true) : idxFrom p i (x :: l) = (i : Int) := by
  simp [idxFrom, h, List.takeWhile]
theorem idxFrom_F {β : Type} {p : β → Bool} {i : Nat} {x : β} {l : List β} (h : p x = false) : idxFrom p i (x :: l) = idxFrom p (i + 1) l := by
  simp [idxFrom, h, List.takeWhile]
  by_cases h2 : ∃ x, x ∈ l ∧ p x = true
  · rw [if_pos h2, if_pos h2]; omega
  · rw [if_neg h2, if_neg h2]
theorem idxFrom_neg {β : Type} {p : β → Bool} {i : Nat} {l : List β} : idxFrom p i l < 0 ↔ l.any p = false := by
  unfold idxFrom
  cases h : l.any p with
  | true => simp; omega
  | false => simp
theorem idx_pos {β : Type} {p : β → Bool} {l : List β} (h : l.any p = true) : ∃ j : Nat, idxFrom p 0 l = (j : Int) ∧ j < l.length ∧ l.take j = l.takeWhile (fun x => !p x) ∧ l.drop j = l.dropWhile (fun x => !p x) := by
  refine ⟨(l.takeWhile fun x => !p x).length, by unfold idxFrom; rw [h, if_pos rfl, Nat.zero_add], ?_, ?_, ?_⟩
  · induction l with
    | nil => cases h
    | cons x l ih =>
      rw [List.takeWhile_cons]
      cases hp : p x with
      | true => simp
      | false =>
        rw [List.any_cons, hp, Bool.false_or] at h
        have := ih h
        simp only [Bool.not_false, if_true, List.length_cons]; omega
  · have := List.takeWhile_append_dropWhile (p := fun x => !p x) (l := l)
    exact (congrArg (List.take _) this.symm).trans (List.take_left' rfl)
  · have := List.takeWhile_append_dropWhile (p := fun x => !p x) (l := l)
    exact (congrArg (List.drop _) this.symm).trans (List.drop_left' rfl)
theorem tw_all {β : Type} {p : β → Bool} : ∀ {l : List β}, (∀ x ∈ l, p x = true) → l.takeWhile p = l
  | [], _ => rfl
  | x :: l, h => by rw [List.takeWhile_cons, h x (List.mem_cons_self ..), if_pos rfl, tw_all fun y hy => h y (List.mem_cons_of_mem _ hy)]
theorem dw_all {β : Type} {p : β → Bool} : ∀ {l : List β}, (∀ x ∈ l, p x = true) → l.dropWhile p = []
  | [], _ => rfl
  | x :: l, h => by rw [List.dropWhile_cons, h x (List.mem_cons_self ..), if_pos rfl, dw_all fun y hy => h y (List.mem_cons_of_mem _ hy)]
end Go.Rv.Try
