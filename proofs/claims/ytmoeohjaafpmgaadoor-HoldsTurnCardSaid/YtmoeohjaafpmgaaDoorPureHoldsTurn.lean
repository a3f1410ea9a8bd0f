/- The law HoldsTurn, in plain words: true for every input. -/
import Derived.Test.YtmoeohjaafpmgaaDoorE3
import Derived.Test.YtmoeohjaafpmgaaDoorPureHoldLib4
set_option linter.unusedVariables false
set_option linter.unusedSimpArgs false
namespace Go.Rv.Tryd
open Go Go.Rv
variable {α : Type}
theorem putS_len {l : List Hm} {h : Hm} (hl : SmH l) (hh : SmL h.2.1) : (putS l h).2.length ≤ 21 ∧ ∀ x ∈ (putS l h).2, SmL x.2.1 := by
  unfold putS
  by_cases c1 : holdsFit l = false
  · rw [if_pos c1]; exact ⟨by decide, fun x hx => by cases hx⟩
  rw [if_neg c1]
  by_cases c2 : holdOk h = false
  · rw [if_pos c2]; exact ⟨by decide, fun x hx => by cases hx⟩
  rw [if_neg c2]
  by_cases c3 : (l.any fun x => x.1 == h.1) = true
  · rw [if_pos c3]; exact ⟨by decide, fun x hx => by cases hx⟩
  rw [if_neg c3]
  by_cases c4 : l.length = 16
  · rw [if_pos c4]; exact ⟨by decide, fun x hx => by cases hx⟩
  rw [if_neg c4]
  have e := List.takeWhile_append_dropWhile (p := fun x : Hm => !decide (x.1 > h.1)) (l := l)
  constructor
  · have := congrArg List.length e
    simp only [List.length_append] at this
    simp only [List.length_append, List.length_cons]
    have := hl.1
    omega
  · intro x hx
    simp only [List.mem_append, List.mem_cons] at hx
    rcases hx with hx | rfl | hx
    · exact hl.2 x (by rw [← e]; exact List.mem_append_left _ hx)
    · exact hh
    · exact hl.2 x (by rw [← e]; exact List.mem_append_right _ hx)
theorem dropS_len {l : List Hm} {id : Int} (hl : SmH l) : (dropS l id).2.length ≤ 21 ∧ ∀ x ∈ (dropS l id).2, SmL x.2.1 := by
  unfold dropS
  by_cases c1 : holdsFit l = false
  · rw [if_pos c1]; exact ⟨by decide, fun x hx => by cases hx⟩
  rw [if_neg c1]
  by_cases c3 : (l.any fun x => x.1 == id) = false
  · rw [if_pos c3]; exact ⟨by decide, fun x hx => by cases hx⟩
  rw [if_neg c3]
  have e := List.takeWhile_append_dropWhile (p := fun x : Hm => !(x.1 == id)) (l := l)
  constructor
  · have := congrArg List.length e
    simp only [List.length_append] at this
    simp only [List.length_append, List.length_drop]
    have := hl.1
    omega
  · intro x hx
    simp only [List.mem_append] at hx
    rcases hx with hx | hx
    · exact hl.2 x (by rw [← e]; exact List.mem_append_left _ hx)
    · exact hl.2 x (by rw [← e]; exact List.mem_append_right _ (List.mem_of_mem_drop hx))
theorem few_of {r : Seq Hd} {l : List Hm} (e : mHs r = l) (h : l.length ≤ 21 ∧ ∀ x ∈ l, SmL x.2.1) : r.n < 900 ∧ ∀ i, i < r.n → (r.g i).2.1.n < 900 := by
  subst e
  rw [mHs_length] at h
  refine ⟨by omega, fun i hi => ?_⟩
  have := (SmL_mem (h.2 _ (mHs_mem r hi))).1
  omega
theorem HoldsTurn_core (x1 : Seq Hd) (x2 : Hd) (x3 : Int) (h0 : Nil0 x2.2.1) (k : Bool → Option Unit) : draymanlaw13_HoldsTurn x1 x2 x3 k = k true := by
  unfold draymanlaw13_HoldsTurn draymanlaw13_HoldsTurn_g
  simp only [awake13_is, ref13_Few_is, ref11_Few_is]
  cases hf : fewHB (mHs x1) with
  | false => rfl
  | true =>
    cases hg : fewLB (toL x2.2.1) with
    | false => rfl
    | true =>
      have s1 := fewHB_sm hf
      have s2 := fewLB_sm hg
      obtain ⟨r1, a1, a2⟩ := Put_is (α := Unit) s1 s2 h0
      obtain ⟨r2, b1, b2⟩ := ref13_Put_is (α := Unit) s1 s2
      obtain ⟨r3, c1, c2⟩ := Drop_is (α := Unit) (id := x3) s1
      obtain ⟨r4, d1, d2⟩ := ref13_Drop_is (α := Unit) (id := x3) s1
      obtain ⟨n1, m1⟩ := few_of a2 (putS_len s1 s2)
      obtain ⟨n3, m3⟩ := few_of c2 (dropS_len s1)
      simp only [a1, b1, c1, d1, Bool.not_true, Bool.not_false, cond_true, cond_false]
      rw [ref13_Same_is n1 m1, a2, b2, decide_eq_true rfl, ref13_Same_is n3 m3, c2, d2, decide_eq_true rfl]
      simp only [cond_true, beq_self_eq_true]
theorem HoldsTurn_true (x0 : Tup (.sl (.int .i64 (.sl (.str (.int .i64 (.nil))) (.int .i64 (.nil)))) (.nil))) (x1 : Tup (.int .i64 (.sl (.str (.int .i64 (.nil))) (.int .i64 (.nil))))) (x2 : Tup (.int .i64 (.nil))) (o0 : OkT (.sl (.int .i64 (.sl (.str (.int .i64 (.nil))) (.int .i64 (.nil)))) (.nil)) x0) (o1 : OkT (.int .i64 (.sl (.str (.int .i64 (.nil))) (.int .i64 (.nil)))) x1) (o2 : OkT (.int .i64 (.nil)) x2) (k : Bool → Option Unit) : draymanlaw13_HoldsTurn x0.1 x1 x2.1 k = k true := HoldsTurn_core x0.1 x1 x2.1 o1.2.1.2.1 k
end Go.Rv.Tryd
