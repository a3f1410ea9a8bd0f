/- The plain law of KeyedOnce: at most once there, at most once back, back only behind there. No condition. -/
import Derived.Test.YtkcdjgmialniiaaE3
import Derived.Test.YtkcdjgmialniiaaPureKeyedAgain
set_option linter.unusedVariables false
set_option linter.unusedSimpArgs false
namespace Go.Rv.Try
open Go Go.Rv Go.RowKit
variable {α : Type}
abbrev Ask1 := Int × Int × Int × Bool × Int × Int × Bool × Int × Unit
abbrev Ents := Seq Ent

/-! ### Keys, apart -/
theorem lt_asym {a b : Key} (h : ltK a b = true) : ltK b a = false ∧ sameK a b = false ∧ sameK b a = false := by
  rw [ltK_iff] at h
  refine ⟨?_, ?_, ?_⟩
  · cases hb : ltK b a with
    | false => rfl
    | true => rw [ltK_iff] at hb; omega
  · cases hb : sameK a b with
    | false => rfl
    | true => rw [sameK_iff] at hb; omega
  · cases hb : sameK b a with
    | false => rfl
    | true => rw [sameK_iff] at hb; omega
theorem same_lt {a b c : Key} (h : sameK a b = true) (h2 : ltK a c = true) : ltK b c = true ∧ ltK c b = false ∧ sameK c b = false := by
  have h3 : ltK b c = true := by rw [ltK_iff] at *; rw [sameK_iff] at h; omega
  exact ⟨h3, (lt_asym h3).1, (lt_asym h3).2.2⟩
theorem tri (a b : Key) : ltK a b = true ∨ sameK a b = true ∨ ltK b a = true := by
  rw [ltK_iff, ltK_iff, sameK_iff]; omega
theorem split_at (z : Key) : ∀ (l : List Key), l.Pairwise (fun a b => ltK a b = true) → l = l.filter (fun y => ltK y z) ++ (l.filter (fun y => sameK y z) ++ l.filter (fun y => ltK z y))
  | [], _ => rfl
  | h :: t, hp => by
    obtain ⟨h1, h2⟩ := List.pairwise_cons.1 hp
    rcases tri h z with hc | hc | hc
    · obtain ⟨c1, c2, c3⟩ := lt_asym hc
      have ih := split_at z t h2
      rw [List.filter_cons, List.filter_cons, List.filter_cons, hc, c1, c2]
      simp only [if_true, Bool.false_eq_true, if_false, List.cons_append]
      rw [← ih]
    · have g : ∀ x ∈ t, ltK z x = true ∧ ltK x z = false ∧ sameK x z = false := fun x hx => same_lt hc (h1 x hx)
      have e1 : t.filter (fun y => ltK y z) = [] := List.filter_eq_nil_iff.2 fun x hx => by rw [(g x hx).2.1]; simp
      have e2 : t.filter (fun y => sameK y z) = [] := List.filter_eq_nil_iff.2 fun x hx => by rw [(g x hx).2.2]; simp
      have e3 : t.filter (fun y => ltK z y) = t := List.filter_eq_self.2 fun x hx => (g x hx).1
      have c1 : ltK h z = false := by
        cases hb : ltK h z with
        | false => rfl
        | true => rw [ltK_iff] at hb; rw [sameK_iff] at hc; omega
      have c2 : ltK z h = false := by
        cases hb : ltK z h with
        | false => rfl
        | true => rw [ltK_iff] at hb; rw [sameK_iff] at hc; omega
      rw [List.filter_cons, List.filter_cons, List.filter_cons, hc, c1, c2, e1, e2, e3]
      simp
    · have g : ∀ x ∈ t, ltK z x = true := fun x hx => ltK_trans hc (h1 x hx)
      have e1 : t.filter (fun y => ltK y z) = [] := List.filter_eq_nil_iff.2 fun x hx => by rw [(lt_asym (g x hx)).1]; simp
      have e2 : t.filter (fun y => sameK y z) = [] := List.filter_eq_nil_iff.2 fun x hx => by rw [(lt_asym (g x hx)).2.2]; simp
      have e3 : t.filter (fun y => ltK z y) = t := List.filter_eq_self.2 g
      obtain ⟨c1, c2, c3⟩ := lt_asym hc
      rw [List.filter_cons, List.filter_cons, List.filter_cons, hc, c1, c3, e1, e2, e3]
      simp
theorem mid_one {z y : Key} : ∀ (l : List Key), l.Pairwise (fun a b => ltK a b = true) → y ∈ l → sameK y z = true → l.filter (fun x => sameK x z) = [y]
  | [], _, h, _ => by cases h
  | h :: t, hp, hy, hs => by
    obtain ⟨h1, h2⟩ := List.pairwise_cons.1 hp
    rcases List.mem_cons.1 hy with rfl | hy
    · have e2 : t.filter (fun x => sameK x z) = [] := List.filter_eq_nil_iff.2 fun x hx => by rw [(same_lt hs (h1 x hx)).2.2]; simp
      rw [List.filter_cons, hs, e2]; simp
    · have hn : sameK h z = false := by
        cases hb : sameK h z with
        | false => rfl
        | true =>
          have := h1 y hy
          rw [ltK_iff] at this; rw [sameK_iff] at hb hs; omega
      rw [List.filter_cons, hn]
      simp only [Bool.false_eq_true, if_false]
      exact mid_one t h2 hy hs
theorem isAt_same (x z : Key) : isAt z.1 z.2.1 x = sameK x z := rfl
theorem find_none {l : List Key} {z : Key} (h : (findK l z.1 z.2.1).2 = false) : l.filter (fun x => sameK x z) = [] := by
  unfold findK at h
  cases hf : l.find? (isAt z.1 z.2.1) with
  | some y => rw [hf] at h; cases h
  | none =>
    rw [List.find?_eq_none] at hf
    exact List.filter_eq_nil_iff.2 fun x hx => by rw [← isAt_same]; exact hf x hx
theorem find_put_ne {l : List Key} (hp : l.Pairwise (fun a b => ltK a b = true)) (z : Key) {a b : Int} (hne : ¬ (z.1 = a ∧ z.2.1 = b)) : findK (putL l z) a b = findK l a b := by
  have hz : isAt a b z = false := by
    cases hh : isAt a b z with
    | false => rfl
    | true => simp only [isAt, Bool.and_eq_true, beq_iff_eq] at hh; exact absurd hh hne
  have hm : (l.filter (fun y => sameK y z)).find? (isAt a b) = none := by
    rw [List.find?_eq_none]
    intro y hy hh
    have h2 := (List.mem_filter.1 hy).2
    rw [sameK_iff] at h2
    simp only [isAt, Bool.and_eq_true, beq_iff_eq] at hh
    exact hne ⟨by omega, by omega⟩
  unfold findK
  have e : (putL l z).find? (isAt a b) = l.find? (isAt a b) := by
    conv => rhs; rw [split_at z l hp]
    unfold putL
    rw [List.find?_append, List.find?_append, List.find?_append, hm, List.find?_cons, hz]
    simp
  rw [e]
theorem put_len {l : List Key} (hp : l.Pairwise (fun a b => ltK a b = true)) (z : Key) : (putL l z).length ≤ l.length + 1 := by
  have := congrArg List.length (split_at z l hp)
  simp only [List.length_append] at this
  unfold putL
  simp only [List.length_append, List.length_cons]
  omega
theorem sumT_append (a b : List Key) : sumT (a ++ b) = sumT a + sumT b := by simp [sumT]
theorem sumB_append (a b : List Key) : sumB (a ++ b) = sumB a + sumB b := by simp [sumB]
theorem sumT_cons (a : Key) (b : List Key) : sumT (a :: b) = a.2.2.2.1 + sumT b := by simp [sumT]
theorem sumB_cons (a : Key) (b : List Key) : sumB (a :: b) = a.2.2.2.2.1 + sumB b := by simp [sumB]
theorem sum_put {l : List Key} (hp : l.Pairwise (fun a b => ltK a b = true)) (z : Key) :
    sumT (putL l z) = sumT l - sumT (l.filter (fun y => sameK y z)) + z.2.2.2.1 ∧ sumB (putL l z) = sumB l - sumB (l.filter (fun y => sameK y z)) + z.2.2.2.2.1 := by
  have h1 := congrArg sumT (split_at z l hp)
  have h2 := congrArg sumB (split_at z l hp)
  rw [sumT_append, sumT_append] at h1
  rw [sumB_append, sumB_append] at h2
  unfold putL
  rw [sumT_append, sumB_append, sumT_cons, sumB_cons]
  omega

/-! ### What is told of it -/
def isT (a b : Int) (y : Ent) : Bool := y.2.1 == a && (y.2.2.1 == b && !y.2.2.2.1)
def isB (a b : Int) (y : Ent) : Bool := y.2.1 == a && (y.2.2.1 == b && y.2.2.2.1)
def isU (a b : Int) (y : Ent) : Bool := y.2.1 == a && y.2.2.1 == b
def thereOf (l : List Key) (a b : Int) : Int := cond (findK l a b).2 (findK l a b).1.2.2.2.1 0
def backOf (l : List Key) (a b : Int) : Int := cond (findK l a b).2 (findK l a b).1.2.2.2.2.1 0
structure InvK (l : List Key) (D U : List Ent) : Prop where
  one : ∀ x ∈ l, oneK x = true
  srt : l.Pairwise (fun a b => ltK a b = true)
  cT : ∀ a b, ((D.countP (isT a b) : Nat) : Int) = thereOf l a b
  cB : ∀ a b, ((D.countP (isB a b) : Nat) : Int) = backOf l a b
  gn : ∀ a b, U.any (isU a b) = true → (findK l a b).2 = true
  sm : sumT l + sumB l = (D.length : Int)
theorem InvK.nil : InvK [] [] [] := ⟨fun x h => (by cases h), .nil, fun a b => rfl, fun a b => rfl, fun a b h => (by cases h), rfl⟩
theorem of_put (l : List Key) (z : Key) : thereOf (putL l z) z.1 z.2.1 = z.2.2.2.1 ∧ backOf (putL l z) z.1 z.2.1 = z.2.2.2.2.1 := by
  unfold thereOf backOf
  rw [find_put]
  exact ⟨rfl, rfl⟩
theorem of_put_ne {l : List Key} (hp : l.Pairwise (fun a b => ltK a b = true)) (z : Key) {a b : Int} (hne : ¬ (z.1 = a ∧ z.2.1 = b)) : thereOf (putL l z) a b = thereOf l a b ∧ backOf (putL l z) a b = backOf l a b := by
  unfold thereOf backOf
  rw [find_put_ne hp z hne]
  exact ⟨rfl, rfl⟩
/-- A key is put in a place where no effect is told anew. -/
theorem InvK.put0 {l : List Key} {D U : List Ent} (h : InvK l D U) {z : Key} (hz : oneK z = true) (h1 : thereOf l z.1 z.2.1 = z.2.2.2.1) (h2 : backOf l z.1 z.2.1 = z.2.2.2.2.1) (h3 : (findK l z.1 z.2.1).2 = false) (U' : List Ent) (hU : ∀ a b, U'.any (isU a b) = true → (findK l a b).2 = true ∨ (z.1 = a ∧ z.2.1 = b)) : InvK (putL l z) D U' := by
  obtain ⟨f1, f2⟩ := fitL_put h.one h.srt hz
  have hm := find_none h3
  obtain ⟨s1, s2⟩ := sum_put h.srt z
  rw [hm] at s1 s2
  have z1 : z.2.2.2.1 = 0 := by rw [← h1]; unfold thereOf; rw [h3]; rfl
  have z2 : z.2.2.2.2.1 = 0 := by rw [← h2]; unfold backOf; rw [h3]; rfl
  refine ⟨f1, f2, fun a b => ?_, fun a b => ?_, fun a b hh => ?_, ?_⟩
  · by_cases e : z.1 = a ∧ z.2.1 = b
    · obtain ⟨rfl, rfl⟩ := e
      rw [(of_put l z).1, h.cT, h1]
    · rw [(of_put_ne h.srt z e).1]; exact h.cT a b
  · by_cases e : z.1 = a ∧ z.2.1 = b
    · obtain ⟨rfl, rfl⟩ := e
      rw [(of_put l z).2, h.cB, h2]
    · rw [(of_put_ne h.srt z e).2]; exact h.cB a b
  · by_cases e : z.1 = a ∧ z.2.1 = b
    · obtain ⟨rfl, rfl⟩ := e
      rw [find_put]
    · rw [find_put_ne h.srt z e]
      exact (hU a b hh).resolve_right e
  · have := h.sm
    simp only [sumT, sumB, List.map_nil, List.sum_nil] at s1 s2 this ⊢
    omega

/-- A step: what is told of what comes. -/
def goodB (x : Ent) (told there back : Int) (took gone : Bool) : Prop := took = true → told = 1 ∧ (x.2.2.2.1 = true → there = 1 ∧ back = 0) ∧ (x.2.2.2.1 = false → there = 0 ∧ gone = false)
theorem one_mark2 {y : Key} (h : oneK y = true) (hm : (y.2.2.1 == 2) = true) : y.2.2.2.1 = 1 ∧ y.2.2.2.2.1 = 0 := by
  simp only [oneK, Bool.and_eq_true] at h
  have hm' : y.2.2.1 = 2 := by simpa using hm
  have h5 := h.2.2.2.2
  simp only [markB, hm', if_true, Bool.and_eq_true, beq_iff_eq] at h5
  exact h5
theorem came_inv {l l' : List Key} {D U : List Ent} {x : Ent} {v t : Int} {d : Bool} (h : InvK l D U) (hc : Came l x v l' t d) (ho : oneB x = true) :
    InvK l' (cond d (D ++ [x]) D) (cond (x.2.2.2.1 && t == 1) (U ++ [x]) U) ∧ goodB x t ((D.countP (isT x.2.1 x.2.2.1) : Nat) : Int) ((D.countP (isB x.2.1 x.2.2.1) : Nat) : Int) d (U.any (isU x.2.1 x.2.2.1)) := by
  obtain ⟨o1, o2, o3, o4⟩ := oneB_is ho
  have nf : d = false → goodB x t ((D.countP (isT x.2.1 x.2.2.1) : Nat) : Int) ((D.countP (isB x.2.1 x.2.2.1) : Nat) : Int) d (U.any (isU x.2.1 x.2.2.1)) := fun hd ht => by rw [hd] at ht; cases ht
  have more : ∀ {V : List Ent} {a b : Int}, (V ++ [x]).any (isU a b) = true → V.any (isU a b) = true ∨ (x.2.1 = a ∧ x.2.2.1 = b) := by
    intro V a b hh
    simp only [List.any_append, List.any_cons, List.any_nil, Bool.or_false, Bool.or_eq_true] at hh
    refine hh.imp id fun h => ?_
    simpa [isU] using h
  have z0 : ∀ m : Int, (markB m 0 0) = true → oneK (x.2.1, x.2.2.1, m, 0, 0, x.2.2.2.2.2.1, ()) = true := fun m hm => by
    simp only [oneK, o1, o2, o3, o4, hm, Bool.and_self]
  cases hc with
  | again => exact ⟨by simp only [cond_false]; have : (x.2.2.2.1 && ((2 : Int) == 1)) = false := by simp
                       rw [this]; exact h, nf rfl⟩
  | thereDone y hf hb hm => exact ⟨by rw [hb]; exact h, nf rfl⟩
  | thereNever y hf hb hm => exact ⟨by rw [hb]; exact h, nf rfl⟩
  | backDone y hf hb hm =>
    refine ⟨?_, nf rfl⟩
    rw [hb]
    refine ⟨h.one, h.srt, h.cT, h.cB, fun a b hh => ?_, h.sm⟩
    rcases more hh with hh | ⟨rfl, rfl⟩
    · exact h.gn a b hh
    · rw [hf]
  | backNone hf hb =>
    refine ⟨?_, nf rfl⟩
    rw [hb]
    refine h.put0 (z0 3 rfl) ?_ ?_ hf _ fun a b hh => ?_
    · unfold thereOf; rw [hf]; rfl
    · unfold backOf; rw [hf]; rfl
    · rcases more hh with hh | hh
      · exact .inl (h.gn a b hh)
      · exact .inr hh
  | never hf hb =>
    refine ⟨?_, nf rfl⟩
    rw [hb]
    refine h.put0 (z0 5 rfl) ?_ ?_ hf _ fun a b hh => .inl (h.gn a b hh)
    · unfold thereOf; rw [hf]; rfl
    · unfold backOf; rw [hf]; rfl
  | there hf hb =>
    have hz : oneK (x.2.1, x.2.2.1, 2, 1, 0, x.2.2.2.2.2.1, ()) = true := by
      simp only [oneK, o1, o2, o3, o4, Bool.true_and]; rfl
    obtain ⟨f1, f2⟩ := fitL_put h.one h.srt hz
    obtain ⟨s1, s2⟩ := sum_put h.srt (x.2.1, x.2.2.1, 2, 1, 0, x.2.2.2.2.2.1, ())
    rw [find_none (z := (x.2.1, x.2.2.1, 2, 1, 0, x.2.2.2.2.2.1, ())) hf] at s1 s2
    have t0 : thereOf l x.2.1 x.2.2.1 = 0 := by unfold thereOf; rw [hf]; rfl
    have b0 : backOf l x.2.1 x.2.2.1 = 0 := by unfold backOf; rw [hf]; rfl
    refine ⟨?_, fun _ => ⟨rfl, fun hh => (by rw [hb] at hh; cases hh), fun _ => ⟨by rw [h.cT, t0], ?_⟩⟩⟩
    · rw [hb]
      simp only [cond_true, Bool.false_and, cond_false]
      refine ⟨f1, f2, fun a b => ?_, fun a b => ?_, fun a b hh => ?_, ?_⟩
      · rw [List.countP_append, List.countP_singleton]
        by_cases e : x.2.1 = a ∧ x.2.2.1 = b
        · obtain ⟨rfl, rfl⟩ := e
          have : isT x.2.1 x.2.2.1 x = true := by simp [isT, hb]
          rw [(of_put l (x.2.1, x.2.2.1, 2, 1, 0, x.2.2.2.2.2.1, ())).1, this]
          have := h.cT x.2.1 x.2.2.1
          rw [t0] at this
          simp only [if_true]
          omega
        · have : isT a b x = false := by
            cases hh : isT a b x with
            | false => rfl
            | true => simp only [isT, Bool.and_eq_true, beq_iff_eq] at hh; exact absurd ⟨hh.1, hh.2.1⟩ e
          rw [(of_put_ne h.srt (x.2.1, x.2.2.1, 2, 1, 0, x.2.2.2.2.2.1, ()) e).1, this]
          have := h.cT a b
          simp only [Bool.false_eq_true, if_false]
          omega
      · rw [List.countP_append, List.countP_singleton]
        have : isB a b x = false := by simp [isB, hb]
        rw [this]
        have hcb := h.cB a b
        by_cases e : x.2.1 = a ∧ x.2.2.1 = b
        · obtain ⟨rfl, rfl⟩ := e
          rw [(of_put l (x.2.1, x.2.2.1, 2, 1, 0, x.2.2.2.2.2.1, ())).2]
          rw [b0] at hcb
          simp only [Bool.false_eq_true, if_false]
          omega
        · rw [(of_put_ne h.srt (x.2.1, x.2.2.1, 2, 1, 0, x.2.2.2.2.2.1, ()) e).2]
          simp only [Bool.false_eq_true, if_false]
          omega
      · by_cases e : x.2.1 = a ∧ x.2.2.1 = b
        · obtain ⟨rfl, rfl⟩ := e
          rw [find_put l (x.2.1, x.2.2.1, 2, 1, 0, x.2.2.2.2.2.1, ())]
        · rw [find_put_ne h.srt (x.2.1, x.2.2.1, 2, 1, 0, x.2.2.2.2.2.1, ()) e]
          exact h.gn a b hh
      · have := h.sm
        simp only [sumT, sumB, List.map_nil, List.sum_nil] at s1 s2 this ⊢
        rw [List.length_append, List.length_singleton]
        omega
    · cases hg : U.any (isU x.2.1 x.2.2.1) with
      | false => rfl
      | true => have := h.gn _ _ hg; rw [hf] at this; cases this
  | back y hf hb hm =>
    have hk := find_mem (l := l) (a := x.2.1) (b := x.2.2.1) (by rw [hf])
    rw [hf] at hk
    obtain ⟨hy, k1, k2⟩ := hk
    simp only at hy k1 k2
    obtain ⟨m1, m2⟩ := one_mark2 (h.one y hy) hm
    have hz : oneK (y.1, y.2.1, 4, y.2.2.2.1, 1, y.2.2.2.2.2.1, ()) = true := by
      have h3 := h.one y hy
      simp only [oneK, Bool.and_eq_true] at h3 ⊢
      obtain ⟨a1, a2, a3, a4, a5⟩ := h3
      refine ⟨a1, a2, a3, a4, ?_⟩
      simp [markB, m1]
    obtain ⟨f1, f2⟩ := fitL_put h.one h.srt hz
    obtain ⟨s1, s2⟩ := sum_put h.srt (y.1, y.2.1, 4, y.2.2.2.1, 1, y.2.2.2.2.2.1, ())
    rw [mid_one (z := (y.1, y.2.1, 4, y.2.2.2.1, 1, y.2.2.2.2.2.1, ())) l h.srt hy (by simp [sameK])] at s1 s2
    have t1 : thereOf l x.2.1 x.2.2.1 = 1 := by unfold thereOf; rw [hf]; exact m1
    have b0 : backOf l x.2.1 x.2.2.1 = 0 := by unfold backOf; rw [hf]; exact m2
    refine ⟨?_, fun _ => ⟨rfl, fun _ => ⟨by rw [h.cT, t1], by rw [h.cB, b0]⟩, fun hh => (by rw [hb] at hh; cases hh)⟩⟩
    rw [hb]
    have e1 : (true && ((1 : Int) == 1)) = true := rfl
    rw [e1]
    simp only [cond_true]
    refine ⟨f1, f2, fun a b => ?_, fun a b => ?_, fun a b hh => ?_, ?_⟩
    · rw [List.countP_append, List.countP_singleton]
      have : isT a b x = false := by simp [isT, hb]
      rw [this]
      have hct := h.cT a b
      by_cases e : y.1 = a ∧ y.2.1 = b
      · have e' : x.2.1 = a ∧ x.2.2.1 = b := ⟨by omega, by omega⟩
        have hop := (of_put l (y.1, y.2.1, 4, y.2.2.2.1, 1, y.2.2.2.2.2.1, ())).1
        simp only [e.1, e.2] at hop ⊢
        rw [hop]
        rw [e'.1, e'.2] at t1
        rw [t1] at hct
        simp only [Bool.false_eq_true, if_false]
        omega
      · rw [(of_put_ne h.srt (y.1, y.2.1, 4, y.2.2.2.1, 1, y.2.2.2.2.2.1, ()) e).1]
        simp only [Bool.false_eq_true, if_false]
        omega
    · rw [List.countP_append, List.countP_singleton]
      have hcb := h.cB a b
      by_cases e : y.1 = a ∧ y.2.1 = b
      · have e' : x.2.1 = a ∧ x.2.2.1 = b := ⟨by omega, by omega⟩
        have : isB a b x = true := by simp [isB, hb, e'.1, e'.2]
        have hop := (of_put l (y.1, y.2.1, 4, y.2.2.2.1, 1, y.2.2.2.2.2.1, ())).2
        simp only [e.1, e.2] at hop ⊢
        rw [hop, this]
        rw [e'.1, e'.2] at b0
        rw [b0] at hcb
        simp only [if_true]
        omega
      · have : isB a b x = false := by
          cases hh : isB a b x with
          | false => rfl
          | true =>
            simp only [isB, Bool.and_eq_true, beq_iff_eq] at hh
            exact absurd ⟨by omega, by omega⟩ e
        rw [(of_put_ne h.srt (y.1, y.2.1, 4, y.2.2.2.1, 1, y.2.2.2.2.2.1, ()) e).2, this]
        simp only [Bool.false_eq_true, if_false]
        omega
    · by_cases e : y.1 = a ∧ y.2.1 = b
      · have hop := find_put l (y.1, y.2.1, 4, y.2.2.2.1, 1, y.2.2.2.2.2.1, ())
        simp only [e.1, e.2] at hop ⊢
        rw [hop]
      · rw [find_put_ne h.srt (y.1, y.2.1, 4, y.2.2.2.1, 1, y.2.2.2.2.2.1, ()) e]
        rcases more hh with hh | hh
        · exact h.gn a b hh
        · exact absurd ⟨by omega, by omega⟩ e
    · have := h.sm
      simp only [sumT_cons, sumB_cons] at s1 s2
      have n1 : sumT ([] : List Key) = 0 := rfl
      have n2 : sumB ([] : List Key) = 0 := rfl
      rw [List.length_append, List.length_singleton]
      omega
theorem came_len {l l' : List Key} {x : Ent} {v t : Int} {d : Bool} (h : Came l x v l' t d) (hp : l.Pairwise (fun a b => ltK a b = true)) : l'.length ≤ l.length + 1 := by
  cases h <;> first | exact put_len hp _ | omega

/-! ### The walk -/
theorem count_loop (k2 : Seq Ask1 → Int → Int → Bool → Int → Int → Ents → Ents → Ent → Keys → Option α) (x12 : Seq Ask1) (x13 x14 : Int) (x15 : Bool) (q19 q20 : Ents) (x : Ent) (q22 : Keys) (hn : q19.n ≤ 900) : ∀ (d j N c e : Nat), j + d = q19.n → d < N → c ≤ j → e ≤ j →
    draymanlaw31_KeyedOnce_l0_run draymanlaw31_awake keyed_Come keyed_Effects keyed_Fit k2 N x12 x13 x14 x15 (c : Int) (e : Int) (j : Int) q19 q20 x q22 =
      k2 x12 x13 x14 x15 ((c + ((toL q19).drop j).countP (isT x.2.1 x.2.2.1) : Nat) : Int) ((e + ((toL q19).drop j).countP (isB x.2.1 x.2.2.1) : Nat) : Int) q19 q20 x q22 := by
  intro d
  induction d with
  | zero =>
    intro j N c e hj hN hc he
    obtain ⟨N, rfl⟩ : ∃ M, N = M + 1 := ⟨N - 1, by omega⟩
    have h3 : ¬ ((j : Int) < (q19.n : Int)) := by omega
    simp only [draymanlaw31_KeyedOnce_l0_run, draymanlaw31_KeyedOnce_l0_step, ltF h3, cond_false, toL_end q19 (show q19.n ≤ j by omega), List.countP_nil, Nat.add_zero]
  | succ d ih =>
    intro j N c e hj hN hc he
    obtain ⟨N, rfl⟩ : ∃ M, N = M + 1 := ⟨N - 1, by omega⟩
    have h3 : (j : Int) < (q19.n : Int) := by omega
    have h4 : Nat.blt j q19.n = true := by rw [Nat.blt_eq]; omega
    have i1 := ih (j + 1) N (c + 1) e (by omega) (by omega) (by omega) (by omega)
    have i2 := ih (j + 1) N c (e + 1) (by omega) (by omega) (by omega) (by omega)
    have i3 := ih (j + 1) N c e (by omega) (by omega) (by omega) (by omega)
    simp only [draymanlaw31_KeyedOnce_l0_run, draymanlaw31_KeyedOnce_l0_step, ltT h3, nn, Bool.and_self, h4, toNatC, cond_true, wrap_succ (show j < 9223372036854775807 by omega), wrap_succ (show c < 9223372036854775807 by omega), wrap_succ (show e < 9223372036854775807 by omega), i1, i2, i3]
    rw [toL_drop q19 (show j < q19.n by omega), List.countP_cons, List.countP_cons]
    have a1 : isT x.2.1 x.2.2.1 (q19.g j) = ((q19.g j).2.1 == x.2.1 && ((q19.g j).2.2.1 == x.2.2.1 && !(q19.g j).2.2.2.1)) := rfl
    have a2 : isB x.2.1 x.2.2.1 (q19.g j) = ((q19.g j).2.1 == x.2.1 && ((q19.g j).2.2.1 == x.2.2.1 && (q19.g j).2.2.2.1)) := rfl
    rw [a1, a2]
    cases ((q19.g j).2.1 == x.2.1) <;> cases ((q19.g j).2.2.1 == x.2.2.1) <;> cases (q19.g j).2.2.2.1 <;>
      simp only [Bool.true_and, Bool.false_and, Bool.not_true, Bool.not_false, cond_true, cond_false, if_true, Bool.false_eq_true, if_false, Nat.add_zero] <;> (congr 2; omega)
theorem gone_loop (k4 : Seq Ask1 → Int → Int → Bool → Int → Int → Bool → Ents → Ents → Ent → Keys → Option α) (x33 : Seq Ask1) (x34 x35 : Int) (x36 : Bool) (x37 x38 : Int) (q41 q42 : Ents) (x : Ent) (q44 : Keys) (hn : q42.n ≤ 900) : ∀ (d j N : Nat) (g : Bool), j + d = q42.n → d < N →
    draymanlaw31_KeyedOnce_l1_run draymanlaw31_awake keyed_Come keyed_Effects keyed_Fit k4 N x33 x34 x35 x36 x37 x38 g (j : Int) q41 q42 x q44 =
      k4 x33 x34 x35 x36 x37 x38 (g || ((toL q42).drop j).any (isU x.2.1 x.2.2.1)) q41 q42 x q44 := by
  intro d
  induction d with
  | zero =>
    intro j N g hj hN
    obtain ⟨N, rfl⟩ : ∃ M, N = M + 1 := ⟨N - 1, by omega⟩
    have h3 : ¬ ((j : Int) < (q42.n : Int)) := by omega
    simp only [draymanlaw31_KeyedOnce_l1_run, draymanlaw31_KeyedOnce_l1_step, ltF h3, cond_false, toL_end q42 (show q42.n ≤ j by omega), List.any_nil, Bool.or_false]
  | succ d ih =>
    intro j N g hj hN
    obtain ⟨N, rfl⟩ : ∃ M, N = M + 1 := ⟨N - 1, by omega⟩
    have h3 : (j : Int) < (q42.n : Int) := by omega
    have h4 : Nat.blt j q42.n = true := by rw [Nat.blt_eq]; omega
    have i1 : ∀ g, _ := fun g => ih (j + 1) N g (by omega) (by omega)
    simp only [draymanlaw31_KeyedOnce_l1_run, draymanlaw31_KeyedOnce_l1_step, ltT h3, nn, Bool.and_self, h4, toNatC, cond_true, wrap_succ (show j < 9223372036854775807 by omega), i1]
    rw [toL_drop q42 (show j < q42.n by omega), List.any_cons]
    have a1 : isU x.2.1 x.2.2.1 (q42.g j) = ((q42.g j).2.1 == x.2.1 && (q42.g j).2.2.1 == x.2.2.1) := rfl
    rw [a1]
    cases g <;> cases ((q42.g j).2.1 == x.2.1) <;> simp only [Bool.true_and, Bool.false_and, Bool.not_true, Bool.not_false, Bool.true_or, Bool.false_or, cond_true, cond_false]
def entOf (a : Ask1) : Ent := (a.1, a.2.1, a.2.2.1, a.2.2.2.1, a.2.2.2.2.1, a.2.2.2.2.2.1, a.2.2.2.2.2.2.1, ())
theorem once_loop (kr : Bool → Ents → Ents → Option α) (k0 : Keys → Ents → Ents → Option α) (res : Option α) (x3 : Seq Ask1) (hx : x3.n ≤ 40) (hk0 : ∀ s D U, Nil0 s → s.n ≤ 40 → D.n ≤ 40 → InvK (toL s) (toL D) (toL U) → k0 s D U = res) :
    ∀ (d i N : Nat) (s : Keys) (D U : Ents), i + d = x3.n → d < N → Nil0 s → s.n ≤ i → D.n ≤ i → U.n ≤ i → InvK (toL s) (toL D) (toL U) →
    draymanlaw31_KeyedOnce_l2_run draymanlaw31_awake keyed_Come keyed_Effects keyed_Fit kr k0 N x3 s (i : Int) D U = res := by
  intro d
  induction d with
  | zero =>
    intro i N s D U hi hN h0 h1 h2 h3 hI
    obtain ⟨N, rfl⟩ : ∃ M, N = M + 1 := ⟨N - 1, by omega⟩
    have h4 : ¬ ((i : Int) < (x3.n : Int)) := by omega
    simp only [draymanlaw31_KeyedOnce_l2_run, draymanlaw31_KeyedOnce_l2_step, ltF h4, cond_false]
    exact hk0 s D U h0 (by omega) (by omega) hI
  | succ d ih =>
    intro i N s D U hi hN h0 h1 h2 h3 hI
    obtain ⟨N, rfl⟩ : ∃ M, N = M + 1 := ⟨N - 1, by omega⟩
    have h4 : (i : Int) < (x3.n : Int) := by omega
    generalize hxx : x3.g i = a
    obtain ⟨r, c1, c2, c3⟩ := come_is (α := α) s h0 (by omega) (entOf a) a.2.2.2.2.2.2.2.1
    have c1' : ∀ k : Int → Bool → Int → Keys → Option α, keyed_Come s (a.1, a.2.1, a.2.2.1, a.2.2.2.1, a.2.2.2.2.1, a.2.2.2.2.2.1, a.2.2.2.2.2.2.1, ()) a.2.2.2.2.2.2.2.1 k = k (comeA s (entOf a) a.2.2.2.2.2.2.2.1).2.1 (comeA s (entOf a) a.2.2.2.2.2.2.2.1).2.2 (comeE s (entOf a) a.2.2.2.2.2.2.2.1) r := c1
    have hw : IntKind.i64.wrap ((i : Int) + 1) = ((i + 1 : Nat) : Int) := wrap_succ (by omega)
    simp only [draymanlaw31_KeyedOnce_l2_run, draymanlaw31_KeyedOnce_l2_step, ltT h4, nn, Bool.and_self, cond_true, toNatC, hxx, c1', hw]
    generalize hv : a.2.2.2.2.2.2.2.1 = v at *
    cases he : (comeE s (entOf a) v == 0) with
    | false =>
      have hA : comeA s (entOf a) v = ([], 0, false) := by unfold comeA; rw [he]; rfl
      have hrn : r.n = 0 := by rw [hA] at c2; rw [← toL_length, c2]; rfl
      have e1 : (comeE s (entOf a) v != 0) = true := by simp only [bne, he, Bool.not_false]
      have e2 : decide ((r.n : Int) > 0) = false := by rw [hrn]; rfl
      have e3 : ((0 : Int) != 0) = false := rfl
      simp only [hA, e1, e2, e3, Bool.not_false, cond_true, cond_false]
      exact ih (i + 1) N s D U (by omega) (by omega) h0 (by omega) (by omega) (by omega) hI
    | true =>
      have e1 : (comeE s (entOf a) v != 0) = false := by simp only [bne, he, Bool.not_true]
      have hA : comeA s (entOf a) v = comeL (toL s) (entOf a) v := by unfold comeA; rw [he]; rfl
      obtain ⟨_, ho, _, _⟩ := comeE_ok (show comeE s (entOf a) v = 0 by simpa using he)
      have hc := comeL_came (toL s) (entOf a) v
      rw [hA] at c2
      obtain ⟨hI2, hg⟩ := came_inv hI hc ho
      have hlen := came_len hc hI.srt
      rw [← c2, toL_length, toL_length] at hlen
      rw [← c2] at hI2
      simp only [e1, cond_false, hA]
      refine (count_loop _ x3 (i : Int) _ _ D U (entOf a) r (by omega) D.n 0 1000 0 0 (by omega) (by omega) (by omega) (by omega)).trans ?_
      simp only [List.drop_zero, Nat.zero_add]
      refine (gone_loop _ x3 (i : Int) _ _ _ _ D U (entOf a) r (by omega) U.n 0 1000 false (by omega) (by omega)).trans ?_
      simp only [List.drop_zero, Bool.false_or, hw]
      have sz1 : decide (((D.n + 1)) * 56 ≤ 140737488355328) = true := decide_eq_true (by omega)
      have sz2 : decide (((U.n + 1)) * 56 ≤ 140737488355328) = true := decide_eq_true (by omega)
      have apD : toL (⟨(D.nl && false), (D.n + 1), (tApp D.n D.g (fun _ => entOf a))⟩ : Ents) = toL D ++ [entOf a] := by rw [toL_app _ D.nl false, toL_one]
      have apU : toL (⟨(U.nl && false), (U.n + 1), (tApp U.n U.g (fun _ => entOf a))⟩ : Ents) = toL U ++ [entOf a] := by rw [toL_app _ U.nl false, toL_one]
      generalize hD : (toL D).countP (isT (entOf a).2.1 (entOf a).2.2.1) = cT at *
      generalize hB : (toL D).countP (isB (entOf a).2.1 (entOf a).2.2.1) = cB at *
      generalize hG : (toL U).any (isU (entOf a).2.1 (entOf a).2.2.1) = gg at *
      generalize hT : (comeL (toL s) (entOf a) v).2.1 = told at *
      have step := fun (D' U' : Ents) (g1 : D'.n ≤ i + 1) (g2 : U'.n ≤ i + 1) (g3 : InvK (toL r) (toL D') (toL U')) => ih (i + 1) N r D' U' (by omega) (by omega) c3 (by omega) g1 g2 g3
      cases ht : (comeL (toL s) (entOf a) v).2.2 with
      | true =>
        rw [ht] at hI2 hg
        obtain ⟨q1, q2, q3⟩ := hg rfl
        have f1 : (told != 1) = false := by rw [q1]; rfl
        have f2 : (told == 1) = true := by rw [q1]; rfl
        rw [f2, Bool.and_true] at hI2
        simp only [cond_true] at hI2
        cases hb : (entOf a).2.2.2.1 with
        | true =>
          obtain ⟨p1, p2⟩ := q2 hb
          have f3 : (((cT : Nat) : Int) != 1) = false := by rw [p1]; rfl
          have f4 : (((cB : Nat) : Int) != 0) = false := by rw [p2]; rfl
          rw [hb] at hI2
          simp only [f1, f2, f3, f4, sz1, sz2, Bool.not_true, Bool.not_false, cond_true, cond_false]
          exact step _ _ (by simp only; omega) (by simp only; omega) (by rw [apD, apU]; exact hI2)
        | false =>
          obtain ⟨p1, p2⟩ := q3 hb
          have f3 : (((cT : Nat) : Int) != 0) = false := by rw [p1]; rfl
          rw [hb] at hI2
          simp only [f1, f2, f3, p2, sz1, sz2, Bool.not_true, Bool.not_false, cond_true, cond_false]
          exact step _ _ (by simp only; omega) (by omega) (by rw [apD]; exact hI2)
      | false =>
        rw [ht] at hI2
        simp only [cond_false] at hI2
        simp only [cond_false]
        cases hb : (entOf a).2.2.2.1 with
        | true =>
          cases f2 : (told == 1) with
          | true =>
            rw [hb, f2] at hI2
            simp only [sz2, cond_true]
            exact step _ _ (by omega) (by simp only; omega) (by rw [apU]; exact hI2)
          | false =>
            rw [hb, f2] at hI2
            simp only [cond_true, cond_false]
            exact step _ _ (by omega) (by omega) hI2
        | false =>
          rw [hb] at hI2
          simp only [cond_false]
          exact step _ _ (by omega) (by omega) hI2
theorem KeyedOnce_is (x1 : Seq Ask1) (k : Bool → Option α) : draymanlaw31_KeyedOnce x1 k = k true := by
  simp only [draymanlaw31_KeyedOnce, draymanlaw31_KeyedOnce_g, awake31_is]
  by_cases h : (x1.n : Int) > 40
  · simp only [decide_eq_true h, cond_true]
  · simp only [decide_eq_false h, cond_false]
    refine once_loop (α := α) _ _ (k true) x1 (by omega) (fun s D U h0 h1 h2 hI => ?_) x1.n 0 1000 _ _ _ (by omega) (by omega) (fun _ => rfl) (by simp) (by simp) (by simp) InvK.nil
    have hf : fitK s = true := (fitK_iff s).2 ⟨hI.one, hI.srt⟩
    have hsum := hI.sm
    rw [toL_length] at hsum
    have hw : IntKind.i64.wrap (sumT (toL s) + sumB (toL s)) = (D.n : Int) := by rw [hsum]; exact wrap64 (by omega) (by omega)
    simp only [effects_is s (show s.n ≤ 900 by omega), keyedFit_is s (show s.n ≤ 900 by omega), hf, cond_true, hw, beq_self_eq_true]
theorem KeyedOnce_true (x0 : Tup (.sl (.int .i64 (.int .i64 (.int .i64 (.bool (.int .i64 (.int .i64 (.bool (.int .i64 (.nil))))))))) (.nil))) (o0 : OkT (.sl (.int .i64 (.int .i64 (.int .i64 (.bool (.int .i64 (.int .i64 (.bool (.int .i64 (.nil))))))))) (.nil)) x0) (k : Bool → Option Unit) : draymanlaw31_KeyedOnce x0.1 k = k true :=
  KeyedOnce_is (α := Unit) x0.1 k
end Go.Rv.Try
