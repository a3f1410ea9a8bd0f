/- What may come of a request to keys, and sums over keys. -/
import Derived.Test.YtmoeohjaafpmgaaE3
import Derived.Test.YtmoeohjaafpmgaaPurePayLib
set_option linter.unusedVariables false
set_option linter.unusedSimpArgs false
namespace Go.Rv.Try
open Go Go.Rv Go.RowKit
variable {α : Type}
theorem fitFrom_of : ∀ (l : List Key) (p : Option Key), (∀ x ∈ l, oneK x = true ∧ ∀ q, p = some q → ltK q x = true) → l.Pairwise (fun a b => ltK a b = true) → fitFrom p l = true
  | [], _, _, _ => rfl
  | y :: l, p, h, hp => by
    obtain ⟨h1, h2⟩ := h y List.mem_cons_self
    obtain ⟨h3, h4⟩ := List.pairwise_cons.1 hp
    have h5 := fitFrom_of l (some y) (fun x hx => ⟨(h x (List.mem_cons_of_mem _ hx)).1, fun q hq => by cases hq; exact h3 x hx⟩) h4
    simp only [fitFrom, h1, h5, Bool.and_true, Bool.true_and]
    cases p with
    | none => rfl
    | some q => exact h2 q rfl
theorem fitK_iff (s : Keys) : fitK s = true ↔ (∀ x ∈ toL s, oneK x = true) ∧ (toL s).Pairwise (fun a b => ltK a b = true) := by
  refine ⟨fun h => ⟨fun x hx => ((fitFrom_all _ _ h).1 x hx).1, (fitFrom_all _ _ h).2⟩, fun h => fitFrom_of _ _ (fun x hx => ⟨h.1 x hx, fun q hq => by cases hq⟩) h.2⟩
theorem fitL_put {l : List Key} {z : Key} (h1 : ∀ x ∈ l, oneK x = true) (h2 : l.Pairwise (fun a b => ltK a b = true)) (hz : oneK z = true) : (∀ x ∈ putL l z, oneK x = true) ∧ (putL l z).Pairwise (fun a b => ltK a b = true) := by
  unfold putL
  refine ⟨fun x hx => ?_, List.pairwise_append.2 ⟨h2.sublist List.filter_sublist, List.pairwise_cons.2 ⟨fun x hx => (List.mem_filter.1 hx).2, h2.sublist List.filter_sublist⟩, fun a ha b hb => ?_⟩⟩
  · simp only [List.mem_append, List.mem_cons, List.mem_filter] at hx
    rcases hx with hx | rfl | hx
    · exact h1 x hx.1
    · exact hz
    · exact h1 x hx.1
  · have h3 := (List.mem_filter.1 ha).2
    rcases List.mem_cons.1 hb with rfl | hb
    · exact h3
    · exact ltK_trans h3 (List.mem_filter.1 hb).2
theorem find_put (l : List Key) (z : Key) : findK (putL l z) z.1 z.2.1 = (z, true) := by
  unfold findK putL
  have h1 : (l.filter (fun y => ltK y z)).find? (isAt z.1 z.2.1) = none := by
    rw [List.find?_eq_none]
    intro y hy hh
    have h2 := (List.mem_filter.1 hy).2
    simp only [isAt, Bool.and_eq_true, beq_iff_eq] at hh
    rw [ltK_iff] at h2
    omega
  have h3 : isAt z.1 z.2.1 z = true := by simp [isAt]
  rw [List.find?_append, h1, List.find?_cons, h3]
  rfl
theorem find_mem {l : List Key} {a b : Int} (h : (findK l a b).2 = true) : (findK l a b).1 ∈ l ∧ (findK l a b).1.1 = a ∧ (findK l a b).1.2.1 = b := by
  unfold findK at h ⊢
  cases hf : l.find? (isAt a b) with
  | none => rw [hf] at h; cases h
  | some y =>
    have h1 := List.mem_of_find?_eq_some hf
    have h2 := List.find?_some hf
    simp only [isAt, Bool.and_eq_true, beq_iff_eq] at h2
    exact ⟨h1, h2⟩
theorem oneB_is {x : Ent} (h : oneB x = true) : idB x.2.1 = true ∧ decide (0 ≤ x.2.2.1) = true ∧ decide (x.2.2.1 < 6) = true ∧ fitN x.2.2.2.2.2.1 = true := by
  simp only [oneB, Bool.and_eq_true] at h
  exact ⟨h.2.1, h.2.2.1, h.2.2.2.1, h.2.2.2.2.2⟩
inductive Came (l : List Key) (x : Ent) (v : Int) : List Key → Int → Bool → Prop
  | again : Came l x v l 2 false
  | backDone (y : Key) (h : findK l x.2.1 x.2.2.1 = (y, true)) (hb : x.2.2.2.1 = true) (hm : (y.2.2.1 == 2) = false) : Came l x v l 1 false
  | back (y : Key) (h : findK l x.2.1 x.2.2.1 = (y, true)) (hb : x.2.2.2.1 = true) (hm : (y.2.2.1 == 2) = true) : Came l x v (putL l (y.1, y.2.1, 4, y.2.2.2.1, 1, y.2.2.2.2.2.1, ())) 1 true
  | backNone (h : (findK l x.2.1 x.2.2.1).2 = false) (hb : x.2.2.2.1 = true) : Came l x v (putL l (x.2.1, x.2.2.1, 3, 0, 0, x.2.2.2.2.2.1, ())) 1 false
  | thereDone (y : Key) (h : findK l x.2.1 x.2.2.1 = (y, true)) (hb : x.2.2.2.1 = false) (hm : (y.2.2.1 == 2) = true) : Came l x v l 1 false
  | thereNever (y : Key) (h : findK l x.2.1 x.2.2.1 = (y, true)) (hb : x.2.2.2.1 = false) (hm : (y.2.2.1 == 2) = false) : Came l x v l 3 false
  | there (h : (findK l x.2.1 x.2.2.1).2 = false) (hb : x.2.2.2.1 = false) : Came l x v (putL l (x.2.1, x.2.2.1, 2, 1, 0, x.2.2.2.2.2.1, ())) 1 true
  | never (h : (findK l x.2.1 x.2.2.1).2 = false) (hb : x.2.2.2.1 = false) : Came l x v (putL l (x.2.1, x.2.2.1, 5, 0, 0, x.2.2.2.2.2.1, ())) 3 false
theorem comeL_came (l : List Key) (x : Ent) (v : Int) : Came l x v (comeL l x v).1 (comeL l x v).2.1 (comeL l x v).2.2 := by
  unfold comeL
  cases hi : (findK l x.2.1 x.2.2.1).2 with
  | true =>
    have hf : findK l x.2.1 x.2.2.1 = ((findK l x.2.1 x.2.2.1).1, true) := by rw [← hi]
    cases hb : x.2.2.2.1 with
    | true =>
      cases hm : ((findK l x.2.1 x.2.2.1).1.2.2.1 == 2) with
      | false => simp only [comeF, backL, hm, cond_true, cond_false]; exact .backDone _ hf hb hm
      | true =>
        cases hv : (v == 1) with
        | false => simp only [comeF, backL, hm, hv, cond_true, cond_false]; exact .again
        | true => simp only [comeF, backL, hm, hv, cond_true, cond_false]; exact .back _ hf hb hm
    | false =>
      cases hm : ((findK l x.2.1 x.2.2.1).1.2.2.1 == 2) with
      | true => simp only [comeF, thereL', hm, cond_true, cond_false]; exact .thereDone _ hf hb hm
      | false => simp only [comeF, thereL', hm, cond_true, cond_false]; exact .thereNever _ hf hb hm
  | false =>
    cases hb : x.2.2.2.1 with
    | true =>
      cases hv : (v == 1) with
      | false => simp only [comeF, backL, hv, cond_true, cond_false]; exact .again
      | true => simp only [comeF, backL, hv, cond_true, cond_false]; exact .backNone hi hb
    | false =>
      cases hv : (v == 1) with
      | true => simp only [comeF, thereL', hv, cond_true, cond_false]; exact .there hi hb
      | false =>
        cases hv3 : (v == 3) with
        | false => simp only [comeF, thereL', hv, hv3, cond_true, cond_false]; exact .again
        | true =>
          cases ha : x.2.2.2.2.2.2.1 with
          | true => simp only [comeF, thereL', hv, hv3, ha, cond_true, cond_false]; exact .again
          | false => simp only [comeF, thereL', hv, hv3, ha, cond_true, cond_false]; exact .never hi hb
theorem came_fit {l l' : List Key} {x : Ent} {v t : Int} {d : Bool} (h : Came l x v l' t d) (ho : oneB x = true) (h1 : ∀ x ∈ l, oneK x = true) (h2 : l.Pairwise (fun a b => ltK a b = true)) : (∀ x ∈ l', oneK x = true) ∧ l'.Pairwise (fun a b => ltK a b = true) := by
  obtain ⟨o1, o2, o3, o4⟩ := oneB_is ho
  cases h with
  | again => exact ⟨h1, h2⟩
  | backDone => exact ⟨h1, h2⟩
  | thereDone => exact ⟨h1, h2⟩
  | thereNever => exact ⟨h1, h2⟩
  | back y hf hb hm =>
    have hy : y ∈ l := by have := (find_mem (l := l) (a := x.2.1) (b := x.2.2.1) (by rw [hf])).1; rw [hf] at this; exact this
    have h3 := h1 y hy
    refine fitL_put h1 h2 ?_
    simp only [oneK, Bool.and_eq_true] at h3 ⊢
    obtain ⟨a1, a2, a3, a4, a5⟩ := h3
    refine ⟨a1, a2, a3, a4, ?_⟩
    have hm' : y.2.2.1 = 2 := by simpa using hm
    simp only [markB, hm', if_true, Bool.and_eq_true, beq_iff_eq] at a5
    simp [markB, a5.1]
  | backNone => refine fitL_put h1 h2 ?_; simp only [oneK, o1, o2, o3, o4, Bool.true_and]; rfl
  | there => refine fitL_put h1 h2 ?_; simp only [oneK, o1, o2, o3, o4, Bool.true_and]; rfl
  | never => refine fitL_put h1 h2 ?_; simp only [oneK, o1, o2, o3, o4, Bool.true_and]; rfl
theorem lt_asym {a b : Key} (h : ltK a b = true) : ltK b a = false ∧ sameK a b = false ∧ sameK b a = false := by
  rw [ltK_iff] at h
  refine ⟨?_, ?_, ?_⟩
  · cases hb : ltK b a with
    | false => rfl
    | true => rw [ltK_iff] at hb; omega
  · cases hb : sameK a b with
    | false => rfl
    | true => rw [sameK_iff] at hb; omega
  · cases hb : sameK b a with
    | false => rfl
    | true => rw [sameK_iff] at hb; omega
theorem same_lt {a b c : Key} (h : sameK a b = true) (h2 : ltK a c = true) : ltK b c = true ∧ ltK c b = false ∧ sameK c b = false := by
  have h3 : ltK b c = true := by rw [ltK_iff] at *; rw [sameK_iff] at h; omega
  exact ⟨h3, (lt_asym h3).1, (lt_asym h3).2.2⟩
theorem tri (a b : Key) : ltK a b = true ∨ sameK a b = true ∨ ltK b a = true := by
  rw [ltK_iff, ltK_iff, sameK_iff]; omega
theorem split_at (z : Key) : ∀ (l : List Key), l.Pairwise (fun a b => ltK a b = true) → l = l.filter (fun y => ltK y z) ++ (l.filter (fun y => sameK y z) ++ l.filter (fun y => ltK z y))
  | [], _ => rfl
  | h :: t, hp => by
    obtain ⟨h1, h2⟩ := List.pairwise_cons.1 hp
    rcases tri h z with hc | hc | hc
    · obtain ⟨c1, c2, c3⟩ := lt_asym hc
      have ih := split_at z t h2
      rw [List.filter_cons, List.filter_cons, List.filter_cons, hc, c1, c2]
      simp only [if_true, Bool.false_eq_true, if_false, List.cons_append]
      rw [← ih]
    · have g : ∀ x ∈ t, ltK z x = true ∧ ltK x z = false ∧ sameK x z = false := fun x hx => same_lt hc (h1 x hx)
      have e1 : t.filter (fun y => ltK y z) = [] := List.filter_eq_nil_iff.2 fun x hx => by rw [(g x hx).2.1]; simp
      have e2 : t.filter (fun y => sameK y z) = [] := List.filter_eq_nil_iff.2 fun x hx => by rw [(g x hx).2.2]; simp
      have e3 : t.filter (fun y => ltK z y) = t := List.filter_eq_self.2 fun x hx => (g x hx).1
      have c1 : ltK h z = false := by
        cases hb : ltK h z with
        | false => rfl
        | true => rw [ltK_iff] at hb; rw [sameK_iff] at hc; omega
      have c2 : ltK z h = false := by
        cases hb : ltK z h with
        | false => rfl
        | true => rw [ltK_iff] at hb; rw [sameK_iff] at hc; omega
      rw [List.filter_cons, List.filter_cons, List.filter_cons, hc, c1, c2, e1, e2, e3]
      simp
    · have g : ∀ x ∈ t, ltK z x = true := fun x hx => ltK_trans hc (h1 x hx)
      have e1 : t.filter (fun y => ltK y z) = [] := List.filter_eq_nil_iff.2 fun x hx => by rw [(lt_asym (g x hx)).1]; simp
      have e2 : t.filter (fun y => sameK y z) = [] := List.filter_eq_nil_iff.2 fun x hx => by rw [(lt_asym (g x hx)).2.2]; simp
      have e3 : t.filter (fun y => ltK z y) = t := List.filter_eq_self.2 g
      obtain ⟨c1, c2, c3⟩ := lt_asym hc
      rw [List.filter_cons, List.filter_cons, List.filter_cons, hc, c1, c3, e1, e2, e3]
      simp
theorem mid_one {z y : Key} : ∀ (l : List Key), l.Pairwise (fun a b => ltK a b = true) → y ∈ l → sameK y z = true → l.filter (fun x => sameK x z) = [y]
  | [], _, h, _ => by cases h
  | h :: t, hp, hy, hs => by
    obtain ⟨h1, h2⟩ := List.pairwise_cons.1 hp
    rcases List.mem_cons.1 hy with rfl | hy
    · have e2 : t.filter (fun x => sameK x z) = [] := List.filter_eq_nil_iff.2 fun x hx => by rw [(same_lt hs (h1 x hx)).2.2]; simp
      rw [List.filter_cons, hs, e2]; simp
    · have hn : sameK h z = false := by
        cases hb : sameK h z with
        | false => rfl
        | true =>
          have := h1 y hy
          rw [ltK_iff] at this; rw [sameK_iff] at hb hs; omega
      rw [List.filter_cons, hn]
      simp only [Bool.false_eq_true, if_false]
      exact mid_one t h2 hy hs
theorem isAt_same (x z : Key) : isAt z.1 z.2.1 x = sameK x z := rfl
theorem find_none {l : List Key} {z : Key} (h : (findK l z.1 z.2.1).2 = false) : l.filter (fun x => sameK x z) = [] := by
  unfold findK at h
  cases hf : l.find? (isAt z.1 z.2.1) with
  | some y => rw [hf] at h; cases h
  | none =>
    rw [List.find?_eq_none] at hf
    exact List.filter_eq_nil_iff.2 fun x hx => by rw [← isAt_same]; exact hf x hx
theorem put_len {l : List Key} (hp : l.Pairwise (fun a b => ltK a b = true)) (z : Key) : (putL l z).length ≤ l.length + 1 := by
  have := congrArg List.length (split_at z l hp)
  simp only [List.length_append] at this
  unfold putL
  simp only [List.length_append, List.length_cons]
  omega
end Go.Rv.Try
