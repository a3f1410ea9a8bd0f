/- The plain law of KeyedAgain: what was told good is told good again, what was refused stays so. No condition. -/
import Derived.Test.YtkcdjgmialniiaaE3
import Derived.Test.YtkcdjgmialniiaaPureKeyedCome
set_option linter.unusedVariables false
set_option linter.unusedSimpArgs false
namespace Go.Rv.Try
open Go Go.Rv Go.RowKit
variable {α : Type}

theorem fitFrom_of : ∀ (l : List Key) (p : Option Key), (∀ x ∈ l, oneK x = true ∧ ∀ q, p = some q → ltK q x = true) → l.Pairwise (fun a b => ltK a b = true) → fitFrom p l = true
  | [], _, _, _ => rfl
  | y :: l, p, h, hp => by
    obtain ⟨h1, h2⟩ := h y List.mem_cons_self
    obtain ⟨h3, h4⟩ := List.pairwise_cons.1 hp
    have h5 := fitFrom_of l (some y) (fun x hx => ⟨(h x (List.mem_cons_of_mem _ hx)).1, fun q hq => by cases hq; exact h3 x hx⟩) h4
    simp only [fitFrom, h1, h5, Bool.and_true, Bool.true_and]
    cases p with
    | none => rfl
    | some q => exact h2 q rfl
theorem fitK_iff (s : Keys) : fitK s = true ↔ (∀ x ∈ toL s, oneK x = true) ∧ (toL s).Pairwise (fun a b => ltK a b = true) := by
  refine ⟨fun h => ⟨fun x hx => ((fitFrom_all _ _ h).1 x hx).1, (fitFrom_all _ _ h).2⟩, fun h => fitFrom_of _ _ (fun x hx => ⟨h.1 x hx, fun q hq => by cases hq⟩) h.2⟩
theorem fitL_put {l : List Key} {z : Key} (h1 : ∀ x ∈ l, oneK x = true) (h2 : l.Pairwise (fun a b => ltK a b = true)) (hz : oneK z = true) : (∀ x ∈ putL l z, oneK x = true) ∧ (putL l z).Pairwise (fun a b => ltK a b = true) := by
  unfold putL
  refine ⟨fun x hx => ?_, List.pairwise_append.2 ⟨h2.sublist List.filter_sublist, List.pairwise_cons.2 ⟨fun x hx => (List.mem_filter.1 hx).2, h2.sublist List.filter_sublist⟩, fun a ha b hb => ?_⟩⟩
  · simp only [List.mem_append, List.mem_cons, List.mem_filter] at hx
    rcases hx with hx | rfl | hx
    · exact h1 x hx.1
    · exact hz
    · exact h1 x hx.1
  · have h3 := (List.mem_filter.1 ha).2
    rcases List.mem_cons.1 hb with rfl | hb
    · exact h3
    · exact ltK_trans h3 (List.mem_filter.1 hb).2
theorem find_put (l : List Key) (z : Key) : findK (putL l z) z.1 z.2.1 = (z, true) := by
  unfold findK putL
  have h1 : (l.filter (fun y => ltK y z)).find? (isAt z.1 z.2.1) = none := by
    rw [List.find?_eq_none]
    intro y hy hh
    have h2 := (List.mem_filter.1 hy).2
    simp only [isAt, Bool.and_eq_true, beq_iff_eq] at hh
    rw [ltK_iff] at h2
    omega
  have h3 : isAt z.1 z.2.1 z = true := by simp [isAt]
  rw [List.find?_append, h1, List.find?_cons, h3]
  rfl
theorem find_mem {l : List Key} {a b : Int} (h : (findK l a b).2 = true) : (findK l a b).1 ∈ l ∧ (findK l a b).1.1 = a ∧ (findK l a b).1.2.1 = b := by
  unfold findK at h ⊢
  cases hf : l.find? (isAt a b) with
  | none => rw [hf] at h; cases h
  | some y =>
    have h1 := List.mem_of_find?_eq_some hf
    have h2 := List.find?_some hf
    simp only [isAt, Bool.and_eq_true, beq_iff_eq] at h2
    exact ⟨h1, h2⟩
theorem oneB_is {x : Ent} (h : oneB x = true) : idB x.2.1 = true ∧ decide (0 ≤ x.2.2.1) = true ∧ decide (x.2.2.1 < 6) = true ∧ fitN x.2.2.2.2.2.1 = true := by
  simp only [oneB, Bool.and_eq_true] at h
  exact ⟨h.2.1, h.2.2.1, h.2.2.2.1, h.2.2.2.2.2⟩
/-- What may come of a request. -/
inductive Came (l : List Key) (x : Ent) (v : Int) : List Key → Int → Bool → Prop
  | again : Came l x v l 2 false
  | backDone (y : Key) (h : findK l x.2.1 x.2.2.1 = (y, true)) (hb : x.2.2.2.1 = true) (hm : (y.2.2.1 == 2) = false) : Came l x v l 1 false
  | back (y : Key) (h : findK l x.2.1 x.2.2.1 = (y, true)) (hb : x.2.2.2.1 = true) (hm : (y.2.2.1 == 2) = true) : Came l x v (putL l (y.1, y.2.1, 4, y.2.2.2.1, 1, y.2.2.2.2.2.1, ())) 1 true
  | backNone (h : (findK l x.2.1 x.2.2.1).2 = false) (hb : x.2.2.2.1 = true) : Came l x v (putL l (x.2.1, x.2.2.1, 3, 0, 0, x.2.2.2.2.2.1, ())) 1 false
  | thereDone (y : Key) (h : findK l x.2.1 x.2.2.1 = (y, true)) (hb : x.2.2.2.1 = false) (hm : (y.2.2.1 == 2) = true) : Came l x v l 1 false
  | thereNever (y : Key) (h : findK l x.2.1 x.2.2.1 = (y, true)) (hb : x.2.2.2.1 = false) (hm : (y.2.2.1 == 2) = false) : Came l x v l 3 false
  | there (h : (findK l x.2.1 x.2.2.1).2 = false) (hb : x.2.2.2.1 = false) : Came l x v (putL l (x.2.1, x.2.2.1, 2, 1, 0, x.2.2.2.2.2.1, ())) 1 true
  | never (h : (findK l x.2.1 x.2.2.1).2 = false) (hb : x.2.2.2.1 = false) : Came l x v (putL l (x.2.1, x.2.2.1, 5, 0, 0, x.2.2.2.2.2.1, ())) 3 false
theorem comeL_came (l : List Key) (x : Ent) (v : Int) : Came l x v (comeL l x v).1 (comeL l x v).2.1 (comeL l x v).2.2 := by
  unfold comeL
  cases hi : (findK l x.2.1 x.2.2.1).2 with
  | true =>
    have hf : findK l x.2.1 x.2.2.1 = ((findK l x.2.1 x.2.2.1).1, true) := by rw [← hi]
    cases hb : x.2.2.2.1 with
    | true =>
      cases hm : ((findK l x.2.1 x.2.2.1).1.2.2.1 == 2) with
      | false => simp only [comeF, backL, hm, cond_true, cond_false]; exact .backDone _ hf hb hm
      | true =>
        cases hv : (v == 1) with
        | false => simp only [comeF, backL, hm, hv, cond_true, cond_false]; exact .again
        | true => simp only [comeF, backL, hm, hv, cond_true, cond_false]; exact .back _ hf hb hm
    | false =>
      cases hm : ((findK l x.2.1 x.2.2.1).1.2.2.1 == 2) with
      | true => simp only [comeF, thereL', hm, cond_true, cond_false]; exact .thereDone _ hf hb hm
      | false => simp only [comeF, thereL', hm, cond_true, cond_false]; exact .thereNever _ hf hb hm
  | false =>
    cases hb : x.2.2.2.1 with
    | true =>
      cases hv : (v == 1) with
      | false => simp only [comeF, backL, hv, cond_true, cond_false]; exact .again
      | true => simp only [comeF, backL, hv, cond_true, cond_false]; exact .backNone hi hb
    | false =>
      cases hv : (v == 1) with
      | true => simp only [comeF, thereL', hv, cond_true, cond_false]; exact .there hi hb
      | false =>
        cases hv3 : (v == 3) with
        | false => simp only [comeF, thereL', hv, hv3, cond_true, cond_false]; exact .again
        | true =>
          cases ha : x.2.2.2.2.2.2.1 with
          | true => simp only [comeF, thereL', hv, hv3, ha, cond_true, cond_false]; exact .again
          | false => simp only [comeF, thereL', hv, hv3, ha, cond_true, cond_false]; exact .never hi hb
theorem came_fit {l l' : List Key} {x : Ent} {v t : Int} {d : Bool} (h : Came l x v l' t d) (ho : oneB x = true) (h1 : ∀ x ∈ l, oneK x = true) (h2 : l.Pairwise (fun a b => ltK a b = true)) : (∀ x ∈ l', oneK x = true) ∧ l'.Pairwise (fun a b => ltK a b = true) := by
  obtain ⟨o1, o2, o3, o4⟩ := oneB_is ho
  cases h with
  | again => exact ⟨h1, h2⟩
  | backDone => exact ⟨h1, h2⟩
  | thereDone => exact ⟨h1, h2⟩
  | thereNever => exact ⟨h1, h2⟩
  | back y hf hb hm =>
    have hy : y ∈ l := by have := (find_mem (l := l) (a := x.2.1) (b := x.2.2.1) (by rw [hf])).1; rw [hf] at this; exact this
    have h3 := h1 y hy
    refine fitL_put h1 h2 ?_
    simp only [oneK, Bool.and_eq_true] at h3 ⊢
    obtain ⟨a1, a2, a3, a4, a5⟩ := h3
    refine ⟨a1, a2, a3, a4, ?_⟩
    have hm' : y.2.2.1 = 2 := by simpa using hm
    simp only [markB, hm', if_true, Bool.and_eq_true, beq_iff_eq] at a5
    simp [markB, a5.1]
  | backNone => refine fitL_put h1 h2 ?_; simp only [oneK, o1, o2, o3, o4, Bool.true_and]; rfl
  | there => refine fitL_put h1 h2 ?_; simp only [oneK, o1, o2, o3, o4, Bool.true_and]; rfl
  | never => refine fitL_put h1 h2 ?_; simp only [oneK, o1, o2, o3, o4, Bool.true_and]; rfl
/-- Once more. -/
theorem came_again {l l' : List Key} {x : Ent} {v t : Int} {d : Bool} (h : Came l x v l' t d) (w : Int) : (t = 2 ∧ l' = l) ∨ comeL l' x w = (l', t, false) := by
  cases h with
  | again => exact .inl ⟨rfl, rfl⟩
  | backDone y hf hb hm =>
    refine .inr ?_
    unfold comeL
    rw [hf, hb]
    simp only [comeF, backL, hm, cond_true, cond_false]
  | back y hf hb hm =>
    refine .inr ?_
    have hk : y.1 = x.2.1 ∧ y.2.1 = x.2.2.1 := by have := (find_mem (l := l) (a := x.2.1) (b := x.2.2.1) (by rw [hf])).2; rw [hf] at this; exact this
    have h3 := find_put l (y.1, y.2.1, 4, y.2.2.2.1, 1, y.2.2.2.2.2.1, ())
    simp only [hk.1, hk.2] at h3
    unfold comeL
    simp only [hk.1, hk.2]
    rw [h3, hb]
    rfl
  | backNone hf hb =>
    refine .inr ?_
    have h3 := find_put l (x.2.1, x.2.2.1, 3, 0, 0, x.2.2.2.2.2.1, ())
    unfold comeL
    rw [h3, hb]
    rfl
  | thereDone y hf hb hm =>
    refine .inr ?_
    unfold comeL
    rw [hf, hb]
    simp only [comeF, thereL', hm, cond_true, cond_false]
  | thereNever y hf hb hm =>
    refine .inr ?_
    unfold comeL
    rw [hf, hb]
    simp only [comeF, thereL', hm, cond_true, cond_false]
  | there hf hb =>
    refine .inr ?_
    have h3 := find_put l (x.2.1, x.2.2.1, 2, 1, 0, x.2.2.2.2.2.1, ())
    unfold comeL
    rw [h3, hb]
    rfl
  | never hf hb =>
    refine .inr ?_
    have h3 := find_put l (x.2.1, x.2.2.1, 5, 0, 0, x.2.2.2.2.2.1, ())
    unfold comeL
    rw [h3, hb]
    rfl
theorem came_two {l l' : List Key} {x : Ent} {v t : Int} {d : Bool} (h : Came l x v l' t d) (ht : t = 2) : l' = l := by
  cases h with
  | again => rfl
  | _ => cases ht
theorem KeyedAgain_is (x1 : Keys) (h0 : Nil0 x1) (x2 : Ent) (x3 x4 : Int) (k : Bool → Option α) : draymanlaw31_KeyedAgain x1 x2 x3 x4 k = k true := by
  simp only [draymanlaw31_KeyedAgain, draymanlaw31_KeyedAgain_g, awake31_is]
  by_cases h : (x1.n : Int) > 30
  · simp only [decide_eq_true h, cond_true]
  have hn : x1.n ≤ 30 := by omega
  obtain ⟨r, a1, a2, a3⟩ := come_is (α := α) x1 h0 (by omega) x2 x3
  have hr : r.n ≤ 61 := by
    have := congrArg List.length a2
    rw [toL_length] at this
    have := come_n x1 x2 x3 (by omega)
    omega
  simp only [decide_eq_false h, cond_false, a1]
  cases he : (comeE x1 x2 x3 == 0) with
  | false => simp only [bne, he, Bool.not_false, Bool.not_true, cond_false]
  | true =>
  by_cases h1 : x4 < 1
  · simp only [bne, he, Bool.not_true, Bool.not_false, cond_true, decide_eq_true h1, cond_false]
  by_cases h2 : x4 > 3
  · simp only [bne, he, Bool.not_true, Bool.not_false, cond_true, decide_eq_false h1, decide_eq_true h2]
  obtain ⟨c1, c2, c3, c4⟩ := comeE_ok (show comeE x1 x2 x3 = 0 by simpa using he)
  have hA : comeA x1 x2 x3 = comeL (toL x1) x2 x3 := by unfold comeA; rw [he]; rfl
  rw [hA] at a2
  have hc := comeL_came (toL x1) x2 x3
  obtain ⟨f1, f2⟩ := (fitK_iff x1).1 c1
  have hfit := came_fit hc c2 f1 f2
  rw [← a2] at hfit
  have hfr : fitK r = true := (fitK_iff r).2 hfit
  have he2 : comeE r x2 x4 = 0 := by simp [comeE, hfr, c2, h1, h2]
  obtain ⟨t, b1, b2, b3⟩ := come_is (α := α) r a3 (by omega) x2 x4
  have hB : comeA r x2 x4 = comeL (toL r) x2 x4 := by unfold comeA; rw [he2]; rfl
  rw [hB] at b1 b2
  rw [he2] at b1
  have hag := came_again hc x4
  rw [← a2] at hag
  have hz : ((0 : Int) != 0) = false := rfl
  simp only [bne, he, Bool.not_true, Bool.not_false, cond_true, cond_false, decide_eq_false h1, decide_eq_false h2, b1, hA, beq_self_eq_true]
  rcases hag with ⟨g1, g2⟩ | g
  · have e : ((comeL (toL x1) x2 x3).2.1 == 2) = true := by simpa using g1
    simp only [e, cond_true, refSame_is r x1 (by omega), g2, decide_true]
  · rw [g] at b2
    simp only [g, beq_self_eq_true, Bool.not_false, cond_true, refSame_is r t (by omega), b2, decide_true]
    cases he3 : ((comeL (toL x1) x2 x3).2.1 == 2) with
    | false => simp only [cond_false]
    | true =>
      simp only [cond_true]
      have this : toL r = toL x1 := a2.trans (came_two hc (by simpa using he3))
      rw [refSame_is r x1 (by omega), this]
      simp
theorem KeyedAgain_true (x0 : Tup (.sl (.int .i64 (.int .i64 (.int .i64 (.int .i64 (.int .i64 (.int .i64 (.nil))))))) (.nil))) (x1 : Tup (.int .i64 (.int .i64 (.int .i64 (.bool (.int .i64 (.int .i64 (.bool (.nil))))))))) (x2 : Tup (.int .i64 (.nil))) (x3 : Tup (.int .i64 (.nil))) (o0 : OkT (.sl (.int .i64 (.int .i64 (.int .i64 (.int .i64 (.int .i64 (.int .i64 (.nil))))))) (.nil)) x0) (o1 : OkT (.int .i64 (.int .i64 (.int .i64 (.bool (.int .i64 (.int .i64 (.bool (.nil)))))))) x1) (o2 : OkT (.int .i64 (.nil)) x2) (o3 : OkT (.int .i64 (.nil)) x3) (k : Bool → Option Unit) : draymanlaw31_KeyedAgain x0.1 x1 x2.1 x3.1 k = k true :=
  KeyedAgain_is (α := Unit) x0.1 o0.1.2.1 x1 x2.1 x3.1 k
end Go.Rv.Try
