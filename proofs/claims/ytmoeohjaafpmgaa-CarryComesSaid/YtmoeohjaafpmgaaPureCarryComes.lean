/- The plain law of CarryComes: what comes of a request to a depot is the document's. No condition. -/
import Derived.Test.YtmoeohjaafpmgaaE5
import Derived.Test.YtmoeohjaafpmgaaPureCarryLib
set_option linter.unusedVariables false
set_option linter.unusedSimpArgs false
namespace Go.Rv.Try
open Go Go.Rv Go.RowKit
variable {α : Type}
abbrev Dep := Keys × Int × Pars × Unit

/-! ### Depots that may be -/
theorem beq_int2 (x y : Tup (.int .i64 (.int .i64 .nil))) : Ty.beq (.int .i64 (.int .i64 .nil)) x y = true ↔ x = y := by
  obtain ⟨x, x', ⟨⟩⟩ := x
  obtain ⟨y, y', ⟨⟩⟩ := y
  simp only [Ty.beq, Bool.and_true, beq_iff_eq, Bool.and_eq_true]
  exact ⟨fun h => by rw [h.1, h.2], fun h => ⟨congrArg (fun p => p.1) h, congrArg (fun p => p.2.1) h⟩⟩
abbrev Met := List ((Int × Int × Unit) × (Bool × Unit))
def hasP (l : List Par) (a b : Int) : Bool := l.any fun p => p.2.1 == a && p.2.2.1 == b
def MetOk (m : Met) (pre : List Par) : Prop := ∀ a b : Int, (mGetD (.int .i64 (.int .i64 .nil)) (β := Bool × Unit) m (a, b, ()) (false, ())).1 = hasP pre a b
theorem MetOk.nil : MetOk [] [] := fun a b => rfl
theorem MetOk.put {m : Met} {pre : List Par} (h : MetOk m pre) (p : Par) : MetOk (mPut (.int .i64 (.int .i64 .nil)) (β := Bool × Unit) m (p.2.1, p.2.2.1, ()) (true, ())) (pre ++ [p]) := by
  intro a b
  have hy := h a b
  have hg := mGet_put (kt := .int .i64 (.int .i64 .nil)) (β := Bool × Unit) beq_int2 (p.2.1, p.2.2.1, ()) (a, b, ()) (true, ()) m
  refine (congrArg (fun o => (Option.getD o (false, ())).1) hg).trans ?_
  have hb : Ty.beq (.int .i64 (.int .i64 .nil)) (a, b, ()) (p.2.1, p.2.2.1, ()) = (p.2.1 == a && p.2.2.1 == b) := by
    rw [Bool.eq_iff_iff]
    refine (beq_int2 _ _).trans ?_
    simp only [Bool.and_eq_true, beq_iff_eq]
    exact ⟨fun h => ⟨(congrArg (fun p => p.1) h).symm, (congrArg (fun p => p.2.1) h).symm⟩, fun h => by rw [h.1, h.2]⟩
  rw [hb]
  simp only [hasP, List.any_append, List.any_cons, List.any_nil, Bool.or_false]
  cases (p.2.1 == a && p.2.2.1 == b) with
  | true => simp
  | false => simp only [cond_false, Bool.or_false]; exact hy
def markP (p : Par) : Int := cond p.2.2.2.1 4 2
def parFrom (K : List Key) : List Par → Nat → List Par → Bool
  | _, _, [] => true
  | pre, i, p :: l => (p.1 == ((i + 1 : Nat) : Int)) && ((findK K p.2.1 p.2.2.1).2 && (((findK K p.2.1 p.2.2.1).1.2.2.1 == markP p) && (!(hasP pre p.2.1 p.2.2.1) && parFrom K (pre ++ [p]) (i + 1) l)))
def depB (d : Dep) : Bool := fitK d.1 && (idB d.2.1 && ((sumT (toL d.1) == (d.2.2.1.n : Int)) && parFrom (toL d.1) [] 0 (toL d.2.2.1)))
theorem mark_is (p : Par) (k : Int → Option α) : carry_mark p k = k (markP p) := by
  unfold carry_mark markP
  cases p.2.2.2.1 <;> rfl
theorem depFit_loop (kr : Bool → Dep → Met → Option α) (k0 : Dep → Met → Option α) (d : Dep) (hk : d.1.n ≤ 900) (hn : d.2.2.1.n ≤ 900) (rf rt : Option α) (hkr : ∀ d m, kr false d m = rf) (hk0 : ∀ m, k0 d m = rt) : ∀ (c j N : Nat) (m : Met) (pre : List Par), j + c = d.2.2.1.n → c < N → MetOk m pre →
    carry_Fit_l0_run keyed_Effects keyed_Fit keyed_Find carry_mark kr k0 N d.2.2.1 (d.2.2.1.n : Int) (j : Int) d m = cond (parFrom (toL d.1) pre j ((toL d.2.2.1).drop j)) rt rf := by
  intro c
  induction c with
  | zero =>
    intro j N m pre hj hN hm
    obtain ⟨N, rfl⟩ : ∃ M, N = M + 1 := ⟨N - 1, by omega⟩
    have h3 : ¬ ((j : Int) < (d.2.2.1.n : Int)) := by omega
    simp only [carry_Fit_l0_run, carry_Fit_l0_step, ltF h3, cond_false, toL_end d.2.2.1 (show d.2.2.1.n ≤ j by omega), parFrom, cond_true, hk0]
  | succ c ih =>
    intro j N m pre hj hN hm
    obtain ⟨N, rfl⟩ : ∃ M, N = M + 1 := ⟨N - 1, by omega⟩
    have h3 : (j : Int) < (d.2.2.1.n : Int) := by omega
    have h4 := ih (j + 1) N _ _ (by omega) (by omega) (hm.put (d.2.2.1.g j))
    simp only [carry_Fit_l0_run, carry_Fit_l0_step, ltT h3, nn, Bool.and_self, toNatC, cond_true, wrap_succ (show j < 9223372036854775807 by omega), find_is d.1 hk, mark_is, hm (d.2.2.1.g j).2.1 (d.2.2.1.g j).2.2.1, hkr, Bool.not_not]
    rw [toL_drop d.2.2.1 (show j < d.2.2.1.n by omega)]
    simp only [parFrom, bne, Bool.not_not]
    rw [h4]
    cases ((d.2.2.1.g j).1 == ((j + 1 : Nat) : Int)) <;> cases (findK (toL d.1) (d.2.2.1.g j).2.1 (d.2.2.1.g j).2.2.1).2 <;> cases ((findK (toL d.1) (d.2.2.1.g j).2.1 (d.2.2.1.g j).2.2.1).1.2.2.1 == markP (d.2.2.1.g j)) <;> cases hasP pre (d.2.2.1.g j).2.1 (d.2.2.1.g j).2.2.1 <;> rfl
theorem depFit_is (d : Dep) (hk : d.1.n ≤ 900) (hn : d.2.2.1.n ≤ 900) (k : Bool → Option α) : carry_Fit d k = k (depB d) := by
  simp only [carry_Fit, carry_Fit_g, effects_is d.1 hk, keyedFit_is d.1 hk, depB]
  cases hf : fitK d.1 with
  | false => rfl
  | true =>
  by_cases h1 : d.2.1 < 1
  · have : idB d.2.1 = false := by simp [idB]; omega
    simp only [decide_eq_true h1, this, Bool.not_true, Bool.not_false, cond_true, cond_false, Bool.false_and, Bool.and_false]
  by_cases h2 : d.2.1 > 1099511627776
  · have : idB d.2.1 = false := by simp [idB]; omega
    simp only [decide_eq_false h1, decide_eq_true h2, this, Bool.not_true, Bool.not_false, cond_true, cond_false, Bool.false_and, Bool.and_false]
  have : idB d.2.1 = true := by simp [idB]; omega
  simp only [decide_eq_false h1, decide_eq_false h2, this, Bool.not_true, Bool.not_false, cond_true, cond_false, Bool.true_and, bne]
  cases hs : (sumT (toL d.1) == (d.2.2.1.n : Int)) with
  | false => rfl
  | true =>
    have h := depFit_loop (α := α) (fun x13 x14 m15 => (k x13)) (fun x16 m17 => (k true)) d hk hn (k false) (k true) (fun _ _ => rfl) (fun _ => rfl) d.2.2.1.n 0 1000 [] [] (by omega) (by omega) MetOk.nil
    rw [List.drop_zero] at h
    simp only [Bool.not_true, cond_false, Bool.true_and]
    refine Eq.trans h ?_
    cases parFrom (toL d.1) [] 0 (toL d.2.2.1) <;> rfl
theorem refDep_in (kr : Bool → Dep → Par → Key → Option α) (k2 : Int → Dep → Par → Key → Option α) (d : Dep) (hn : d.2.2.1.n ≤ 900) (i : Nat) (hi : i < d.2.2.1.n) (p : Par) (y : Key) : ∀ (c j N : Nat), j + c = i → c < N →
    draymanref33_Fit_l0_run draymanref31_Fit draymanref31_Effects draymanref31_Find kr k2 N (i : Int) (j : Int) d p y = cond (hasP (((toL d.2.2.1).take i).drop j) p.2.1 p.2.2.1) (kr false d p y) (k2 (i : Int) d p y) := by
  intro c
  induction c with
  | zero =>
    intro j N hj hN
    obtain ⟨N, rfl⟩ : ∃ M, N = M + 1 := ⟨N - 1, by omega⟩
    have h3 : ¬ ((j : Int) < (i : Int)) := by omega
    have h4 : ((toL d.2.2.1).take i).drop j = [] := List.drop_of_length_le (by simp [toL_length]; omega)
    simp only [draymanref33_Fit_l0_run, draymanref33_Fit_l0_step, ltF h3, cond_false, h4, hasP, List.any_nil]
  | succ c ih =>
    intro j N hj hN
    obtain ⟨N, rfl⟩ : ∃ M, N = M + 1 := ⟨N - 1, by omega⟩
    have h3 : (j : Int) < (i : Int) := by omega
    have h4 := ih (j + 1) N (by omega) (by omega)
    have h6 : (j : Int) < (d.2.2.1.n : Int) := by omega
    have h5 : ((toL d.2.2.1).take i).drop j = d.2.2.1.g j :: ((toL d.2.2.1).take i).drop (j + 1) := by
      rw [List.drop_take, toL_drop d.2.2.1 (show j < d.2.2.1.n by omega), List.drop_take]
      have : i - j = (i - (j + 1)) + 1 := by omega
      rw [this, List.take_succ_cons]
    simp only [draymanref33_Fit_l0_run, draymanref33_Fit_l0_step, ltT h3, ltT h6, nn, Bool.and_self, toNatC, cond_true, wrap_succ (show j < 9223372036854775807 by omega), h4]
    rw [h5]
    simp only [hasP, List.any_cons]
    cases ((d.2.2.1.g j).2.1 == p.2.1) <;> cases ((d.2.2.1.g j).2.2.1 == p.2.2.1) <;> rfl
theorem refDep_loop (kr : Bool → Dep → Option α) (k0 : Dep → Option α) (d : Dep) (hk : d.1.n ≤ 900) (hn : d.2.2.1.n ≤ 900) : ∀ (c j N : Nat), j + c = d.2.2.1.n → c < N →
    draymanref33_Fit_l1_run draymanref31_Fit draymanref31_Effects draymanref31_Find kr k0 N (j : Int) d = cond (parFrom (toL d.1) ((toL d.2.2.1).take j) j ((toL d.2.2.1).drop j)) (k0 d) (kr false d) := by
  intro c
  induction c with
  | zero =>
    intro j N hj hN
    obtain ⟨N, rfl⟩ : ∃ M, N = M + 1 := ⟨N - 1, by omega⟩
    have h3 : ¬ ((j : Int) < (d.2.2.1.n : Int)) := by omega
    simp only [draymanref33_Fit_l1_run, draymanref33_Fit_l1_step, ltF h3, cond_false, toL_end d.2.2.1 (show d.2.2.1.n ≤ j by omega), parFrom, cond_true]
  | succ c ih =>
    intro j N hj hN
    obtain ⟨N, rfl⟩ : ∃ M, N = M + 1 := ⟨N - 1, by omega⟩
    have hj' : j < d.2.2.1.n := by omega
    have h3 : (j : Int) < (d.2.2.1.n : Int) := by omega
    have h4 := ih (j + 1) N (by omega) (by omega)
    have e2 : (toL d.2.2.1).take (j + 1) = (toL d.2.2.1).take j ++ [d.2.2.1.g j] := by
      have hl : j < (toL d.2.2.1).length := by rw [toL_length]; exact hj'
      rw [List.take_succ_eq_append_getElem hl]
      have : (toL d.2.2.1)[j] = d.2.2.1.g j := by simp [toL]
      rw [this]
    rw [e2] at h4
    have h5 := fun y => refDep_in (α := α) (fun x14 x15 x16 x17 => (kr x14 x15)) (fun x18 x19 x20 x21 => (draymanref33_Fit_l1_run draymanref31_Fit draymanref31_Effects draymanref31_Find kr k0 N (IntKind.i64.wrap (x18 + 1)) x19)) d hn j hj' (d.2.2.1.g j) y j 0 1000 (by omega) (by omega)
    simp only [List.drop_zero, Int.natCast_zero] at h5
    simp only [draymanref33_Fit_l1_run, draymanref33_Fit_l1_step, ltT h3, nn, Bool.and_self, toNatC, cond_true, refFind_is d.1 hk, wrap_succ (show j < 9223372036854775807 by omega), Bool.not_not, bne]
    have h5' : ∀ y, draymanref33_Fit_l0_run draymanref31_Fit draymanref31_Effects draymanref31_Find (fun x14 x15 x16 x17 => (kr x14 x15)) (fun x18 x19 x20 x21 => (draymanref33_Fit_l1_run draymanref31_Fit draymanref31_Effects draymanref31_Find kr k0 N (IntKind.i64.wrap (x18 + 1)) x19)) 1000 (j : Int) 0 d (d.2.2.1.g j) y = _ := h5
    rw [toL_drop d.2.2.1 hj']
    simp only [parFrom, h5', wrap_succ (show j < 9223372036854775807 by omega), h4, markP]
    cases (d.2.2.1.g j).2.2.2.1 with
    | true =>
      simp only [cond_true]
      cases ((d.2.2.1.g j).1 == ((j + 1 : Nat) : Int)) <;> cases (findK (toL d.1) (d.2.2.1.g j).2.1 (d.2.2.1.g j).2.2.1).2 <;> cases ((findK (toL d.1) (d.2.2.1.g j).2.1 (d.2.2.1.g j).2.2.1).1.2.2.1 == 4) <;> cases hasP ((toL d.2.2.1).take j) (d.2.2.1.g j).2.1 (d.2.2.1.g j).2.2.1 <;> rfl
    | false =>
      simp only [cond_false]
      cases ((d.2.2.1.g j).1 == ((j + 1 : Nat) : Int)) <;> cases (findK (toL d.1) (d.2.2.1.g j).2.1 (d.2.2.1.g j).2.2.1).2 <;> cases ((findK (toL d.1) (d.2.2.1.g j).2.1 (d.2.2.1.g j).2.2.1).1.2.2.1 == 2) <;> cases hasP ((toL d.2.2.1).take j) (d.2.2.1.g j).2.1 (d.2.2.1.g j).2.2.1 <;> rfl
theorem refDepFit_is (d : Dep) (hk : d.1.n ≤ 900) (hn : d.2.2.1.n ≤ 900) (k : Bool → Option α) : draymanref33_Fit d k = k (depB d) := by
  simp only [draymanref33_Fit, draymanref33_Fit_g, refEffects_is d.1 hk, refKeyedFit_is d.1 hk, depB]
  cases hf : fitK d.1 with
  | false => rfl
  | true =>
  by_cases h1 : d.2.1 < 1
  · have : idB d.2.1 = false := by simp [idB]; omega
    simp only [decide_eq_true h1, this, Bool.not_true, Bool.not_false, cond_true, cond_false, Bool.false_and, Bool.and_false]
  by_cases h2 : d.2.1 > 1099511627776
  · have : idB d.2.1 = false := by simp [idB]; omega
    simp only [decide_eq_false h1, decide_eq_true h2, this, Bool.not_true, Bool.not_false, cond_true, cond_false, Bool.false_and, Bool.and_false]
  have : idB d.2.1 = true := by simp [idB]; omega
  simp only [decide_eq_false h1, decide_eq_false h2, this, Bool.not_true, Bool.not_false, cond_true, cond_false, Bool.true_and, bne]
  cases hs : (sumT (toL d.1) == (d.2.2.1.n : Int)) with
  | false => rfl
  | true =>
    have h := refDep_loop (α := α) (fun x30 x31 => (k x30)) (fun x32 => (k true)) d hk hn d.2.2.1.n 0 1000 (by omega) (by omega)
    rw [List.drop_zero] at h
    simp only [Bool.not_true, cond_false, Bool.true_and]
    refine Eq.trans h ?_
    show cond (parFrom (toL d.1) [] 0 (toL d.2.2.1)) _ _ = _
    cases parFrom (toL d.1) [] 0 (toL d.2.2.1) <;> rfl

/-! ### How many are out -/
def outL (l : List Par) : Nat := l.countP fun p => !p.2.2.2.1
theorem out_loop (k0 : Int → Option α) (s : Pars) (hn : s.n ≤ 900) : ∀ (c j N e : Nat), j + c = s.n → c < N → e ≤ j →
    carry_count_l0_run carry_Out_1 k0 N (e : Int) s (s.n : Int) (j : Int) = k0 ((e + outL ((toL s).drop j) : Nat) : Int) := by
  intro c
  induction c with
  | zero =>
    intro j N e hj hN he
    obtain ⟨N, rfl⟩ : ∃ M, N = M + 1 := ⟨N - 1, by omega⟩
    have h3 : ¬ ((j : Int) < (s.n : Int)) := by omega
    simp only [carry_count_l0_run, carry_count_l0_step, ltF h3, cond_false, toL_end s (show s.n ≤ j by omega), outL, List.countP_nil, Nat.add_zero]
  | succ c ih =>
    intro j N e hj hN he
    obtain ⟨N, rfl⟩ : ∃ M, N = M + 1 := ⟨N - 1, by omega⟩
    have h3 : (j : Int) < (s.n : Int) := by omega
    have i1 := ih (j + 1) N (e + 1) (by omega) (by omega) (by omega)
    have i2 := ih (j + 1) N e (by omega) (by omega) (by omega)
    simp only [carry_count_l0_run, carry_count_l0_step, ltT h3, nn, Bool.and_self, toNatC, cond_true, wrap_succ (show j < 9223372036854775807 by omega), wrap_succ (show e < 9223372036854775807 by omega), carry_Out_1, i1, i2]
    rw [toL_drop s (show j < s.n by omega)]
    simp only [outL, List.countP_cons]
    cases (s.g j).2.2.2.1 <;> simp only [Bool.not_true, Bool.not_false, cond_true, cond_false, if_true, Bool.false_eq_true, if_false, Nat.add_zero] <;> (congr 2; omega)
theorem out_is (d : Dep) (hn : d.2.2.1.n ≤ 900) (k : Int → Option α) : carry_Out d k = k ((outL (toL d.2.2.1) : Nat) : Int) := by
  have h := out_loop (α := α) (fun x7 => (k x7)) d.2.2.1 hn d.2.2.1.n 0 1000 0 (by omega) (by omega) (by omega)
  rw [List.drop_zero, Nat.zero_add] at h
  exact h
theorem refOut_loop (k0 : Int → Dep → Option α) (d : Dep) (hn : d.2.2.1.n ≤ 900) : ∀ (c j N e : Nat), j + c = d.2.2.1.n → c < N → e ≤ j →
    draymanref33_Out_l0_run k0 N (e : Int) (j : Int) d = k0 ((e + outL ((toL d.2.2.1).drop j) : Nat) : Int) d := by
  intro c
  induction c with
  | zero =>
    intro j N e hj hN he
    obtain ⟨N, rfl⟩ : ∃ M, N = M + 1 := ⟨N - 1, by omega⟩
    have h3 : ¬ ((j : Int) < (d.2.2.1.n : Int)) := by omega
    simp only [draymanref33_Out_l0_run, draymanref33_Out_l0_step, ltF h3, cond_false, toL_end d.2.2.1 (show d.2.2.1.n ≤ j by omega), outL, List.countP_nil, Nat.add_zero]
  | succ c ih =>
    intro j N e hj hN he
    obtain ⟨N, rfl⟩ : ∃ M, N = M + 1 := ⟨N - 1, by omega⟩
    have h3 : (j : Int) < (d.2.2.1.n : Int) := by omega
    have i1 := ih (j + 1) N (e + 1) (by omega) (by omega) (by omega)
    have i2 := ih (j + 1) N e (by omega) (by omega) (by omega)
    simp only [draymanref33_Out_l0_run, draymanref33_Out_l0_step, ltT h3, nn, Bool.and_self, toNatC, cond_true, wrap_succ (show j < 9223372036854775807 by omega), wrap_succ (show e < 9223372036854775807 by omega), i1, i2]
    rw [toL_drop d.2.2.1 (show j < d.2.2.1.n by omega)]
    simp only [outL, List.countP_cons]
    cases (d.2.2.1.g j).2.2.2.1 <;> simp only [Bool.not_true, Bool.not_false, cond_true, cond_false, if_true, Bool.false_eq_true, if_false, Nat.add_zero] <;> (congr 2; omega)
theorem refOut_is (d : Dep) (hn : d.2.2.1.n ≤ 900) (k : Int → Option α) : draymanref33_Out d k = k ((outL (toL d.2.2.1) : Nat) : Int) := by
  have h := refOut_loop (α := α) (fun x5 x6 => (k x5)) d hn d.2.2.1.n 0 1000 0 (by omega) (by omega) (by omega)
  rw [List.drop_zero, Nat.zero_add] at h
  exact h

/-! ### Copies, and depots that are one -/
theorem of_loop (d : Dep) (hn : d.2.2.1.n ≤ 900) (x4 : Keys) (x5 : Int) (x6 : Keys) (x7 : Int) (q8 : Pars) : ∀ (c j N : Nat) (q : Pars), j + c = d.2.2.1.n → c < N → q.n = j → toL q = (toL d.2.2.1).take j → Nil0P q →
    ∃ r : Pars, (∀ k0 : Dep → Keys → Int → Keys → Int → Pars → Pars → Option α, draymanlaw33_of_l0_run k0 N (j : Int) d x4 x5 x6 x7 q8 q = k0 d x4 x5 x6 x7 q8 r) ∧ toL r = toL d.2.2.1 ∧ Nil0P r := by
  intro c
  induction c with
  | zero =>
    intro j N q hj hN hq hl h0
    obtain ⟨N, rfl⟩ : ∃ M, N = M + 1 := ⟨N - 1, by omega⟩
    have h3 : ¬ ((j : Int) < (d.2.2.1.n : Int)) := by omega
    exact ⟨q, fun k0 => by simp only [draymanlaw33_of_l0_run, draymanlaw33_of_l0_step, ltF h3, cond_false], by rw [hl, List.take_of_length_le (by rw [toL_length]; omega)], h0⟩
  | succ c ih =>
    intro j N q hj hN hq hl h0
    obtain ⟨N, rfl⟩ : ∃ M, N = M + 1 := ⟨N - 1, by omega⟩
    have h3 : (j : Int) < (d.2.2.1.n : Int) := by omega
    have hlen : j < (toL d.2.2.1).length := by rw [toL_length]; omega
    have hget : (toL d.2.2.1)[j] = d.2.2.1.g j := by simp [toL]
    have sz : decide (((q.n + 1)) * 32 ≤ 140737488355328) = true := decide_eq_true (by omega)
    obtain ⟨r, h5, h6⟩ := ih (j + 1) N (⟨(q.nl && false), (q.n + 1), (tApp q.n q.g (fun _ => (d.2.2.1.g j)))⟩ : Pars) (by omega) (by omega) (by simp only; omega) (by
      rw [toL_app _ q.nl false, toL_one, List.take_succ_eq_append_getElem hlen, hget, ← hl]) (fun h => by simp at h)
    refine ⟨r, fun k0 => ?_, h6⟩
    simp only [draymanlaw33_of_l0_run, draymanlaw33_of_l0_step, ltT h3, nn, Bool.and_self, toNatC, sz, cond_true, wrap_succ (show j < 9223372036854775807 by omega)]
    exact h5 k0
theorem of_is (d : Dep) (hn : d.2.2.1.n ≤ 900) : ∃ r : Pars, (∀ k : Keys → Int → Pars → Option α, draymanlaw33_of d k = k d.1 d.2.1 r) ∧ toL r = toL d.2.2.1 ∧ Nil0P r := by
  obtain ⟨r, h1, h2⟩ := of_loop (α := α) d hn (⟨true, 0, (fun _ => zK)⟩ : Keys) 0 d.1 d.2.1 (⟨true, 0, (fun _ => zP)⟩ : Pars) d.2.2.1.n 0 1000 (⟨true, 0, (fun _ => zP)⟩ : Pars) (by omega) (by omega) rfl rfl (fun _ => rfl)
  exact ⟨r, fun k => h1 _, h2⟩
def eqP (a b : Par) : Bool := ((a.1 == b.1) && ((a.2.1 == b.2.1) && ((a.2.2.1 == b.2.2.1) && ((a.2.2.2.1 == b.2.2.2.1) && true))))
theorem eqP_is (a b : Par) : eqP a b = decide (a = b) := by
  obtain ⟨a1, a2, a3, a4, ⟨⟩⟩ := a
  obtain ⟨b1, b2, b3, b4, ⟨⟩⟩ := b
  rw [Bool.eq_iff_iff]
  simp only [eqP, Bool.and_eq_true, beq_iff_eq, decide_eq_true_eq, Prod.mk.injEq, and_true]
theorem sameP_loop (kr : Bool → Dep → Dep → Option α) (k0 : Dep → Dep → Option α) (a b : Dep) (hst : a.2.2.1.n = b.2.2.1.n) (hn : a.2.2.1.n ≤ 900) : ∀ (m j N : Nat), j + m = a.2.2.1.n → m < N →
    draymanref33_Same_l0_run draymanref31_Same kr k0 N (j : Int) a b = cond (decide ((toL a.2.2.1).drop j = (toL b.2.2.1).drop j)) (k0 a b) (kr false a b) := by
  intro m
  induction m with
  | zero =>
    intro j N hj hN
    obtain ⟨N, rfl⟩ : ∃ M, N = M + 1 := ⟨N - 1, by omega⟩
    have : ¬ ((j : Int) < (a.2.2.1.n : Int)) := by omega
    simp only [draymanref33_Same_l0_run, draymanref33_Same_l0_step, ltF this, cond_false, toL_end a.2.2.1 (show a.2.2.1.n ≤ j by omega), toL_end b.2.2.1 (show b.2.2.1.n ≤ j by omega), decide_true, cond_true]
  | succ m ih =>
    intro j N hj hN
    obtain ⟨N, rfl⟩ : ∃ M, N = M + 1 := ⟨N - 1, by omega⟩
    have h1 : (j : Int) < (a.2.2.1.n : Int) := by omega
    have h2 : (j : Int) < (b.2.2.1.n : Int) := by omega
    simp only [draymanref33_Same_l0_run, draymanref33_Same_l0_step, ltT h1, ltT h2, nn, Bool.and_self, cond_true, toNatC, wrap_succ (show j < 9223372036854775807 by omega), ih (j + 1) N (by omega) (by omega)]
    show cond (!(eqP (a.2.2.1.g j) (b.2.2.1.g j))) _ _ = _
    rw [toL_drop a.2.2.1 (show j < a.2.2.1.n by omega), toL_drop b.2.2.1 (show j < b.2.2.1.n by omega), eqP_is]
    by_cases h : a.2.2.1.g j = b.2.2.1.g j
    · simp [h]
    · simp [h]
theorem ne_of_nP {s t : Pars} (h : s.n ≠ t.n) : toL s ≠ toL t := fun e => h (by rw [← toL_length s, ← toL_length t, e])
noncomputable def sameD (a b : Dep) : Bool := (a.2.1 == b.2.1) && (decide (toL a.1 = toL b.1) && decide (toL a.2.2.1 = toL b.2.2.1))
theorem refSameD_is (a b : Dep) (hk : a.1.n ≤ 900) (hn : a.2.2.1.n ≤ 900) (k : Bool → Option α) : draymanref33_Same a b k = k (sameD a b) := by
  simp only [draymanref33_Same, draymanref33_Same_g, refSame_is a.1 b.1 hk, sameD, bne, Bool.not_not]
  cases (a.2.1 == b.2.1) with
  | false => rfl
  | true =>
  by_cases h : a.2.2.1.n = b.2.2.1.n
  · have h2 := sameP_loop (α := α) (fun x7 x8 x9 => (k x7)) (fun x10 x11 => (k true)) a b h hn a.2.2.1.n 0 1000 (by omega) (by omega)
    rw [List.drop_zero, List.drop_zero] at h2
    have e : ((a.2.2.1.n : Int) == (b.2.2.1.n : Int)) = true := by simp [h]
    rw [e]
    cases decide (toL a.1 = toL b.1) with
    | false => rfl
    | true =>
      simp only [cond_true, cond_false, Bool.not_true, Bool.true_and]
      refine Eq.trans h2 ?_
      cases decide (toL a.2.2.1 = toL b.2.2.1) <;> rfl
  · have e : ((a.2.2.1.n : Int) == (b.2.2.1.n : Int)) = false := by rw [beq_eq_false_iff_ne]; omega
    rw [e, decide_eq_false (ne_of_nP h)]
    simp
theorem same_loop33 (a b : Dep) (hn : a.2.2.1.n ≤ 900) (x6 : Keys) (x7 : Int) : ∀ (c j N : Nat) (q : Pars), j + c = a.2.2.1.n → c < N → q.n = j → toL q = (toL a.2.2.1).take j →
    ∃ r : Pars, (∀ k0 : Dep → Dep → Keys → Int → Pars → Option α, draymanlaw33_same_l0_run draymanref33_Same k0 N (j : Int) a b x6 x7 q = k0 a b x6 x7 r) ∧ toL r = toL a.2.2.1 := by
  intro c
  induction c with
  | zero =>
    intro j N q hj hN hq hl
    obtain ⟨N, rfl⟩ : ∃ M, N = M + 1 := ⟨N - 1, by omega⟩
    have h3 : ¬ ((j : Int) < (a.2.2.1.n : Int)) := by omega
    exact ⟨q, fun k0 => by simp only [draymanlaw33_same_l0_run, draymanlaw33_same_l0_step, ltF h3, cond_false], by rw [hl, List.take_of_length_le (by rw [toL_length]; omega)]⟩
  | succ c ih =>
    intro j N q hj hN hq hl
    obtain ⟨N, rfl⟩ : ∃ M, N = M + 1 := ⟨N - 1, by omega⟩
    have h3 : (j : Int) < (a.2.2.1.n : Int) := by omega
    have hlen : j < (toL a.2.2.1).length := by rw [toL_length]; omega
    have hget : (toL a.2.2.1)[j] = a.2.2.1.g j := by simp [toL]
    have sz : decide (((q.n + 1)) * 32 ≤ 140737488355328) = true := decide_eq_true (by omega)
    obtain ⟨r, h5, h6⟩ := ih (j + 1) N (⟨(q.nl && false), (q.n + 1), (tApp q.n q.g (fun _ => (a.2.2.1.g j)))⟩ : Pars) (by omega) (by omega) (by simp only; omega) (by
      rw [toL_app _ q.nl false, toL_one, List.take_succ_eq_append_getElem hlen, hget, ← hl])
    refine ⟨r, fun k0 => ?_, h6⟩
    simp only [draymanlaw33_same_l0_run, draymanlaw33_same_l0_step, ltT h3, nn, Bool.and_self, toNatC, sz, cond_true, wrap_succ (show j < 9223372036854775807 by omega)]
    exact h5 k0
theorem same33_is (a b : Dep) (hk : a.1.n ≤ 900) (hn : a.2.2.1.n ≤ 900) (k : Bool → Option α) : draymanlaw33_same a b k = k (sameD a b) := by
  obtain ⟨r, h1, h2⟩ := same_loop33 (α := α) a b hn a.1 a.2.1 a.2.2.1.n 0 1000 (⟨true, 0, (fun _ => zP)⟩ : Pars) (by omega) (by omega) rfl rfl
  have hrn : r.n ≤ 900 := by
    have := congrArg List.length h2
    rw [toL_length, toL_length] at this
    omega
  refine (h1 _ : draymanlaw33_same a b k = _).trans ?_
  have h3 := refSameD_is (α := α) (a.1, a.2.1, r, ()) b hk hrn
  simp only [h3]
  simp only [sameD, h2]
theorem equalK_loop (kr : Bool → Option α) (k0 : Option α) (s t : Keys) (hst : s.n = t.n) (hn : s.n ≤ 900) : ∀ (m j N : Nat), j + m = s.n → m < N →
    slices_Equal_api_Key_api_Key_l0_run kr k0 N s t (s.n : Int) (j : Int) = cond (decide ((toL s).drop j = (toL t).drop j)) k0 (kr false) := by
  intro m
  induction m with
  | zero =>
    intro j N hj hN
    obtain ⟨N, rfl⟩ : ∃ M, N = M + 1 := ⟨N - 1, by omega⟩
    have : ¬ ((j : Int) < (s.n : Int)) := by omega
    simp only [slices_Equal_api_Key_api_Key_l0_run, slices_Equal_api_Key_api_Key_l0_step, ltF this, cond_false, toL_end s (show s.n ≤ j by omega), toL_end t (show t.n ≤ j by omega), decide_true, cond_true]
  | succ m ih =>
    intro j N hj hN
    obtain ⟨N, rfl⟩ : ∃ M, N = M + 1 := ⟨N - 1, by omega⟩
    have h1 : (j : Int) < (s.n : Int) := by omega
    have h2 : (j : Int) < (t.n : Int) := by omega
    simp only [slices_Equal_api_Key_api_Key_l0_run, slices_Equal_api_Key_api_Key_l0_step, ltT h1, ltT h2, nn, Bool.and_self, cond_true, toNatC, wrap_succ (show j < 9223372036854775807 by omega), ih (j + 1) N (by omega) (by omega)]
    show cond (!(eqK (s.g j) (t.g j))) _ _ = _
    rw [toL_drop s (show j < s.n by omega), toL_drop t (show j < t.n by omega), eqK_is]
    by_cases h : s.g j = t.g j
    · simp [h]
    · simp [h]
theorem equalK_is (s t : Keys) (hn : s.n ≤ 900) (k : Bool → Option α) : slices_Equal_api_Key_api_Key s t k = k (decide (toL s = toL t)) := by
  unfold slices_Equal_api_Key_api_Key
  by_cases h : s.n = t.n
  · have h2 := equalK_loop (α := α) (fun x3 => k x3) (k true) s t h hn s.n 0 1000 (by omega) (by omega)
    rw [List.drop_zero, List.drop_zero] at h2
    have e : ((s.n : Int) != (t.n : Int)) = false := by simp [h]
    rw [e]
    refine Eq.trans h2 ?_
    cases decide (toL s = toL t) <;> rfl
  · have e : ((s.n : Int) != (t.n : Int)) = true := by simp; omega
    rw [e, decide_eq_false (ne_of_n h)]
    rfl
theorem equalP_loop (kr : Bool → Option α) (k0 : Option α) (s t : Pars) (hst : s.n = t.n) (hn : s.n ≤ 900) : ∀ (m j N : Nat), j + m = s.n → m < N →
    slices_Equal_carry_Parcel_carry_Parcel_l0_run kr k0 N s t (s.n : Int) (j : Int) = cond (decide ((toL s).drop j = (toL t).drop j)) k0 (kr false) := by
  intro m
  induction m with
  | zero =>
    intro j N hj hN
    obtain ⟨N, rfl⟩ : ∃ M, N = M + 1 := ⟨N - 1, by omega⟩
    have : ¬ ((j : Int) < (s.n : Int)) := by omega
    simp only [slices_Equal_carry_Parcel_carry_Parcel_l0_run, slices_Equal_carry_Parcel_carry_Parcel_l0_step, ltF this, cond_false, toL_end s (show s.n ≤ j by omega), toL_end t (show t.n ≤ j by omega), decide_true, cond_true]
  | succ m ih =>
    intro j N hj hN
    obtain ⟨N, rfl⟩ : ∃ M, N = M + 1 := ⟨N - 1, by omega⟩
    have h1 : (j : Int) < (s.n : Int) := by omega
    have h2 : (j : Int) < (t.n : Int) := by omega
    simp only [slices_Equal_carry_Parcel_carry_Parcel_l0_run, slices_Equal_carry_Parcel_carry_Parcel_l0_step, ltT h1, ltT h2, nn, Bool.and_self, cond_true, toNatC, wrap_succ (show j < 9223372036854775807 by omega), ih (j + 1) N (by omega) (by omega)]
    show cond (!(eqP (s.g j) (t.g j))) _ _ = _
    rw [toL_drop s (show j < s.n by omega), toL_drop t (show j < t.n by omega), eqP_is]
    by_cases h : s.g j = t.g j
    · simp [h]
    · simp [h]
theorem equalP_is (s t : Pars) (hn : s.n ≤ 900) (k : Bool → Option α) : slices_Equal_carry_Parcel_carry_Parcel s t k = k (decide (toL s = toL t)) := by
  unfold slices_Equal_carry_Parcel_carry_Parcel
  by_cases h : s.n = t.n
  · have h2 := equalP_loop (α := α) (fun x3 => k x3) (k true) s t h hn s.n 0 1000 (by omega) (by omega)
    rw [List.drop_zero, List.drop_zero] at h2
    have e : ((s.n : Int) != (t.n : Int)) = false := by simp [h]
    rw [e]
    refine Eq.trans h2 ?_
    cases decide (toL s = toL t) <;> rfl
  · have e : ((s.n : Int) != (t.n : Int)) = true := by simp; omega
    rw [e, decide_eq_false (ne_of_nP h)]
    rfl
theorem carrySame_is (a b : Dep) (hk : a.1.n ≤ 900) (hn : a.2.2.1.n ≤ 900) (k : Bool → Option α) : carry_Same a b k = k (sameD a b) := by
  simp only [carry_Same, carry_Same_g, equalK_is a.1 b.1 hk, equalP_is a.2.2.1 b.2.2.1 hn, sameD]
  cases (a.2.1 == b.2.1) <;> cases decide (toL a.1 = toL b.1) <;> rfl

/-! ### What comes of a request -/
def takeP (x : Ent) (p : Par) : Par := cond (p.2.1 == x.2.1 && p.2.2.1 == x.2.2.1) (p.1, p.2.1, p.2.2.1, true, ()) p
def tookL (l : List Par) (x : Ent) : List Par := cond x.2.2.2.1 (l.map (takeP x)) (l ++ [(((l.length + 1 : Nat) : Int), x.2.1, x.2.2.1, false, ())])
theorem cloneP_is (s : Pars) (hs : Nil0P s) (hn : s.n ≤ 1000000) : ∃ r : Pars, (∀ k : Pars → Option α, slices_Clone_carry_Parcel_carry_Parcel s k = k r) ∧ toL r = toL s := by
  cases h : s.nl with
  | true =>
    refine ⟨⟨true, 0, (fun _ => zP)⟩, fun k => by simp only [slices_Clone_carry_Parcel_carry_Parcel, h, cond_true]; rfl, ?_⟩
    have := hs h
    exact (List.length_eq_zero_iff.1 (by rw [toL_length, this])).symm
  | false =>
    refine ⟨⟨false, (0 + s.n), (tApp 0 (tSel [] zP) s.g)⟩, fun k => ?_, ?_⟩
    · have e : decide (((0 + s.n)) * 32 ≤ 140737488355328) = true := decide_eq_true (by omega)
      simp only [slices_Clone_carry_Parcel_carry_Parcel, h, cond_false, e, cond_true]
      rfl
    · rw [toL_app false true s.nl 0 s.n]
      rfl
theorem took_loop (l : Pars) (x : Ent) (hn : l.n ≤ 900) (q8 : Pars) : ∀ (c j N : Nat) (q : Pars), j + c = l.n → c < N → q.n = l.n → (∀ i, i < l.n → q.g i = if i < j then takeP x (l.g i) else l.g i) →
    ∃ r : Pars, (∀ k0 : Ent → Pars → Pars → Option α, carry_took_l0_run slices_Concat_carry_Parcel_carry_Parcel k0 N l (l.n : Int) (j : Int) x q8 q = k0 x q8 r) ∧ toL r = (toL l).map (takeP x) := by
  intro c
  induction c with
  | zero =>
    intro j N q hj hN hq hg
    obtain ⟨N, rfl⟩ : ∃ M, N = M + 1 := ⟨N - 1, by omega⟩
    have h3 : ¬ ((j : Int) < (l.n : Int)) := by omega
    refine ⟨q, fun k0 => by simp only [carry_took_l0_run, carry_took_l0_step, ltF h3, cond_false], ?_⟩
    refine toL_ext (by simp [toL_length, hq]) fun i hi => ?_
    rw [List.length_map, toL_length] at hi
    rw [hg i hi, if_pos (by omega)]
    simp [toL]
  | succ c ih =>
    intro j N q hj hN hq hg
    obtain ⟨N, rfl⟩ : ∃ M, N = M + 1 := ⟨N - 1, by omega⟩
    have h3 : (j : Int) < (l.n : Int) := by omega
    have h5 : (j : Int) < (q.n : Int) := by omega
    have h4 : Nat.blt j q.n = true := by rw [Nat.blt_eq]; omega
    have hgj : q.g j = l.g j := by rw [hg j (by omega), if_neg (by omega)]
    have upd : ∀ b : Bool, takeP x (l.g j) = ((q.g j).1, (q.g j).2.1, (q.g j).2.2.1, b, ()) →
        ∃ r : Pars, (∀ k0 : Ent → Pars → Pars → Option α, carry_took_l0_run slices_Concat_carry_Parcel_carry_Parcel k0 N l (l.n : Int) ((j + 1 : Nat) : Int) x q8 (⟨q.nl, q.n, (fun i => cond (Nat.beq i j) ((q.g i).1, (q.g i).2.1, (q.g i).2.2.1, b, ()) (q.g i))⟩ : Pars) = k0 x q8 r) ∧ toL r = (toL l).map (takeP x) := by
      intro b hb
      refine ih (j + 1) N _ (by omega) (by omega) hq fun i hi => ?_
      simp only
      by_cases e : i = j
      · subst e
        rw [Nat.beq_refl, if_pos (by omega), hb]; rfl
      · have : Nat.beq i j = false := by
          cases hh : Nat.beq i j with
          | false => rfl
          | true => exact absurd (Nat.eq_of_beq_eq_true hh) e
        rw [this, cond_false, hg i hi]
        by_cases h6 : i < j
        · rw [if_pos h6, if_pos (by omega)]
        · rw [if_neg h6, if_neg (by omega)]
    have eta : ∀ b, (l.g j).2.2.2.1 = b → ((q.g j).1, (q.g j).2.1, (q.g j).2.2.1, b, ()) = l.g j := fun b hb => by rw [hgj, ← hb]
    cases hbk : (l.g j).2.2.2.1 with
    | true =>
      obtain ⟨r, g1, g2⟩ := upd true (by
        unfold takeP
        rw [hgj]
        cases ((l.g j).2.1 == x.2.1 && (l.g j).2.2.1 == x.2.2.1) with
        | true => rfl
        | false => rw [cond_false, ← hbk])
      refine ⟨r, fun k0 => ?_, g2⟩
      simp only [carry_took_l0_run, carry_took_l0_step, ltT h3, ltT h5, nn, Bool.and_self, toNatC, h4, hbk, Bool.not_true, cond_true, cond_false, wrap_succ (show j < 9223372036854775807 by omega)]
      exact g1 k0
    | false =>
      cases hsg : ((l.g j).2.1 == x.2.1) with
      | true =>
        obtain ⟨r, g1, g2⟩ := upd ((l.g j).2.2.1 == x.2.2.1) (by
          unfold takeP
          rw [hgj, hsg, Bool.true_and]
          cases hst : ((l.g j).2.2.1 == x.2.2.1) with
          | true => rfl
          | false => rw [cond_false, ← hbk])
        refine ⟨r, fun k0 => ?_, g2⟩
        simp only [carry_took_l0_run, carry_took_l0_step, ltT h3, ltT h5, nn, Bool.and_self, toNatC, h4, hbk, hsg, Bool.not_false, cond_true, wrap_succ (show j < 9223372036854775807 by omega)]
        exact g1 k0
      | false =>
        obtain ⟨r, g1, g2⟩ := upd false (by
          unfold takeP
          rw [hgj, hsg, Bool.false_and, cond_false, ← hbk])
        refine ⟨r, fun k0 => ?_, g2⟩
        simp only [carry_took_l0_run, carry_took_l0_step, ltT h3, ltT h5, nn, Bool.and_self, toNatC, h4, hbk, hsg, Bool.not_false, cond_true, cond_false, wrap_succ (show j < 9223372036854775807 by omega)]
        exact g1 k0
theorem took_is (l : Pars) (x : Ent) (hn : l.n ≤ 900) : ∃ r : Pars, (∀ k : Pars → Option α, carry_took l x k = k r) ∧ toL r = tookL (toL l) x := by
  unfold tookL
  cases hb : x.2.2.2.1 with
  | false =>
    have hw : IntKind.i64.wrap ((l.n : Int) + 1) = ((l.n + 1 : Nat) : Int) := wrap_succ (by omega)
    obtain ⟨c, hc1, hc2, _⟩ := concat_isP (α := α) (⟨false, 2, (tSel [(l, ()), ((⟨false, 1, (fun _ => (((l.n + 1 : Nat) : Int), x.2.1, x.2.2.1, false, ()))⟩ : Pars), ())] ((⟨true, 0, fun _ => zP⟩ : Pars), ()))⟩ : Seq (Pars × Unit)) (by show (2 : Nat) ≤ 900; omega) (by
      show totP [(l, ()), ((⟨false, 1, (fun _ => (((l.n + 1 : Nat) : Int), x.2.1, x.2.2.1, false, ()))⟩ : Pars), ())] ≤ 1000000
      simp only [totP, List.map_cons, List.map_nil, List.sum_cons, List.sum_nil]; omega)
    refine ⟨c, fun k => ?_, ?_⟩
    · simp only [carry_took, carry_took_g, hb, Bool.not_false, cond_true, hw]
      exact hc1 k
    · rw [hc2]
      show flatP [(l, ()), ((⟨false, 1, (fun _ => (((l.n + 1 : Nat) : Int), x.2.1, x.2.2.1, false, ()))⟩ : Pars), ())] = _
      simp only [flatP, List.flatMap_cons, List.flatMap_nil, List.append_nil, toL_one, toL_length, cond_false]
  | true =>
    have e1 : decide ((l.n : Int) ≤ (l.n : Int)) = true := decide_eq_true (by omega)
    have e2 : decide (((32 : Int) * (l.n : Int)) ≤ 140737488355328) = true := decide_eq_true (by omega)
    obtain ⟨r, h1, h2⟩ := took_loop (α := α) l x hn (⟨true, 0, (fun _ => zP)⟩ : Pars) l.n 0 1000 (⟨false, (l.n : Int).toNat, (tApp (min l.n (l.n : Int).toNat) l.g (tShift (min l.n (l.n : Int).toNat) (fun _ => zP)))⟩ : Pars) (by omega) (by omega) (by simp) (fun i hi => by
      simp only [toNatC, Nat.min_self]
      rw [if_neg (by omega)]
      have : Nat.blt i l.n = true := by rw [Nat.blt_eq]; exact hi
      simp [tApp, this])
    refine ⟨r, fun k => ?_, h2⟩
    simp only [carry_took, carry_took_g, hb, Bool.not_true, cond_false, nn, e1, e2, Bool.and_self, cond_true]
    exact h1 _
def comeE33 (d : Dep) (x : Ent) (v : Int) : Int := cond (depB d) (cond (svc x.2.2.2.2.1 == 2) (cond (comeE d.1 x v == 0) (cond (d.2.1 == 1099511627776) 5 0) (comeE d.1 x v)) 1) 12
abbrev Rep := Int × Int × Int × Int × Bool × Int × Int × Unit
def repA (d : Dep) (x : Ent) (v : Int) : Rep := cond (comeE33 d x v == 0) (2, d.2.1, x.2.1, x.2.2.1, x.2.2.2.1, x.1, (comeA d.1 x v).2.1, ()) (0, 0, 0, 0, false, 0, 0, ())
def depA (d : Dep) (x : Ent) (v : Int) : List Key × Int × List Par := cond (comeE33 d x v == 0) ((comeA d.1 x v).1, d.2.1 + 1, cond (comeA d.1 x v).2.2 (tookL (toL d.2.2.1) x) (toL d.2.2.1)) ([], 0, [])
def absD (d : Dep) : List Key × Int × List Par := (toL d.1, d.2.1, toL d.2.2.1)
def zD : Dep := ((⟨true, 0, (fun _ => zK)⟩ : Keys), 0, (⟨true, 0, (fun _ => zP)⟩ : Pars), ())
theorem next_of {d : Dep} (h : depB d = true) : 1 ≤ d.2.1 ∧ d.2.1 ≤ 1099511627776 := by
  simp only [depB, Bool.and_eq_true] at h
  exact le_of_id h.2.1
theorem come33_is (d : Dep) (h0 : Nil0 d.1) (h0p : Nil0P d.2.2.1) (hk : d.1.n ≤ 700) (hn : d.2.2.1.n ≤ 900) (x : Ent) (v : Int) : ∃ r : Dep, (∀ k : Dep → Rep → Int → Option α, carry_Come d x v k = k r (repA d x v) (comeE33 d x v)) ∧ absD r = depA d x v := by
  obtain ⟨rk, a1, a2, a3⟩ := come_is (α := α) d.1 h0 hk x v
  obtain ⟨rc, b1, b2⟩ := cloneP_is (α := α) d.2.2.1 h0p (by omega)
  obtain ⟨rt, c1, c2⟩ := took_is (α := α) d.2.2.1 x hn
  unfold repA depA comeE33
  cases hf : depB d with
  | false => exact ⟨zD, fun k => by simp only [carry_Come, carry_Come_g, depFit_is d (by omega) hn, hf, Bool.not_false, cond_true]; rfl, rfl⟩
  | true =>
  cases hs : (svc x.2.2.2.2.1 == 2) with
  | false => exact ⟨zD, fun k => by simp only [carry_Come, carry_Come_g, depFit_is d (by omega) hn, hf, Service_is, bne, hs, Bool.not_false, Bool.not_true, cond_true, cond_false]; rfl, rfl⟩
  | true =>
  cases he : (comeE d.1 x v == 0) with
  | false =>
    refine ⟨zD, fun k => ?_, by simp only [cond_true, cond_false, he]; rfl⟩
    simp only [carry_Come, carry_Come_g, depFit_is d (by omega) hn, hf, Service_is, bne, hs, a1, he, Bool.not_false, Bool.not_true, cond_true, cond_false]
    rfl
  | true =>
  cases hm : (d.2.1 == 1099511627776) with
  | true =>
    refine ⟨zD, fun k => ?_, rfl⟩
    simp only [carry_Come, carry_Come_g, depFit_is d (by omega) hn, hf, Service_is, bne, hs, a1, he, hm, Bool.not_false, Bool.not_true, cond_true, cond_false]
    rfl
  | false =>
    have hnx := next_of hf
    have hw : IntKind.i64.wrap (d.2.1 + 1) = d.2.1 + 1 := wrap64 (by omega) (by omega)
    cases hd : (comeA d.1 x v).2.2 with
    | true =>
      refine ⟨(rk, d.2.1 + 1, rt, ()), fun k => ?_, ?_⟩
      · simp only [carry_Come, carry_Come_g, depFit_is d (by omega) hn, hf, Service_is, bne, hs, a1, he, hm, hd, b1, c1, hw, Bool.not_false, Bool.not_true, cond_true, cond_false]
        rfl
      · simp only [absD, a2, c2, cond_true, cond_false]
        rfl
    | false =>
      refine ⟨(rk, d.2.1 + 1, rc, ()), fun k => ?_, ?_⟩
      · simp only [carry_Come, carry_Come_g, depFit_is d (by omega) hn, hf, Service_is, bne, hs, a1, he, hm, hd, b1, hw, Bool.not_false, Bool.not_true, cond_true, cond_false]
        rfl
      · simp only [absD, a2, b2, cond_true, cond_false]
        rfl
def stepP (did : Bool) (x : Ent) (p : Par) : Par := cond (did && x.2.2.2.1) (takeP x p) p
theorem refCome_loop (d : Dep) (x : Ent) (hn : d.2.2.1.n ≤ 900) (told : Int) (did : Bool) (x15 : Keys) (x16 : Int) (x17 : Rep) (x18 : Keys) (x19 : Int) (q20 : Pars) : ∀ (c j N : Nat) (q : Pars), j + c = d.2.2.1.n → c < N → q.n = j → toL q = ((toL d.2.2.1).take j).map (stepP did x) →
    ∃ r : Pars, (∀ k0 : Int → Bool → Dep → Ent → Keys → Int → Rep → Keys → Int → Pars → Pars → Option α, draymanref33_Come_l0_run draymanref33_Fit draymanref17_Service draymanref31_Come k0 N told did (j : Int) d x x15 x16 x17 x18 x19 q20 q = k0 told did d x x15 x16 x17 x18 x19 q20 r) ∧ r.n = d.2.2.1.n ∧ toL r = (toL d.2.2.1).map (stepP did x) := by
  intro c
  induction c with
  | zero =>
    intro j N q hj hN hq hl
    obtain ⟨N, rfl⟩ : ∃ M, N = M + 1 := ⟨N - 1, by omega⟩
    have h3 : ¬ ((j : Int) < (d.2.2.1.n : Int)) := by omega
    exact ⟨q, fun k0 => by simp only [draymanref33_Come_l0_run, draymanref33_Come_l0_step, ltF h3, cond_false], by omega, by rw [hl, List.take_of_length_le (by rw [toL_length]; omega)]⟩
  | succ c ih =>
    intro j N q hj hN hq hl
    obtain ⟨N, rfl⟩ : ∃ M, N = M + 1 := ⟨N - 1, by omega⟩
    have h3 : (j : Int) < (d.2.2.1.n : Int) := by omega
    have hlen : j < (toL d.2.2.1).length := by rw [toL_length]; omega
    have hget : (toL d.2.2.1)[j] = d.2.2.1.g j := by simp [toL]
    have sz : decide (((q.n + 1)) * 32 ≤ 140737488355328) = true := decide_eq_true (by omega)
    have app : ∀ y : Par, stepP did x (d.2.2.1.g j) = y → ∃ r : Pars, (∀ k0 : Int → Bool → Dep → Ent → Keys → Int → Rep → Keys → Int → Pars → Pars → Option α, draymanref33_Come_l0_run draymanref33_Fit draymanref17_Service draymanref31_Come k0 N told did ((j + 1 : Nat) : Int) d x x15 x16 x17 x18 x19 q20 (⟨(q.nl && false), (q.n + 1), (tApp q.n q.g (fun _ => y))⟩ : Pars) = k0 told did d x x15 x16 x17 x18 x19 q20 r) ∧ r.n = d.2.2.1.n ∧ toL r = (toL d.2.2.1).map (stepP did x) := by
      intro y hy
      refine ih (j + 1) N _ (by omega) (by omega) (by simp only; omega) ?_
      rw [toL_app _ q.nl false, toL_one, List.take_succ_eq_append_getElem hlen, hget, List.map_append, ← hl]
      simp only [List.map_cons, List.map_nil, hy]
    have wj := wrap_succ (show j < 9223372036854775807 by omega)
    cases did with
    | false =>
      obtain ⟨r, g1, g2⟩ := app (d.2.2.1.g j) rfl
      refine ⟨r, fun k0 => ?_, g2⟩
      simp only [draymanref33_Come_l0_run, draymanref33_Come_l0_step, ltT h3, nn, Bool.and_self, toNatC, sz, cond_true, cond_false, wj]
      exact g1 k0
    | true =>
      cases hb : x.2.2.2.1 with
      | false =>
        obtain ⟨r, g1, g2⟩ := app (d.2.2.1.g j) (by unfold stepP; rw [hb]; rfl)
        refine ⟨r, fun k0 => ?_, g2⟩
        simp only [draymanref33_Come_l0_run, draymanref33_Come_l0_step, ltT h3, nn, Bool.and_self, toNatC, sz, hb, cond_true, cond_false, wj]
        exact g1 k0
      | true =>
        have hst : stepP true x (d.2.2.1.g j) = takeP x (d.2.2.1.g j) := by unfold stepP; rw [hb]; rfl
        cases hs1 : ((d.2.2.1.g j).2.1 == x.2.1) with
        | false =>
          obtain ⟨r, g1, g2⟩ := app (d.2.2.1.g j) (by rw [hst]; unfold takeP; rw [hs1]; rfl)
          refine ⟨r, fun k0 => ?_, g2⟩
          simp only [draymanref33_Come_l0_run, draymanref33_Come_l0_step, ltT h3, nn, Bool.and_self, toNatC, sz, hb, hs1, cond_true, cond_false, wj]
          exact g1 k0
        | true =>
          cases hs2 : ((d.2.2.1.g j).2.2.1 == x.2.2.1) with
          | false =>
            obtain ⟨r, g1, g2⟩ := app (d.2.2.1.g j) (by rw [hst]; unfold takeP; rw [hs1, hs2]; rfl)
            refine ⟨r, fun k0 => ?_, g2⟩
            simp only [draymanref33_Come_l0_run, draymanref33_Come_l0_step, ltT h3, nn, Bool.and_self, toNatC, sz, hb, hs1, hs2, cond_true, cond_false, wj]
            exact g1 k0
          | true =>
            obtain ⟨r, g1, g2⟩ := app ((d.2.2.1.g j).1, (d.2.2.1.g j).2.1, (d.2.2.1.g j).2.2.1, true, ()) (by rw [hst]; unfold takeP; rw [hs1, hs2]; rfl)
            refine ⟨r, fun k0 => ?_, g2⟩
            simp only [draymanref33_Come_l0_run, draymanref33_Come_l0_step, ltT h3, nn, Bool.and_self, toNatC, sz, hb, hs1, hs2, cond_true, wj]
            exact g1 k0
theorem stepP_none (x : Ent) (did : Bool) (h : (did && x.2.2.2.1) = false) (l : List Par) : l.map (stepP did x) = l := by
  have : stepP did x = id := by funext p; unfold stepP; rw [h]; rfl
  rw [this, List.map_id]
theorem refCome33_is (d : Dep) (hk : d.1.n ≤ 700) (hn : d.2.2.1.n ≤ 900) (x : Ent) (v : Int) : ∃ r : Dep, (∀ k : Dep → Rep → Int → Option α, draymanref33_Come d x v k = k r (repA d x v) (comeE33 d x v)) ∧ absD r = depA d x v := by
  obtain ⟨rk, a1, a2⟩ := refCome_is (α := α) d.1 hk x v
  unfold repA depA comeE33
  cases hf : depB d with
  | false => exact ⟨zD, fun k => by simp only [draymanref33_Come, draymanref33_Come_g, refDepFit_is d (by omega) hn, hf, Bool.not_false, cond_true]; rfl, rfl⟩
  | true =>
  cases hs : (svc x.2.2.2.2.1 == 2) with
  | false => exact ⟨zD, fun k => by simp only [draymanref33_Come, draymanref33_Come_g, refDepFit_is d (by omega) hn, hf, refService_is, bne, hs, Bool.not_false, Bool.not_true, cond_true, cond_false]; rfl, rfl⟩
  | true =>
  cases he : (comeE d.1 x v == 0) with
  | false =>
    refine ⟨zD, fun k => ?_, by simp only [cond_true, cond_false, he]; rfl⟩
    simp only [draymanref33_Come, draymanref33_Come_g, refDepFit_is d (by omega) hn, hf, refService_is, bne, hs, a1, he, Bool.not_false, Bool.not_true, cond_true, cond_false]
    rfl
  | true =>
  cases hm : (d.2.1 == 1099511627776) with
  | true =>
    refine ⟨zD, fun k => ?_, rfl⟩
    simp only [draymanref33_Come, draymanref33_Come_g, refDepFit_is d (by omega) hn, hf, refService_is, bne, hs, a1, he, hm, Bool.not_false, Bool.not_true, cond_true, cond_false]
    rfl
  | false =>
    have hnx := next_of hf
    have hw : IntKind.i64.wrap (d.2.1 + 1) = d.2.1 + 1 := wrap64 (by omega) (by omega)
    have hwn : IntKind.i64.wrap ((d.2.2.1.n : Int) + 1) = ((d.2.2.1.n + 1 : Nat) : Int) := wrap_succ (by omega)
    obtain ⟨r, b1, b2, b3⟩ := refCome_loop (α := α) d x hn (comeA d.1 x v).2.1 (comeA d.1 x v).2.2 (⟨true, 0, (fun _ => zK)⟩ : Keys) 0 (0, 0, 0, 0, false, 0, 0, ()) rk (d.2.1 + 1) (⟨true, 0, (fun _ => zP)⟩ : Pars) d.2.2.1.n 0 1000 (⟨true, 0, (fun _ => zP)⟩ : Pars) (by omega) (by omega) rfl rfl
    have sz : decide (((r.n + 1)) * 32 ≤ 140737488355328) = true := decide_eq_true (by omega)
    have head : ∀ k : Dep → Rep → Int → Option α, draymanref33_Come d x v k = _ := fun k => by
      simp only [draymanref33_Come, draymanref33_Come_g, refDepFit_is d (by omega) hn, hf, refService_is, bne, hs, a1, he, hm, hw, Bool.not_false, Bool.not_true, cond_true, cond_false]
      exact b1 _
    cases hd : (comeA d.1 x v).2.2 with
    | false =>
      rw [hd] at b3
      rw [stepP_none x false rfl] at b3
      refine ⟨(rk, d.2.1 + 1, r, ()), fun k => ?_, by simp only [absD, a2, b3, cond_true, cond_false]; rfl⟩
      rw [head k]
      simp only [hd, cond_false]
      rfl
    | true =>
      rw [hd] at b3
      cases hb : x.2.2.2.1 with
      | true =>
        have hmap : stepP true x = takeP x := by funext p; unfold stepP; rw [hb]; rfl
        rw [hmap] at b3
        refine ⟨(rk, d.2.1 + 1, r, ()), fun k => ?_, by simp only [absD, a2, b3, cond_true, cond_false, tookL, hb]; rfl⟩
        rw [head k]
        simp only [hd, hb, cond_true, cond_false, Bool.not_true]
        rfl
      | false =>
        rw [stepP_none x true (by rw [hb]; rfl)] at b3
        refine ⟨(rk, d.2.1 + 1, (⟨(r.nl && false), (r.n + 1), (tApp r.n r.g (fun _ => (((d.2.2.1.n + 1 : Nat) : Int), x.2.1, x.2.2.1, false, ())))⟩ : Pars), ()), fun k => ?_, ?_⟩
        · rw [head k]
          simp only [hd, hb, cond_true, Bool.not_false, sz, hwn]
          rfl
        · simp only [absD, a2, cond_true, cond_false, tookL, hb]
          rw [toL_app _ r.nl false, toL_one]
          show (_, _, toL r ++ _) = _
          rw [b3, toL_length]
          rfl

theorem few_is (d : Dep) (k : Bool → Option α) : draymanlaw33_few d k = k (decide (d.1.n ≤ 30) && decide (d.2.2.1.n ≤ 30)) := by
  have e1 : decide ((d.1.n : Int) ≤ 30) = decide (d.1.n ≤ 30) := decide_eq_decide.2 (by omega)
  have e2 : decide ((d.2.2.1.n : Int) ≤ 30) = decide (d.2.2.1.n ≤ 30) := decide_eq_decide.2 (by omega)
  simp only [draymanlaw33_few, e1, e2]
  cases decide (d.1.n ≤ 30) <;> rfl
theorem awake33_is (k : Bool → Option α) : draymanlaw33_awake k = k true := by kernel_rfl
theorem sameD_of {a b : Dep} (h : absD a = absD b) : sameD a b = true := by
  simp only [absD, Prod.mk.injEq] at h
  simp [sameD, h.1, h.2.1, h.2.2]
theorem dep_n {d r : Dep} {x : Ent} {v : Int} (hk : d.1.n ≤ 30) (hn : d.2.2.1.n ≤ 30) (h : absD r = depA d x v) : r.1.n ≤ 900 ∧ r.2.2.1.n ≤ 900 := by
  have h1 := congrArg (fun p => p.1.length) h
  have h2 := congrArg (fun p => p.2.2.length) h
  simp only [absD, toL_length, depA] at h1 h2
  have hc := come_n d.1 x v (by omega)
  cases he : (comeE33 d x v == 0) with
  | false => rw [he] at h1 h2; simp only [cond_false, List.length_nil] at h1 h2; omega
  | true =>
    rw [he] at h1 h2
    simp only [cond_true] at h1 h2
    refine ⟨by omega, ?_⟩
    cases hd : (comeA d.1 x v).2.2 <;> cases hb : x.2.2.2.1 <;> (simp only [hd, hb, tookL, cond_true, cond_false, List.length_map, List.length_append, List.length_cons, List.length_nil, toL_length] at h2; omega)
/-- What the same depot with copied parcels tells. -/
theorem copy_same {d c : Dep} (h1 : c.1 = d.1) (h2 : c.2.1 = d.2.1) (h3 : toL c.2.2.1 = toL d.2.2.1) : depB c = depB d ∧ absD c = absD d ∧ ∀ x v, comeE33 c x v = comeE33 d x v ∧ repA c x v = repA d x v ∧ depA c x v = depA d x v := by
  have hn : c.2.2.1.n = d.2.2.1.n := by
    have := congrArg List.length h3
    simpa only [toL_length] using this
  have hB : depB c = depB d := by simp only [depB, h1, h2, h3, hn]
  have hE : ∀ x v, comeE33 c x v = comeE33 d x v := fun x v => by simp only [comeE33, hB, h1, h2]
  exact ⟨hB, by simp only [absD, h1, h2, h3], fun x v => ⟨hE x v, by simp only [repA, hE, h1, h2], by simp only [depA, hE, h1, h2, h3]⟩⟩
theorem CarryComes_is (x1 x2 : Dep) (h0 : Nil0 x1.1) (x3 : Ent) (x4 : Int) (k : Bool → Option α) : draymanlaw33_CarryComes x1 x2 x3 x4 k = k true := by
  simp only [draymanlaw33_CarryComes, draymanlaw33_CarryComes_g, awake33_is, few_is]
  cases hw1 : (decide (x1.1.n ≤ 30) && decide (x1.2.2.1.n ≤ 30)) with
  | false => rfl
  | true =>
  cases hw2 : (decide (x2.1.n ≤ 30) && decide (x2.2.2.1.n ≤ 30)) with
  | false => rfl
  | true =>
  simp only [Bool.and_eq_true, decide_eq_true_eq] at hw1 hw2
  obtain ⟨r, r1, r2, r3⟩ := of_is (α := α) x1 (by omega)
  obtain ⟨t, t1, t2, t3⟩ := of_is (α := α) x2 (by omega)
  have rn : r.n ≤ 30 := by have := congrArg List.length r2; rw [toL_length, toL_length] at this; omega
  obtain ⟨s1, s2, s3⟩ := copy_same (d := x1) (c := (x1.1, x1.2.1, r, ())) rfl rfl r2
  obtain ⟨u1, u2, u3⟩ := copy_same (d := x2) (c := (x2.1, x2.2.1, t, ())) rfl rfl t2
  obtain ⟨a, a1, a2⟩ := come33_is (α := α) (x1.1, x1.2.1, r, ()) h0 r3 (by simp only; omega) (by simp only; omega) x3 x4
  obtain ⟨b, b1, b2⟩ := refCome33_is (α := α) x1 (by omega) (by omega) x3 x4
  obtain ⟨e1, e2, e3⟩ := s3 x3 x4
  rw [e3] at a2
  obtain ⟨n1, n2⟩ := dep_n hw1.1 hw1.2 a2
  have hab := sameD_of (a2.trans b2.symm)
  have hD : sameD (x1.1, x1.2.1, r, ()) (x2.1, x2.2.1, t, ()) = sameD x1 x2 := by simp only [sameD, r2, t2]
  simp only [Bool.not_true, Bool.not_false, cond_true, cond_false, r1, t1, a1, b1, e1, e2, same33_is a b n1 n2, hab, beq_self_eq_true, Bool.and_self, depFit_is (x1.1, x1.2.1, r, ()) (show x1.1.n ≤ 900 by omega) (show r.n ≤ 900 by omega), refDepFit_is x1 (show x1.1.n ≤ 900 by omega) (show x1.2.2.1.n ≤ 900 by omega), s1,
    out_is (x1.1, x1.2.1, r, ()) (show r.n ≤ 900 by omega), refOut_is x1 (show x1.2.2.1.n ≤ 900 by omega), r2, carrySame_is (x1.1, x1.2.1, r, ()) (x2.1, x2.2.1, t, ()) (show x1.1.n ≤ 900 by omega) (show r.n ≤ 900 by omega), hD, refSameD_is x1 x2 (show x1.1.n ≤ 900 by omega) (show x1.2.2.1.n ≤ 900 by omega)]
  simp only [carry_New, draymanref33_New]
  rw [same33_is _ _ (by simp) (by simp)]
  simp [sameD]
theorem CarryComes_true (x0 : Tup (.sl (.int .i64 (.int .i64 (.int .i64 (.int .i64 (.int .i64 (.int .i64 (.nil))))))) (.int .i64 (.sl (.int .i64 (.int .i64 (.int .i64 (.bool (.nil))))) (.nil))))) (x1 : Tup (.sl (.int .i64 (.int .i64 (.int .i64 (.int .i64 (.int .i64 (.int .i64 (.nil))))))) (.int .i64 (.sl (.int .i64 (.int .i64 (.int .i64 (.bool (.nil))))) (.nil))))) (x2 : Tup (.int .i64 (.int .i64 (.int .i64 (.bool (.int .i64 (.int .i64 (.bool (.nil))))))))) (x3 : Tup (.int .i64 (.nil))) (o0 : OkT (.sl (.int .i64 (.int .i64 (.int .i64 (.int .i64 (.int .i64 (.int .i64 (.nil))))))) (.int .i64 (.sl (.int .i64 (.int .i64 (.int .i64 (.bool (.nil))))) (.nil)))) x0) (o1 : OkT (.sl (.int .i64 (.int .i64 (.int .i64 (.int .i64 (.int .i64 (.int .i64 (.nil))))))) (.int .i64 (.sl (.int .i64 (.int .i64 (.int .i64 (.bool (.nil))))) (.nil)))) x1) (o2 : OkT (.int .i64 (.int .i64 (.int .i64 (.bool (.int .i64 (.int .i64 (.bool (.nil)))))))) x2) (o3 : OkT (.int .i64 (.nil)) x3) (k : Bool → Option Unit) : draymanlaw33_CarryComes x0 x1 x2 x3.1 k = k true :=
  CarryComes_is (α := Unit) x0 x1 o0.1.2.1 x2 x3.1 k
end Go.Rv.Try
