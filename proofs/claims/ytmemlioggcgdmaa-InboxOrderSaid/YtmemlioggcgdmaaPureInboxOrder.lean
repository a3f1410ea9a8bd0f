/- The plain law of InboxOrder: what comes in order, or in pairs turned round, is had, and none is remembered above. No condition. -/
import Derived.Test.YtmemlioggcgdmaaE1
import Derived.Test.YtmemlioggcgdmaaPureInboxTells
set_option linter.unusedVariables false
set_option linter.unusedSimpArgs false
namespace Go.Rv.Try
open Go Go.Rv Go.RowKit
variable {α : Type}

theorem mark_prog (sv low : Int) (s : Ints) (id : Int) (p : Nat) (hn : s.n ≤ 15) (hf : boxFit (sv, low, s, ()) = true) (h1 : ¬ id < 1) (h2 : ¬ id > 1099511627776) (h3 : hadB (sv, low, s, ()) id = false) (hp : IsFirst s id p) :
    ∃ cl low', (∀ k : Box → Int → Option α, inbox_Mark (sv, low, s, ()) id k = k (sv, low', cl, ()) 0) ∧ (low', il cl) = absorb false low ((il s).take p ++ id :: (il s).drop p) := by
  have hf' := hf
  simp only [boxFit, Bool.and_eq_true] at hf'
  obtain ⟨⟨⟨_, hlow⟩, hris⟩, _⟩ := hf'
  have hlow := small_of_fit hlow
  have hsort := sorted_of hris
  have hall := (rising_all _ _ hris).1
  have hpn := hp.le
  let A : Seq (Ints × Unit) := ⟨false, 3, (tSel [((⟨s.nl, ((p : Nat) : Int).toNat, s.g⟩ : Ints), ()), ((⟨false, 1, (fun _ => (id, ()))⟩ : Ints), ()), ((⟨s.nl, (s.n - ((p : Nat) : Int).toNat), (tShift ((p : Nat) : Int).toNat s.g)⟩ : Ints), ())] ((⟨true, 0, fun _ => (0, ())⟩ : Ints), ()))⟩
  have hA : toL A = [((⟨s.nl, p, s.g⟩ : Ints), ()), ((⟨false, 1, (fun _ => (id, ()))⟩ : Ints), ()), ((⟨s.nl, (s.n - p), (tShift p s.g)⟩ : Ints), ())] := rfl
  obtain ⟨c, hc1, hc2, hc3⟩ := concat_is (α := α) A (by show (3 : Nat) ≤ 900; omega) (by rw [hA]; simp only [tot, List.map_cons, List.map_nil, List.sum_cons, List.sum_nil]; omega)
  have hc2 : il c = (il s).take p ++ id :: (il s).drop p := by
    rw [hc2, hA]
    simp only [flat, List.flatMap_cons, List.flatMap_nil, List.append_nil, il_take s hpn, il_from]
    rfl
  have hclen : c.n = s.n + 1 := by
    have := il_length c
    rw [hc2] at this
    simp [il_length] at this
    omega
  have hcs : Small (il c) := by
    rw [hc2]
    intro y hy
    simp only [List.mem_append, List.mem_cons] at hy
    rcases hy with hy | rfl | hy
    · exact small_of_fit (hall y (List.mem_of_mem_take hy)).2
    · omega
    · exact small_of_fit (hall y (List.mem_of_mem_drop hy)).2
  have hb2 : decide ((c.n : Int) > 16) = false := decide_eq_false (by omega)
  obtain ⟨r, low', hr1, hr2, hr3, hr4⟩ := mark_loop (α := α) (sv, low, s, ()) (0, 0, (⟨true, 0, (fun _ => (0, ()))⟩ : Ints), ()) sv (⟨true, 0, (fun _ => (0, ()))⟩ : Ints) c.n 1000 c (decide ((c.n : Int) > 16)) low rfl (by omega) hc3 hcs hlow.1 hlow.2
  obtain ⟨cl, hcl1, hcl2⟩ := clone_is (α := α) r hr3 (by omega)
  refine ⟨cl, low', fun k => ?_, by rw [hcl2, hr2, hb2, hc2]⟩
  obtain ⟨fd, hb⟩ := bsearch_is s id hsort (by omega) hp (fun r5 r6 =>
                (cond ((((decide ((0 : Int) ≤ r5)) && (decide (r5 ≤ (s.n : Int)))) && (decide (r5 = r5))) && (((decide ((0 : Int) ≤ r5)) && (decide (r5 ≤ (s.n : Int)))) && (decide (r5 = r5))))
                  (cond (((decide ((0 : Int) ≤ r5)) && (decide (r5 ≤ (s.n : Int)))) && ((decide ((0 : Int) ≤ r5)) && (decide (r5 ≤ (s.n : Int)))))
                    (slices_Concat_int_int (⟨false, 3, (tSel [((⟨s.nl, r5.toNat, s.g⟩ : Seq (Int × Unit)), ()), ((⟨false, 1, (fun _ => (id, ()))⟩ : Seq (Int × Unit)), ()), ((⟨s.nl, (s.n - r5.toNat), (tShift r5.toNat s.g)⟩ : Seq (Int × Unit)), ())] ((⟨true, 0, fun _ => (0, ())⟩ : Seq (Int × Unit)), ()))⟩ : Seq ((Seq (Int × Unit)) × Unit)) fun r7 =>
                      (inbox_Mark_l0_run inbox_Fit inbox_Had slices_BinarySearch_int_int slices_Concat_int_int slices_Clone_int_int
                        (fun x8 x9 x10 x11 =>
                          (slices_Clone_int_int x8 fun r12 =>
                            (k (x11.1, x11.2.1, r12, ()) 0)))
                        1000 r7 (decide ((r7.n : Int) > 16)) (sv, low, s, ()) (0, 0, (⟨true, 0, (fun _ => (0, ()))⟩ : Seq (Int × Unit)), ()) (sv, low, (⟨true, 0, (fun _ => (0, ()))⟩ : Seq (Int × Unit)), ())))
                    none)
                  none))
  simp only [inbox_Mark, inbox_Mark_g, inbox_Fit_is (sv, low, s, ()) (by simp only; omega), inbox_Had_is (sv, low, s, ()) id (by simp only; omega), hf, h3, Bool.not_true, cond_false, decide_eq_false h1, Bool.not_false, cond_true, decide_eq_false h2]
  simp only [eq_self] at hb
  refine hb.trans ?_
  have e1 : decide ((p : Int) ≤ (s.n : Int)) = true := decide_eq_true (by omega)
  simp only [nn, e1, Bool.and_self, cond_true, decide_true]
  refine (hc1 _).trans ?_
  refine (hr1 _).trans ?_
  exact hcl1 _

theorem il_nil {s : Ints} (h : s.n = 0) : il s = [] := List.length_eq_zero_iff.1 (by rw [il_length, h])
theorem n_nil {s : Ints} (h : il s = []) : s.n = 0 := by rw [← il_length, h]; rfl
theorem fitN_nat {j : Nat} (h : j ≤ 1000) : fitN (j : Int) = true := by simp [fitN]; omega
/-- The next number. -/
theorem mark_next (low : Nat) (hl : low ≤ 900) (s : Ints) (hs : s.n = 0) : ∃ cl : Ints, cl.n = 0 ∧ ∀ k : Box → Int → Option α, inbox_Mark (2, (low : Int), s, ()) ((low + 1 : Nat) : Int) k = k (2, ((low + 1 : Nat) : Int), cl, ()) 0 := by
  obtain ⟨cl, low', h1, h2⟩ := mark_prog (α := α) 2 (low : Int) s ((low + 1 : Nat) : Int) 0 (by omega) (by simp [boxFit, fitN_nat (show low ≤ 1000 by omega), il_nil hs, rising, hs]) (by omega) (by omega) (by simp [hadB, il_nil hs, hasB]; omega) ⟨by omega, fun i h => by omega, fun h => by omega⟩
  rw [il_nil hs] at h2
  have e : ((((low + 1 : Nat) : Int)) == (low : Int) + 1) = true := by simp
  simp only [List.take_nil, List.drop_nil, List.nil_append, absorb, Bool.false_or, e, if_true, Prod.mk.injEq] at h2
  obtain ⟨rfl, h3⟩ := h2
  exact ⟨cl, n_nil h3, h1⟩
/-- The one behind it, and then it. -/
theorem mark_turned (low : Nat) (hl : low ≤ 900) (s : Ints) (hs : s.n = 0) : ∃ (b : Box) (cl : Ints), cl.n = 0 ∧ (∀ k : Box → Int → Option α, inbox_Mark (2, (low : Int), s, ()) ((low + 2 : Nat) : Int) k = k b 0) ∧ ∀ k : Box → Int → Option α, inbox_Mark b ((low + 1 : Nat) : Int) k = k (2, ((low + 2 : Nat) : Int), cl, ()) 0 := by
  obtain ⟨c1, low', h1, h2⟩ := mark_prog (α := α) 2 (low : Int) s ((low + 2 : Nat) : Int) 0 (by omega) (by simp [boxFit, fitN_nat (show low ≤ 1000 by omega), il_nil hs, rising, hs]) (by omega) (by omega) (by simp [hadB, il_nil hs, hasB]; omega) ⟨by omega, fun i h => by omega, fun h => by omega⟩
  rw [il_nil hs] at h2
  have e : ((((low + 2 : Nat) : Int)) == (low : Int) + 1) = false := by rw [beq_eq_false_iff_ne]; omega
  simp only [List.take_nil, List.drop_nil, List.nil_append, absorb, Bool.false_or, e, Bool.false_eq_true, if_false, Prod.mk.injEq] at h2
  obtain ⟨rfl, h3⟩ := h2
  have hc1 : c1.n = 1 := by rw [← il_length, h3]; rfl
  have hg : (c1.g 0).1 = ((low + 2 : Nat) : Int) := by
    have := il_cons c1 (by omega)
    rw [h3] at this
    exact (List.cons.inj this).1.symm
  have hd : ¬ (((low + 2 : Nat) : Int) ≤ (low : Int) + 1) := by omega
  have hne : ¬ (((low + 2 : Nat) : Int) = ((low + 1 : Nat) : Int)) := by omega
  obtain ⟨cl, low2, h4, h5⟩ := mark_prog (α := α) 2 (low : Int) c1 ((low + 1 : Nat) : Int) 0 (by omega) (by
      simp only [boxFit, fitN_nat (show low ≤ 1000 by omega), h3, rising, decide_eq_false hd, fitN_nat (show low + 2 ≤ 1000 by omega), hc1]; rfl) (by omega) (by omega) (by
      simp only [hadB, h3, hasB, List.any_cons, List.any_nil, Bool.or_false, Bool.or_eq_false_iff, decide_eq_false_iff_not, beq_eq_false_iff_ne]
      exact ⟨by omega, hne⟩) ⟨by omega, fun i h => by omega, fun h => by rw [hg]; omega⟩
  have e1 : ((((low + 1 : Nat) : Int)) == (low : Int) + 1) = true := by simp
  have e2 : ((((low + 2 : Nat) : Int)) == (((low + 1 : Nat) : Int)) + 1) = true := by simp; omega
  rw [h3] at h5
  simp only [List.take_zero, List.drop_zero, List.nil_append, absorb, Bool.false_or, e1, e2, if_true, Prod.mk.injEq] at h5
  obtain ⟨rfl, h6⟩ := h5
  exact ⟨_, cl, n_nil h6, h1, h4⟩

theorem order_loop (kr : Bool → Box → Option α) (k0 : Int → Box → Option α) (x1 : Int) (m : Nat) (hm : m ≤ 100) : ∀ (d j N : Nat) (s : Ints), j + d = m → d < N → s.n = 0 →
    ∃ cl : Ints, cl.n = 0 ∧ draymanlaw18_InboxOrder_l0_run inbox_New inbox_Mark inbox_Had draymanlaw18_awake kr k0 N x1 ((2 * m : Nat) : Int) ((2 * j + 1 : Nat) : Int) (2, ((2 * j : Nat) : Int), s, ()) = k0 ((2 * m : Nat) : Int) (2, ((2 * m : Nat) : Int), cl, ()) := by
  intro d
  induction d with
  | zero =>
    intro j N s hj hN hs
    obtain ⟨N, rfl⟩ : ∃ M, N = M + 1 := ⟨N - 1, by omega⟩
    obtain rfl : j = m := by omega
    have h1 : ¬ (((2 * j + 1 : Nat) : Int) ≤ ((2 * j : Nat) : Int)) := by omega
    exact ⟨s, hs, by simp only [draymanlaw18_InboxOrder_l0_run, draymanlaw18_InboxOrder_l0_step, decide_eq_false h1, cond_false]⟩
  | succ d ih =>
    intro j N s hj hN hs
    obtain ⟨N, rfl⟩ : ∃ M, N = M + 1 := ⟨N - 1, by omega⟩
    have h1 : ((2 * j + 1 : Nat) : Int) ≤ ((2 * m : Nat) : Int) := by omega
    have hdiv : Int.tdiv ((2 * j + 1 : Nat) : Int) 2 = (j : Int) := by
      rw [Int.tdiv_eq_ediv_of_nonneg (by omega)]; omega
    have hw : IntKind.i64.wrap (j : Int) = (j : Int) := wrap64 (by omega) (by omega)
    have h2 : decide ((0 : Int) ≤ Int.tmod (j : Int) 64) = true := decide_eq_true (Int.tmod_nonneg _ (by omega))
    have hw1 : IntKind.i64.wrap (((2 * j + 1 : Nat) : Int) + 1) = ((2 * j + 2 : Nat) : Int) := by rw [wrap64 (by omega) (by omega)]; omega
    have hw2 : IntKind.i64.wrap (((2 * j + 1 : Nat) : Int) + 2) = ((2 * (j + 1) + 1 : Nat) : Int) := by rw [wrap64 (by omega) (by omega)]; omega
    have hz : ∀ {cl : Ints}, cl.n = 0 → ((cl.n : Int) != 0) = false := fun h => by simp [h]
    have hne : ∀ x : Int, (x != x) = false := fun x => by simp
    simp only [draymanlaw18_InboxOrder_l0_run, draymanlaw18_InboxOrder_l0_step, decide_eq_true h1, cond_true, hdiv, hw, h2, hw1, hw2]
    cases (iAnd .u64 (Int.fdiv x1 (2 ^ (min (Int.tmod (j : Int) 64).toNat IntKind.u64.bits))) 1 == 1) with
    | true =>
      obtain ⟨b, cl, hcl, e1, e2⟩ := mark_turned (α := α) (2 * j) (by omega) s hs
      obtain ⟨c2, hc2, e3⟩ := ih (j + 1) N cl (by omega) (by omega) hcl
      refine ⟨c2, hc2, ?_⟩
      simp only [cond_true, e1, e2, hne, Bool.not_false, hz hcl, cond_false]
      exact e3
    | false =>
      obtain ⟨c1, hc1, e1⟩ := mark_next (α := α) (2 * j) (by omega) s hs
      obtain ⟨cl, hcl, e2⟩ := mark_next (α := α) (2 * j + 1) (by omega) c1 hc1
      obtain ⟨c2, hc2, e3⟩ := ih (j + 1) N cl (by omega) (by omega) hcl
      refine ⟨c2, hc2, ?_⟩
      simp only [cond_false, e1, e2, hne, Bool.not_false, cond_true, hz hcl]
      exact e3

theorem InboxOrder_true (x0 : Tup (.int .u8 (.nil))) (x1 : Tup (.int .u64 (.nil))) (o0 : OkT (.int .u8 (.nil)) x0) (o1 : OkT (.int .u64 (.nil)) x1) (k : Bool → Option Unit) : draymanlaw18_InboxOrder x0.1 x1.1 k = k true := by
  obtain ⟨n, ⟨⟩⟩ := x0
  obtain ⟨tr, ⟨⟩⟩ := x1
  show draymanlaw18_InboxOrder n tr k = k true
  have hn := bounds_u8 o0.1
  simp only at hn
  obtain ⟨n, rfl⟩ : ∃ m : Nat, n = (m : Int) := ⟨n.toNat, by omega⟩
  have hw : IntKind.i64.wrap (2 * Int.tmod (IntKind.i64.wrap (n : Int)) 100) = ((2 * (n % 100) : Nat) : Int) := by
    rw [wrap64 (x := (n : Int)) (by omega) (by omega)]
    rw [Int.tmod_eq_emod_of_nonneg (by omega), wrap64 (by omega) (by omega)]
    omega
  obtain ⟨cl, hcl, e⟩ := order_loop (α := Unit) (fun x4 x5 => k x4) (fun x6 x7 =>
        (cond (x7.2.1 == x6)
          (inbox_Had x7 (IntKind.i64.wrap (x6 + 1)) fun r8 =>
            (cond (!r8)
              (draymanlaw18_awake fun r9 =>
                (k r9))
              (k false)))
          (k false))) tr (n % 100) (by omega) (n % 100) 0 1000 (⟨true, 0, (fun _ => (0, ()))⟩ : Ints) (by omega) (by omega) rfl
  have hw1 : IntKind.i64.wrap (((2 * (n % 100) : Nat) : Int) + 1) = ((2 * (n % 100) + 1 : Nat) : Int) := wrap_succ (by omega)
  have hh : hadB (2, ((2 * (n % 100) : Nat) : Int), cl, ()) ((2 * (n % 100) + 1 : Nat) : Int) = false := by
    simp only [hadB, il_nil hcl, hasB, List.any_nil, Bool.or_false, decide_eq_false_iff_not]; omega
  simp only [beq_self_eq_true, cond_true, hw1, inbox_Had_is (2, ((2 * (n % 100) : Nat) : Int), cl, ()) _ (by simp only; omega), hh, Bool.not_false, awake_is] at e
  unfold draymanlaw18_InboxOrder draymanlaw18_InboxOrder_g
  simp only [hw, inbox_New, awake_is]
  exact e
end Go.Rv.Try
