/- The law StockBalance, in plain words: true for every input. -/
import Derived.Test.YtmoeohjaafpmgaaDoorE1
import Derived.Test.YtmoeohjaafpmgaaDoorPureStockLib
set_option linter.unusedVariables false
set_option linter.unusedSimpArgs false
namespace Go.Rv.Tryd
open Go Go.Rv
variable {α : Type}
theorem joinD_law {K : List Dyn → Option α} {f : (List Dyn → Option α) → Option α} {R : Option α} (Q : List Dyn → Prop) (hK : ∀ ds, Q ds → K ds = R) (hf : ∀ J : List Dyn → Option α, (∀ ds, Q ds → J ds = R) → f J = R) : joinD K f = R := hf K hK
/-- What an operation on a fit Sku leaves: nothing told, or a fit Sku of the same name with the units that came in. -/
def Leaves (x : Sk) (t : Int) (r : Sk × Int) : Prop := (r.2 ≠ 0 ∧ r.1 = zS) ∨ (r.2 = 0 ∧ fitS r.1 = true ∧ r.1.1 = x.1 ∧ r.1.2.2.2.2.2.1 = t)
theorem restock_leaves {x : Sk} (hf : fitS x = true) (n : Int) : Leaves x (x.2.2.2.2.2.1 + n) (restockS x n) := by
  have hb := fitS_b hf
  unfold restockS
  rw [hf, if_neg (by decide)]
  by_cases h : n < 1 ∨ n > 1099511627776
  · rw [if_pos h]; exact .inl ⟨by decide, rfl⟩
  · rw [if_neg h]
    by_cases h2 : x.2.2.2.2.2.1 + n > 1099511627776
    · rw [if_pos h2]; exact .inl ⟨by decide, rfl⟩
    · rw [if_neg h2]; exact .inr ⟨rfl, fitS_T hb.1 (by simp only; omega), rfl, rfl⟩
theorem adjust_leaves {x : Sk} (hf : fitS x = true) (n : Int) : Leaves x (x.2.2.2.2.2.1 + n) (adjustS x n) := by
  have hb := fitS_b hf
  unfold adjustS
  rw [hf, if_neg (by decide)]
  by_cases h : n = 0 ∨ n < -1099511627776 ∨ n > 1099511627776
  · rw [if_pos h]; exact .inl ⟨by decide, rfl⟩
  · rw [if_neg h]
    by_cases h2 : x.2.1 + n < 0
    · rw [if_pos h2]; exact .inl ⟨by decide, rfl⟩
    · rw [if_neg h2]
      by_cases h3 : x.2.2.2.2.2.1 + n > 1099511627776
      · rw [if_pos h3]; exact .inl ⟨by decide, rfl⟩
      · rw [if_neg h3]; exact .inr ⟨rfl, fitS_T hb.1 (by simp only; omega), rfl, rfl⟩
theorem ite_leaves {x : Sk} {t : Int} {p : Prop} [Decidable p] {a b : Sk × Int} (ha : Leaves x t a) (hb : ¬ p → Leaves x t b) : Leaves x t (if p then a else b) := by
  by_cases h : p
  · rw [if_pos h]; exact ha
  · rw [if_neg h]; exact hb h
theorem no_leaves {x : Sk} {t e : Int} (h : e ≠ 0) : Leaves x t (zS, e) := .inl ⟨h, rfl⟩
theorem move_leaves {x : Sk} (hf : fitS x = true) (w n : Int) : Leaves x x.2.2.2.2.2.1 (moveS x w n) := by
  have hb := fitS_b hf
  unfold moveS
  rw [hf, if_neg (by decide)]
  refine ite_leaves (no_leaves (by decide)) fun hn => ?_
  unfold movedS
  by_cases w1 : w = 1
  · rw [if_pos w1]; exact ite_leaves (no_leaves (by decide)) fun h => .inr ⟨rfl, fitS_T hb.1 (by simp only; omega), rfl, rfl⟩
  rw [if_neg w1]
  by_cases w2 : w = 2
  · rw [if_pos w2]; exact ite_leaves (no_leaves (by decide)) fun h => .inr ⟨rfl, fitS_T hb.1 (by simp only; omega), rfl, rfl⟩
  rw [if_neg w2]
  by_cases w3 : w = 3
  · rw [if_pos w3]; exact ite_leaves (no_leaves (by decide)) fun h => .inr ⟨rfl, fitS_T hb.1 (by simp only; omega), rfl, rfl⟩
  rw [if_neg w3]
  by_cases w4 : w = 4
  · rw [if_pos w4]; exact ite_leaves (no_leaves (by decide)) fun h => .inr ⟨rfl, fitS_T hb.1 (by simp only; omega), rfl, rfl⟩
  rw [if_neg w4]
  exact ite_leaves (no_leaves (by decide)) fun h => .inr ⟨rfl, fitS_T hb.1 (by simp only; omega), rfl, rfl⟩
theorem min4 {a b c d : Int} (h : 0 ≤ a ∧ 0 ≤ b ∧ 0 ≤ c ∧ 0 ≤ d) : decide ((bif (decide (d < (bif (decide (c < (bif (decide (b < a)) then b else a))) then c else (bif (decide (b < a)) then b else a)))) then d else (bif (decide (c < (bif (decide (b < a)) then b else a))) then c else (bif (decide (b < a)) then b else a))) < 0) = false := by
  apply decide_eq_false
  simp only [Bool.cond_decide]
  repeat' split
  all_goals omega
def ds0 (q : Seq (Int × Int × Unit)) (t i : Int) (x r : Sk) (e : Int) : List Dyn := [.q (.int .i64 (.int .i64 (.nil))) q, .i t, .i i, .i e, .s x.1, .i x.2.1, .i x.2.2.1, .i x.2.2.2.1, .i x.2.2.2.2.1, .i x.2.2.2.2.2.1, .s r.1, .i r.2.1, .i r.2.2.1, .i r.2.2.2.1, .i r.2.2.2.2.1, .i r.2.2.2.2.2.1]
theorem hdQ2_c (x : Seq (Int × Int × Unit)) (l : List Dyn) : (hdQ (.int .i64 (.int .i64 (.nil))) (.q (.int .i64 (.int .i64 (.nil))) x :: l) : Seq (Int × Int × Unit)) = x := hdQ_c (.int .i64 (.int .i64 (.nil))) x l
theorem zS_zero : ((zS.1.toList == (⟨#[]⟩ : ByteArray).toList) && ((zS.2.1 == 0) && ((zS.2.2.1 == 0) && ((zS.2.2.2.1 == 0) && ((zS.2.2.2.2.1 == 0) && ((zS.2.2.2.2.2.1 == 0) && true)))))) = true := by decide +kernel
theorem condT {b : Bool} (h : b = true) {x y : Option α} : cond b x y = x := by rw [h]; rfl
theorem StockBalance_loop (k : Bool → Option α) (q : Seq (Int × Int × Unit)) (hn : q.n ≤ 40) (kr : Bool → Sk → Option α) : ∀ (n i : Nat) (x : Sk), q.n - i < n → fitS x = true → x.1.size ≤ 100 →
    draymanlaw12_StockBalance_l0_run stock_New draymanlaw12_awake stock_Fit stock_Restock draymanlaw12_move stock_Adjust kr (fun _ => k true) n q x.2.2.2.2.2.1 (i : Int) x = k true := by
  intro n
  induction n with
  | zero => intro i x hi; omega
  | succ n ih =>
    intro i x hi hf hx
    unfold draymanlaw12_StockBalance_l0_run draymanlaw12_StockBalance_l0_step
    have hz : x.1.size ≤ 9223372036854775806 := by omega
    have hb := fitS_b hf
    by_cases hl : i < q.n
    · rw [cT (by omega)]
      refine joinD_law (fun ds => ∃ r : Sk × Int, Leaves x (if (q.g i).1 < 1 ∨ (q.g i).1 > 5 then x.2.2.2.2.2.1 + (q.g i).2.1 else x.2.2.2.2.2.1) r ∧ ds = ds0 q x.2.2.2.2.2.1 i x r.1 r.2) ?_ ?_
      · rintro _ ⟨⟨r, e⟩, hg, rfl⟩
        simp only [ds0, joinD_is, hdI_c, hdS_c, hdQ2_c, List.tail_cons, inb hl, cond_true, toNatC]
        rcases hg with ⟨he, hr⟩ | ⟨he, hfr, hr1, hrt⟩
        · simp only at he hr
          rw [bne_iff_ne.2 he, hr, zS_zero, wrap_succ (by omega)]
          exact ih (i + 1) x (by omega) hf hx
        · simp only at he hfr hr1 hrt
          subst he
          have hbr := fitS_b hfr
          have hsr : r.1.size ≤ 100 := by rw [hr1]; exact hx
          have key : ∀ t : Int, t = r.2.2.2.2.2.1 → (cond (!(r.2.2.2.2.2.1 != t))
                (cond (!((IntKind.i64.wrap ((IntKind.i64.wrap ((IntKind.i64.wrap (r.2.1 + r.2.2.1)) + r.2.2.2.1)) + r.2.2.2.2.1)) != t))
                  (cond (!(decide ((bif (decide (r.2.2.2.2.1 < (bif (decide (r.2.2.2.1 < (bif (decide (r.2.2.1 < r.2.1)) then r.2.2.1 else r.2.1))) then r.2.2.2.1 else (bif (decide (r.2.2.1 < r.2.1)) then r.2.2.1 else r.2.1)))) then r.2.2.2.2.1 else (bif (decide (r.2.2.2.1 < (bif (decide (r.2.2.1 < r.2.1)) then r.2.2.1 else r.2.1))) then r.2.2.2.1 else (bif (decide (r.2.2.1 < r.2.1)) then r.2.2.1 else r.2.1))) < 0)))
                    (stock_Fit r fun r22 =>
                      (cond (!r22)
                        (kr false r)
                        (draymanlaw12_StockBalance_l0_run stock_New draymanlaw12_awake stock_Fit stock_Restock draymanlaw12_move stock_Adjust kr (fun _ => k true) n q t (IntKind.i64.wrap ((i : Int) + 1)) r)))
                    (kr false r))
                  (kr false r))
                (kr false r)) = k true := by
            intro t ht
            subst ht
            rw [wrap64 (x := r.2.1 + r.2.2.1) (by omega) (by omega), wrap64 (x := r.2.1 + r.2.2.1 + r.2.2.2.1) (by omega) (by omega), wrap64 (x := r.2.1 + r.2.2.1 + r.2.2.2.1 + r.2.2.2.2.1) (by omega) (by omega), hbr.2.2.2.2.2.2, bne_self_eq_false, min4 ⟨hbr.2.1, hbr.2.2.1, hbr.2.2.2.1, hbr.2.2.2.2.1⟩, stock_Fit_is (by omega), hfr, wrap_succ (by omega)]
            exact ih (i + 1) r (by omega) hfr hsr
          simp only [bne_self_eq_false, cond_false]
          by_cases h1 : (q.g i).1 < 1
          · rw [if_pos (.inl h1)] at hrt
            rw [cnT h1, wrap64 (x := x.2.2.2.2.2.1 + _) (by omega) (by omega)]
            refine (condT (inb hl)).trans ((condT (inb hl)).trans ?_)
            exact key _ hrt.symm
          · rw [cnF h1]
            by_cases h2 : (q.g i).1 > 5
            · rw [if_pos (.inr h2)] at hrt
              rw [cT h2, wrap64 (x := x.2.2.2.2.2.1 + _) (by omega) (by omega)]
              refine (condT (inb hl)).trans ((condT (inb hl)).trans ((condT (inb hl)).trans ?_))
              exact key _ hrt.symm
            · rw [if_neg (by omega)] at hrt
              rw [cF h2]
              refine (condT (inb hl)).trans ((condT (inb hl)).trans ?_)
              exact key _ hrt.symm
      · intro J hJ
        simp only [inb hl, cond_true, toNatC]
        have g6 : (q.g i).1 < 1 ∨ (q.g i).1 > 5 → ∀ r : Sk × Int, Leaves x (x.2.2.2.2.2.1 + (q.g i).2.1) r → J (ds0 q x.2.2.2.2.2.1 i x r.1 r.2) = k true := by
          intro h r hr
          exact hJ _ ⟨r, by rw [if_pos h]; exact hr, rfl⟩
        have g1 : ¬ ((q.g i).1 < 1 ∨ (q.g i).1 > 5) → ∀ r : Sk × Int, Leaves x (x.2.2.2.2.2.1) r → J (ds0 q x.2.2.2.2.2.1 i x r.1 r.2) = k true := by
          intro h r hr
          exact hJ _ ⟨r, by rw [if_neg h]; exact hr, rfl⟩
        generalize hw : (q.g i).1 = w at *
        generalize hm : (q.g i).2.1 = m at *
        by_cases w6 : w = 6
        · rw [cbT w6, stock_Restock_is hz]; exact g6 (by omega) _ (restock_leaves hf _)
        rw [cbF w6]
        by_cases w1 : w = 1
        · rw [cbT w1, cbT w1, move_is hz]; exact g1 (by omega) _ (move_leaves hf _ _)
        rw [cbF w1]
        by_cases w2 : w = 2
        · rw [cbT w2, cbT w2, move_is hz]; exact g1 (by omega) _ (move_leaves hf _ _)
        rw [cbF w2]
        by_cases w3 : w = 3
        · rw [cbT w3, cbT w3, move_is hz]; exact g1 (by omega) _ (move_leaves hf _ _)
        rw [cbF w3]
        by_cases w4 : w = 4
        · rw [cbT w4, cbT w4, move_is hz]; exact g1 (by omega) _ (move_leaves hf _ _)
        rw [cbF w4]
        by_cases w5 : w = 5
        · rw [cbT w5, move_is hz]; exact g1 (by omega) _ (move_leaves hf _ _)
        rw [cbF w5, stock_Adjust_is hz]; exact g6 (by omega) _ (adjust_leaves hf _)
    · rw [cF (by omega)]
theorem StockBalance_core (q : Seq (Int × Int × Unit)) (k : Bool → Option Unit) : draymanlaw12_StockBalance q k = k true := by
  unfold draymanlaw12_StockBalance draymanlaw12_StockBalance_g
  have hz : tea.size ≤ 9223372036854775806 := by decide
  have e1 : newS tea = ((tea, 0, 0, 0, 0, 0, ()), 0) := by unfold newS; rw [tea_name]; rfl
  show stock_New tea _ = _
  rw [stock_New_is hz, e1]
  simp only [bne_self_eq_false, Bool.not_false, cond_true, beq_self_eq_true, awake12_is]
  by_cases h : (q.n : Int) > 40
  · rw [cT h]
  · rw [cF h]
    exact StockBalance_loop k q (by omega) _ 1000 0 (tea, 0, 0, 0, 0, 0, ()) (by omega) (fitS_T tea_name (by decide)) (by decide)
theorem StockBalance_true (x0 : Tup (.sl (.int .i64 (.int .i64 (.nil))) (.nil))) (o0 : OkT (.sl (.int .i64 (.int .i64 (.nil))) (.nil)) x0) (k : Bool → Option Unit) : draymanlaw12_StockBalance x0.1 k = k true := StockBalance_core x0.1 k
end Go.Rv.Tryd
