/- The till: whether one may be, and what comes of a request, in plain words. -/
import Derived.Test.YtmoeohjaafpmgaaE3
import Derived.Test.YtmoeohjaafpmgaaPureKeyLib
import Derived.Test.YtmoeohjaafpmgaaPureCondLib
set_option linter.unusedVariables false
set_option linter.unusedSimpArgs false
namespace Go.Rv.Try
open Go Go.Rv Go.RowKit
variable {α : Type}
abbrev Til := Keys × Int × Int × Int × Unit
abbrev Rep := Int × Int × Int × Int × Bool × Int × Int × Unit
abbrev Tm := List Key × Int × Int × Int
def mT (t : Til) : Tm := (toL t.1, t.2.1, t.2.2.1, t.2.2.2.1)
abbrev zT : Til := ((⟨true, 0, (fun _ => (0, 0, 0, 0, 0, 0, ()))⟩ : Keys), 0, 0, 0, ())
abbrev zR : Rep := (0, 0, 0, 0, false, 0, 0, ())
def w60 (n : Int) : Bool := decide (n ≥ -1152921504606846976) && decide (n ≤ 1152921504606846976)
theorem refWithin_is (n : Int) (k : Bool → Option α) : draymanref32_within n k = k (w60 n) := ck rfl
theorem within1_is (n : Int) (k : Bool → Option α) : pay_within_1 n k = k (!w60 n) := by
  unfold pay_within_1 w60
  by_cases h : n < -1152921504606846976
  · rw [cnT h, decide_eq_false (show ¬ n ≥ -1152921504606846976 by omega)]; rfl
  · rw [cnF h, decide_eq_true (show n ≥ -1152921504606846976 by omega), Bool.true_and]
    congr 1
    by_cases h2 : n > 1152921504606846976
    · rw [decide_eq_true h2, decide_eq_false (by omega)]; rfl
    · rw [decide_eq_false h2, decide_eq_true (by omega)]; rfl
theorem within_is (t : Til) (k : Bool → Option α) : pay_within t k = k (w60 t.2.2.1 && w60 t.2.2.2.1) := by
  unfold pay_within pay_within_g pay_Till_sums slices_ContainsFunc_int_int slices_ContainsFunc_int_int_g slices_IndexFunc_int_int slices_IndexFunc_int_int_g
  show (pay_within_1 t.2.2.1 fun r5 => cond r5 (k (!decide ((0 : Int) ≥ 0))) (pay_within_1 t.2.2.2.1 fun r5 => cond r5 (k (!decide ((1 : Int) ≥ 0))) (k (!decide ((-1 : Int) ≥ 0))))) = _
  rw [within1_is, within1_is]
  cases w60 t.2.2.1 <;> cases w60 t.2.2.2.1 <;> rfl
def fitT (t : Til) : Bool := fitK t.1 && (decide ((1 : Int) ≤ t.2.1) && (decide (t.2.1 ≤ 1099511627776) && (w60 t.2.2.1 && w60 t.2.2.2.1)))
theorem payFit_is {t : Til} (hn : t.1.n ≤ 900) (k : Bool → Option α) : pay_Fit t k = k (fitT t) := by
  unfold pay_Fit pay_Fit_g
  rw [keyedFit_is _ hn, within_is]
  exact cb (ck (ck rfl))
theorem refPayFit_is {t : Til} (hn : t.1.n ≤ 900) (k : Bool → Option α) : draymanref32_Fit t k = k (fitT t) := by
  unfold draymanref32_Fit draymanref32_Fit_g
  rw [refKeyedFit_is _ hn, refWithin_is, refWithin_is]
  exact cb (ck (ck (cb rfl)))
/-! ### Money moves -/
def movT (fr ta op n : Int) : Int × Int := if op = 2 then (IntKind.i64.wrap (fr + n), ta) else if op = 6 then (IntKind.i64.wrap (fr - n), IntKind.i64.wrap (ta + n)) else (fr, ta)
theorem moves_is (op n : Int) (t : Til) (k : Til → Option α) : pay_Till_moves op n t k = k (t.1, t.2.1, (movT t.2.2.1 t.2.2.2.1 op n).1, (movT t.2.2.1 t.2.2.2.1 op n).2, ()) := by
  unfold pay_Till_moves movT
  by_cases h : op = 2
  · rw [cbT h, if_pos h]
  · rw [cbF h, if_neg h]
    by_cases h6 : op = 6
    · rw [cbT h6, if_pos h6]
    · rw [cbF h6, if_neg h6]
def repS (t : Til) (x : Ent) (told : Int) : Rep := (1, t.2.1, x.2.1, x.2.2.1, x.2.2.2.1, x.1, told, ())
/-- The end: the till with the keys and the money then, or that it is over. -/
def endS (t : Til) (x : Ent) (told : Int) (l : List Key) (m : Int × Int) : Tm × Rep × Int :=
  if t.2.1 = 1099511627776 ∨ (w60 m.1 && w60 m.2) = false then (([], 0, 0, 0), zR, 5) else ((l, IntKind.i64.wrap (t.2.1 + 1), m.1, m.2), repS t x told, 0)
theorem end_is (t : Til) (x : Ent) (told : Int) (r : Keys) (m : Int × Int) : ∃ T : Til, mT T = (endS t x told (toL r) m).1 ∧ ((r.n ≤ 900 → T.1.n ≤ 900) ∧ (Nil0 r → Nil0 T.1)) ∧ ∀ k : Til → Rep → Int → Option α,
    (cond (!(t.2.1 == 1099511627776)) (pay_within (r, t.2.1, m.1, m.2, ()) fun r13 => cond (!r13) (k zT zR 5) (k (r, IntKind.i64.wrap (t.2.1 + 1), m.1, m.2, ()) (repS t x told) 0)) (k zT zR 5)) = k T (endS t x told (toL r) m).2.1 (endS t x told (toL r) m).2.2 := by
  unfold endS
  by_cases h : t.2.1 = 1099511627776
  · rw [if_pos (.inl h)]
    exact ⟨zT, rfl, ⟨fun _ => by decide, fun _ _ => rfl⟩, fun k => by rw [beqT h]; rfl⟩
  · cases hw : (w60 m.1 && w60 m.2) with
    | false =>
      rw [if_pos (.inr rfl)]
      exact ⟨zT, rfl, ⟨fun _ => by decide, fun _ _ => rfl⟩, fun k => by rw [beqF h, within_is, hw]; rfl⟩
    | true =>
      rw [if_neg (by simp [h])]
      exact ⟨(r, IntKind.i64.wrap (t.2.1 + 1), m.1, m.2, ()), rfl, ⟨fun h => h, fun h => h⟩, fun k => by rw [beqF h, within_is, hw]; rfl⟩
theorem ref_end_is (t : Til) (x : Ent) (told : Int) (r : Keys) (m : Int × Int) : ∃ T : Til, mT T = (endS t x told (toL r) m).1 ∧ (r.n ≤ 900 → T.1.n ≤ 900) ∧ ∀ k : Til → Rep → Int → Option α,
    (cond (!(t.2.1 == 1099511627776)) (draymanref32_within m.1 fun r12 => cond (!(!r12)) (draymanref32_within m.2 fun r13 => cond (!r13) (k zT zR 5) (k (r, IntKind.i64.wrap (t.2.1 + 1), m.1, m.2, ()) (repS t x told) 0)) (k zT zR 5)) (k zT zR 5)) = k T (endS t x told (toL r) m).2.1 (endS t x told (toL r) m).2.2 := by
  unfold endS
  by_cases h : t.2.1 = 1099511627776
  · rw [if_pos (.inl h)]
    exact ⟨zT, rfl, fun _ => by decide, fun k => by rw [beqT h]; rfl⟩
  · cases hw : (w60 m.1 && w60 m.2) with
    | false =>
      rw [if_pos (.inr rfl)]
      refine ⟨zT, rfl, fun _ => by decide, fun k => ?_⟩
      rw [beqF h, refWithin_is, refWithin_is]
      cases h1 : w60 m.1 <;> cases h2 : w60 m.2 <;> simp [h1, h2] at hw ⊢
    | true =>
      rw [if_neg (by simp [h])]
      rw [Bool.and_eq_true] at hw
      exact ⟨(r, IntKind.i64.wrap (t.2.1 + 1), m.1, m.2, ()), rfl, fun h => h, fun k => by rw [beqF h, refWithin_is, refWithin_is, hw.1, hw.2]; rfl⟩
def numS (x : Ent) (y : Key) : Int := if x.2.2.2.1 then IntKind.i64.wrap (0 - y.2.2.2.2.2.1) else y.2.2.2.2.2.1
/-- What comes of a request. -/
def payC (t : Til) (x : Ent) (v : Int) : Tm × Rep × Int :=
  if fitT t = false then (([], 0, 0, 0), zR, 12)
  else if svc x.2.2.2.2.1 ≠ 1 then (([], 0, 0, 0), zR, 1)
  else if comeE t.1 x v ≠ 0 then (([], 0, 0, 0), zR, comeE t.1 x v)
  else endS t x (comeA t.1 x v).2.1 (comeA t.1 x v).1 (if (comeA t.1 x v).2.2 then movT t.2.2.1 t.2.2.2.1 x.2.2.2.2.1 (numS x (findK (comeA t.1 x v).1 x.2.1 x.2.2.1).1) else (t.2.2.1, t.2.2.2.1))
theorem payCome_is {t : Til} (h0 : Nil0 t.1) (hn : t.1.n ≤ 400) (x : Ent) (v : Int) : ∃ T : Til, mT T = (payC t x v).1 ∧ (T.1.n ≤ 900 ∧ Nil0 T.1) ∧ ∀ k : Til → Rep → Int → Option α, pay_Come t x v k = k T (payC t x v).2.1 (payC t x v).2.2 := by
  unfold pay_Come pay_Come_g payC
  simp only [payFit_is (show t.1.n ≤ 900 by omega), Service_is]
  cases hf : fitT t with
  | false => exact ⟨zT, rfl, ⟨by decide, fun _ => rfl⟩, fun k => rfl⟩
  | true =>
    simp only [Bool.not_true, cond_false, Bool.true_eq_false, if_false]
    by_cases hs : svc x.2.2.2.2.1 = 1
    · rw [if_neg (by omega)]
      obtain ⟨r, h1, h2, h3⟩ := come_is (α := α) t.1 h0 (by omega) x v
      have hrn : r.n ≤ 801 := by
        have := come_n t.1 x v (by omega)
        rw [← h2, toL_length] at this; omega
      simp only [bneF hs, cond_false, h1]
      by_cases he : comeE t.1 x v = 0
      · rw [if_neg (by omega)]
        simp only [bneF he, cond_false, find_is r (show r.n ≤ 900 by omega), moves_is]
        rw [h2]
        cases hd : (comeA t.1 x v).2.2 with
        | false =>
          obtain ⟨T, t1, t2, t3⟩ := end_is (α := α) t x (comeA t.1 x v).2.1 r (t.2.2.1, t.2.2.2.1)
          rw [h2] at t1 t3
          exact ⟨T, t1, ⟨t2.1 (by omega), t2.2 h3⟩, fun k => t3 k⟩
        | true =>
          unfold numS
          cases hb : x.2.2.2.1 with
          | true =>
            obtain ⟨T, t1, t2, t3⟩ := end_is (α := α) t x (comeA t.1 x v).2.1 r (movT t.2.2.1 t.2.2.2.1 x.2.2.2.2.1 (IntKind.i64.wrap (0 - (findK (comeA t.1 x v).1 x.2.1 x.2.2.1).1.2.2.2.2.2.1)))
            rw [h2] at t1 t3
            refine ⟨T, t1, ⟨t2.1 (by omega), t2.2 h3⟩, fun k => Eq.trans ?_ (t3 k)⟩
            unfold repS; rw [hb]; rfl
          | false =>
            obtain ⟨T, t1, t2, t3⟩ := end_is (α := α) t x (comeA t.1 x v).2.1 r (movT t.2.2.1 t.2.2.2.1 x.2.2.2.2.1 (findK (comeA t.1 x v).1 x.2.1 x.2.2.1).1.2.2.2.2.2.1)
            rw [h2] at t1 t3
            refine ⟨T, t1, ⟨t2.1 (by omega), t2.2 h3⟩, fun k => Eq.trans ?_ (t3 k)⟩
            unfold repS; rw [hb]; rfl
      · rw [if_pos he]
        exact ⟨zT, rfl, ⟨by decide, fun _ => rfl⟩, fun k => by rw [bneT he]; rfl⟩
    · rw [if_pos hs]
      exact ⟨zT, rfl, ⟨by decide, fun _ => rfl⟩, fun k => by rw [bneT hs]; rfl⟩
theorem svc_1 {op : Int} (h : svc op = 1) : op = 2 ∨ op = 6 := by
  unfold svc at h
  by_cases h2 : op = 2
  · exact .inl h2
  · rw [if_neg h2] at h
    by_cases h6 : op = 6
    · exact .inr h6
    · rw [if_neg h6] at h
      split at h <;> omega
theorem refPayCome_is {t : Til} (hn : t.1.n ≤ 400) (x : Ent) (v : Int) : ∃ T : Til, mT T = (payC t x v).1 ∧ T.1.n ≤ 900 ∧ ∀ k : Til → Rep → Int → Option α, draymanref32_Come t x v k = k T (payC t x v).2.1 (payC t x v).2.2 := by
  unfold draymanref32_Come draymanref32_Come_g payC
  simp only [refPayFit_is (show t.1.n ≤ 900 by omega), refService_is]
  cases hf : fitT t with
  | false => exact ⟨zT, rfl, by decide, fun k => rfl⟩
  | true =>
    simp only [Bool.not_true, cond_false, Bool.true_eq_false, if_false]
    by_cases hs : svc x.2.2.2.2.1 = 1
    · rw [if_neg (by omega)]
      obtain ⟨r, h1, h2⟩ := refCome_is (α := α) t.1 (by omega) x v
      have hrn : r.n ≤ 801 := by
        have := come_n t.1 x v (by omega)
        rw [← h2, toL_length] at this; omega
      simp only [bneF hs, cond_false, h1]
      by_cases he : comeE t.1 x v = 0
      · rw [if_neg (by omega)]
        simp only [bneF he, cond_false, refFind_is r (show r.n ≤ 900 by omega)]
        rw [h2]
        cases hd : (comeA t.1 x v).2.2 with
        | false =>
          obtain ⟨T, t1, t2, t3⟩ := ref_end_is (α := α) t x (comeA t.1 x v).2.1 r (t.2.2.1, t.2.2.2.1)
          rw [h2] at t1 t3
          exact ⟨T, t1, t2 (by omega), fun k => t3 k⟩
        | true =>
          unfold numS movT
          cases hb : x.2.2.2.1 with
          | true =>
            obtain ⟨T, t1, t2, t3⟩ := ref_end_is (α := α) t x (comeA t.1 x v).2.1 r (movT t.2.2.1 t.2.2.2.1 x.2.2.2.2.1 (IntKind.i64.wrap (0 - (findK (comeA t.1 x v).1 x.2.1 x.2.2.1).1.2.2.2.2.2.1)))
            rw [h2] at t1 t3
            refine ⟨T, t1, t2 (by omega), fun k => Eq.trans ?_ (t3 k)⟩
            unfold repS movT; rw [hb]
            rcases svc_1 hs with h2' | h6
            · rw [h2']; rfl
            · rw [h6]; rfl
          | false =>
            obtain ⟨T, t1, t2, t3⟩ := ref_end_is (α := α) t x (comeA t.1 x v).2.1 r (movT t.2.2.1 t.2.2.2.1 x.2.2.2.2.1 (findK (comeA t.1 x v).1 x.2.1 x.2.2.1).1.2.2.2.2.2.1)
            rw [h2] at t1 t3
            refine ⟨T, t1, t2 (by omega), fun k => Eq.trans ?_ (t3 k)⟩
            unfold repS movT; rw [hb]
            rcases svc_1 hs with h2' | h6
            · rw [h2']; rfl
            · rw [h6]; rfl
      · rw [if_pos he]
        exact ⟨zT, rfl, by decide, fun k => by rw [bneT he]; rfl⟩
    · rw [if_pos hs]
      exact ⟨zT, rfl, by decide, fun k => by rw [bneT hs]; rfl⟩
end Go.Rv.Try
