/- Requests and replies: who may be, their octets, and how they are read, in plain words. -/
import Derived.Test.YtkcdjgmialniiaaE1
import Derived.Test.YtkcdjgmialniiaaPureWireLib2
set_option linter.unusedVariables false
set_option linter.unusedSimpArgs false
namespace Go.Rv.Try
open Go Go.Rv Go.RowKit
variable {α : Type}
theorem bneT {a b : Int} (h : a ≠ b) : (a != b) = true := by simp [h]
theorem bneF {a b : Int} (h : a = b) : (a != b) = false := by simp [h]
theorem beqT {a b : Int} (h : a = b) : (a == b) = true := by simp [h]
theorem beqF {a b : Int} (h : a ≠ b) : (a == b) = false := by simp [h]
theorem cT {β : Type} {p : Prop} [Decidable p] {a b : β} (h : p) : cond (decide p) a b = a := by rw [decide_eq_true h]; rfl
theorem cF {β : Type} {p : Prop} [Decidable p] {a b : β} (h : ¬ p) : cond (decide p) a b = b := by rw [decide_eq_false h]; rfl
theorem cnT {β : Type} {p : Prop} [Decidable p] {a b : β} (h : p) : cond (!decide p) a b = b := by rw [decide_eq_true h]; rfl
theorem cnF {β : Type} {p : Prop} [Decidable p] {a b : β} (h : ¬ p) : cond (!decide p) a b = a := by rw [decide_eq_false h]; rfl
theorem ck {p : Prop} [Decidable p] {b : Bool} {k : Bool → Option α} {X : Option α} (h : X = k b) : cond (decide p) X (k false) = k (decide p && b) := by
  by_cases hp : p
  · rw [cT hp, h, decide_eq_true hp, Bool.true_and]
  · rw [cF hp, decide_eq_false hp, Bool.false_and]
theorem cb {c b : Bool} {k : Bool → Option α} {X : Option α} (h : X = k b) : cond c X (k false) = k (c && b) := by
  cases c with
  | false => rfl
  | true => exact h
abbrev Ent := Int × Int × Int × Bool × Int × Int × Bool × Unit
abbrev Rep := Int × Int × Int × Int × Bool × Int × Int × Unit
abbrev Env := Int × Bool × Int × Int × Int × Int × Bool × Int × Int × Bool × Int × Int × Int × Int × Bool × Int × Int × Unit
def entOf (x : Env) : Ent := (x.2.2.2.1, x.2.2.2.2.1, x.2.2.2.2.2.1, x.2.2.2.2.2.2.1, x.2.2.2.2.2.2.2.1, x.2.2.2.2.2.2.2.2.1, x.2.2.2.2.2.2.2.2.2.1, ())
def repOf (x : Env) : Rep := x.2.2.2.2.2.2.2.2.2.2
def envE (num : Int) (ask : Bool) (sv : Int) (e : Ent) (r : Rep) : Env := (num, ask, sv, e.1, e.2.1, e.2.2.1, e.2.2.2.1, e.2.2.2.2.1, e.2.2.2.2.2.1, e.2.2.2.2.2.2.1, r.1, r.2.1, r.2.2.1, r.2.2.2.1, r.2.2.2.2.1, r.2.2.2.2.2.1, r.2.2.2.2.2.2.1, ())
theorem env_eta (x : Env) : envE x.1 x.2.1 x.2.2.1 (entOf x) (repOf x) = x := rfl
theorem entOf_env (n : Int) (a : Bool) (s : Int) (e : Ent) (r : Rep) : entOf (envE n a s e r) = e := rfl
theorem repOf_env (n : Int) (a : Bool) (s : Int) (e : Ent) (r : Rep) : repOf (envE n a s e r) = r := rfl
instance dR0 : DecidableEq (Int × Unit) := instDecidableEqProd
instance dR1 : DecidableEq (Int × Int × Unit) := instDecidableEqProd
instance dR2 : DecidableEq (Bool × Int × Int × Unit) := instDecidableEqProd
instance dR3 : DecidableEq (Int × Bool × Int × Int × Unit) := instDecidableEqProd
instance dR4 : DecidableEq (Int × Int × Bool × Int × Int × Unit) := instDecidableEqProd
instance dR5 : DecidableEq (Int × Int × Int × Bool × Int × Int × Unit) := instDecidableEqProd
instance dR6 : DecidableEq (Int × Int × Int × Int × Bool × Int × Int × Unit) := instDecidableEqProd
instance dE0 : DecidableEq (Bool × Unit) := instDecidableEqProd
instance dE1 : DecidableEq (Int × Bool × Unit) := instDecidableEqProd
instance dE2 : DecidableEq (Int × Int × Bool × Unit) := instDecidableEqProd
instance dE3 : DecidableEq (Bool × Int × Int × Bool × Unit) := instDecidableEqProd
instance dE4 : DecidableEq (Int × Bool × Int × Int × Bool × Unit) := instDecidableEqProd
instance dE5 : DecidableEq (Int × Int × Bool × Int × Int × Bool × Unit) := instDecidableEqProd
instance dE6 : DecidableEq (Int × Int × Int × Bool × Int × Int × Bool × Unit) := instDecidableEqProd
instance dV0 : DecidableEq (Int × Unit) := instDecidableEqProd
instance dV1 : DecidableEq (Int × Int × Unit) := instDecidableEqProd
instance dV2 : DecidableEq (Bool × Int × Int × Unit) := instDecidableEqProd
instance dV3 : DecidableEq (Int × Bool × Int × Int × Unit) := instDecidableEqProd
instance dV4 : DecidableEq (Int × Int × Bool × Int × Int × Unit) := instDecidableEqProd
instance dV5 : DecidableEq (Int × Int × Int × Bool × Int × Int × Unit) := instDecidableEqProd
instance dV6 : DecidableEq (Int × Int × Int × Int × Bool × Int × Int × Unit) := instDecidableEqProd
instance dV7 : DecidableEq (Bool × Int × Int × Int × Int × Bool × Int × Int × Unit) := instDecidableEqProd
instance dV8 : DecidableEq (Int × Bool × Int × Int × Int × Int × Bool × Int × Int × Unit) := instDecidableEqProd
instance dV9 : DecidableEq (Int × Int × Bool × Int × Int × Int × Int × Bool × Int × Int × Unit) := instDecidableEqProd
instance dV10 : DecidableEq (Bool × Int × Int × Bool × Int × Int × Int × Int × Bool × Int × Int × Unit) := instDecidableEqProd
instance dV11 : DecidableEq (Int × Bool × Int × Int × Bool × Int × Int × Int × Int × Bool × Int × Int × Unit) := instDecidableEqProd
instance dV12 : DecidableEq (Int × Int × Bool × Int × Int × Bool × Int × Int × Int × Int × Bool × Int × Int × Unit) := instDecidableEqProd
instance dV13 : DecidableEq (Int × Int × Int × Bool × Int × Int × Bool × Int × Int × Int × Int × Bool × Int × Int × Unit) := instDecidableEqProd
instance dV14 : DecidableEq (Int × Int × Int × Int × Bool × Int × Int × Bool × Int × Int × Int × Int × Bool × Int × Int × Unit) := instDecidableEqProd
instance dV15 : DecidableEq (Bool × Int × Int × Int × Int × Bool × Int × Int × Bool × Int × Int × Int × Int × Bool × Int × Int × Unit) := instDecidableEqProd
instance dV16 : DecidableEq (Int × Bool × Int × Int × Int × Int × Bool × Int × Int × Bool × Int × Int × Int × Int × Bool × Int × Int × Unit) := instDecidableEqProd
def zE : Ent := (0, 0, 0, false, 0, 0, false, ())
def zR : Rep := (0, 0, 0, 0, false, 0, 0, ())
def zV : Env := (0, false, 0, 0, 0, 0, false, 0, 0, false, 0, 0, 0, 0, false, 0, 0, ())
/-! ### Who may be -/
def idB (n : Int) : Bool := decide (1 ≤ n ∧ n ≤ 1099511627776)
theorem idB_T {n : Int} (h : 1 ≤ n ∧ n ≤ 1099511627776) : idB n = true := decide_eq_true h
theorem idB_F {n : Int} (h : ¬ (1 ≤ n ∧ n ≤ 1099511627776)) : idB n = false := decide_eq_false h
theorem idB_iff {n : Int} : idB n = true ↔ 1 ≤ n ∧ n ≤ 1099511627776 := decide_eq_true_iff
theorem msg_id_loop (k : Bool → Option α) (q : Seq (Int × Unit)) (hn : q.n < 900) : ∀ (n i : Nat), q.n - i < n →
    msg_id_l0_run (fun x => k x) (k true) n q (q.n : Int) (i : Int) = k (((toL q).drop i).all fun x => idB x.1) := by
  intro n
  induction n with
  | zero => intro i hi; omega
  | succ n ih =>
    intro i hi
    unfold msg_id_l0_run msg_id_l0_step
    by_cases hl : i < q.n
    · rw [cT (by omega), inb hl, cond_true, toNatC, toL_drop q hl, List.all_cons]
      by_cases h1 : (q.g i).1 < 1
      · rw [cnT h1, idB_F (by omega), Bool.false_and]
      · rw [cnF h1]
        by_cases h2 : (q.g i).1 > 1099511627776
        · rw [cT h2, idB_F (by omega), Bool.false_and]
        · rw [cF h2, idB_T (by omega), wrap_succ (by omega), Bool.true_and]
          exact ih (i + 1) (by omega)
    · rw [cF (by omega), toL_end q (by omega)]; rfl
theorem msg_id_is {q : Seq (Int × Unit)} (hn : q.n < 900) (k : Bool → Option α) : msg_id q k = k ((toL q).all fun x => idB x.1) := msg_id_loop k q hn 1000 0 (by omega)
theorem id3 (a b c : Int) (k : Bool → Option α) : msg_id (⟨false, 3, (tSel [(a, ()), (b, ()), (c, ())] (0, ()))⟩ : Seq (Int × Unit)) k = k (idB a && (idB b && idB c)) := by
  rw [msg_id_is (by show 3 < 900; omega)]
  show k (idB a && (idB b && (idB c && true))) = _
  rw [Bool.and_true]
theorem id1 (a : Int) (k : Bool → Option α) : msg_id (⟨false, 1, (fun _ => (a, ()))⟩ : Seq (Int × Unit)) k = k (idB a) := by
  rw [msg_id_is (by show 1 < 900; omega)]
  show k (idB a && true) = _
  rw [Bool.and_true]
def fitRep (r : Rep) : Bool := decide ((r.1 = 1 ∨ r.1 = 2) ∧ (1 ≤ r.2.1 ∧ r.2.1 ≤ 1099511627776) ∧ (1 ≤ r.2.2.1 ∧ r.2.2.1 ≤ 1099511627776) ∧ (1 ≤ r.2.2.2.2.2.1 ∧ r.2.2.2.2.2.1 ≤ 1099511627776) ∧ (0 ≤ r.2.2.2.1 ∧ r.2.2.2.1 < 6) ∧ 1 ≤ r.2.2.2.2.2.2.1 ∧ r.2.2.2.2.2.2.1 ≤ 3)
theorem fitRep_iff {r : Rep} : fitRep r = true ↔ (r.1 = 1 ∨ r.1 = 2) ∧ (1 ≤ r.2.1 ∧ r.2.1 ≤ 1099511627776) ∧ (1 ≤ r.2.2.1 ∧ r.2.2.1 ≤ 1099511627776) ∧ (1 ≤ r.2.2.2.2.2.1 ∧ r.2.2.2.2.2.1 ≤ 1099511627776) ∧ (0 ≤ r.2.2.2.1 ∧ r.2.2.2.1 < 6) ∧ 1 ≤ r.2.2.2.2.2.2.1 ∧ r.2.2.2.2.2.2.1 ≤ 3 := decide_eq_true_iff
theorem FitReply_is (r : Rep) (k : Bool → Option α) : msg_FitReply r k = k (fitRep r) := by
  unfold msg_FitReply msg_FitReply_g
  simp only [id3]
  have hY : cond (idB r.2.1 && (idB r.2.2.1 && idB r.2.2.2.2.2.1)) (cond (decide ((0 : Int) ≤ r.2.2.2.1)) (cond (decide (r.2.2.2.1 < 6)) (cond (decide ((1 : Int) ≤ r.2.2.2.2.2.2.1)) (k (decide (r.2.2.2.2.2.2.1 ≤ 3))) (k false)) (k false)) (k false)) (k false) = k _ := cb (ck (ck (ck rfl)))
  by_cases h1 : r.1 = 1
  · rw [beqT h1, cond_true, cond_true, hY]
    congr 1
    rw [Bool.eq_iff_iff, fitRep_iff]
    simp only [Bool.and_eq_true, decide_eq_true_eq, idB_iff]
    omega
  · rw [beqF h1, cond_false]
    by_cases h2 : r.1 = 2
    · rw [beqT h2, cond_true, hY]
      congr 1
      rw [Bool.eq_iff_iff, fitRep_iff]
      simp only [Bool.and_eq_true, decide_eq_true_eq, idB_iff]
      omega
    · rw [beqF h2, cond_false]
      congr 1
      rw [eq_comm, Bool.eq_false_iff, ne_eq, fitRep_iff]
      omega
theorem ref_FitReply_is (r : Rep) (k : Bool → Option α) : draymanref23_FitReply r k = k (fitRep r) := by
  unfold draymanref23_FitReply
  by_cases h1 : r.1 = 1
  · rw [beqT h1, Bool.not_true, cond_false]
    refine (ck (ck (ck (ck (ck (ck (ck (ck (ck rfl))))))))).trans ?_
    congr 1
    rw [Bool.eq_iff_iff, fitRep_iff]
    simp only [Bool.and_eq_true, decide_eq_true_eq]
    omega
  · rw [beqF h1, Bool.not_false, cond_true]
    by_cases h2 : r.1 = 2
    · rw [beqT h2, cond_true]
      refine (ck (ck (ck (ck (ck (ck (ck (ck (ck rfl))))))))).trans ?_
      congr 1
      rw [Bool.eq_iff_iff, fitRep_iff]
      simp only [Bool.and_eq_true, decide_eq_true_eq]
      omega
    · rw [beqF h2, cond_false]
      congr 1
      rw [eq_comm, Bool.eq_false_iff, ne_eq, fitRep_iff]
      omega
def servS (op : Int) : Int := if op = 2 then 1 else if op = 6 then 1 else if op = 4 then 2 else 0
theorem Service_is (op : Int) (k : Int → Option α) : outbox_Service op k = k (servS op) := by
  unfold outbox_Service servS
  by_cases h1 : op = 2
  · rw [beqT h1, if_pos h1]; rfl
  · rw [beqF h1, if_neg h1, cond_false]
    by_cases h2 : op = 6
    · rw [beqT h2, if_pos h2]; rfl
    · rw [beqF h2, if_neg h2, cond_false]
      by_cases h3 : op = 4
      · rw [beqT h3, if_pos h3]; rfl
      · rw [beqF h3, if_neg h3]; rfl
theorem ref_Service_is (op : Int) (k : Int → Option α) : draymanref17_Service op k = k (servS op) := Service_is op k
def fitEnt (x : Ent) : Bool := decide ((1 ≤ x.1 ∧ x.1 ≤ 1099511627776) ∧ (1 ≤ x.2.1 ∧ x.2.1 ≤ 1099511627776) ∧ (0 ≤ x.2.2.1 ∧ x.2.2.1 < 6) ∧ servS x.2.2.2.2.1 ≠ 0 ∧ 0 ≤ x.2.2.2.2.2.1 ∧ x.2.2.2.2.2.1 ≤ 1099511627776)
theorem fitEnt_iff {x : Ent} : fitEnt x = true ↔ (1 ≤ x.1 ∧ x.1 ≤ 1099511627776) ∧ (1 ≤ x.2.1 ∧ x.2.1 ≤ 1099511627776) ∧ (0 ≤ x.2.2.1 ∧ x.2.2.1 < 6) ∧ servS x.2.2.2.2.1 ≠ 0 ∧ 0 ≤ x.2.2.2.2.2.1 ∧ x.2.2.2.2.2.1 ≤ 1099511627776 := decide_eq_true_iff
theorem obid_is (n : Int) (k : Bool → Option α) : outbox_id n k = k (decide ((1 : Int) ≤ n) && decide (n ≤ 1099511627776)) := ck rfl
theorem nfit_is (n : Int) (k : Bool → Option α) : num_Fit n k = k (decide (n ≥ 0) && decide (n ≤ 1099511627776)) := ck rfl
theorem one_is (x : Ent) (k : Bool → Option α) : outbox_one x k = k (fitEnt x) := by
  unfold outbox_one outbox_one_g
  simp only [obid_is, Service_is, nfit_is]
  refine (cb (cb (ck (ck (cb rfl))))).trans ?_
  congr 1
  rw [Bool.eq_iff_iff, fitEnt_iff]
  simp only [Bool.and_eq_true, decide_eq_true_eq, bne_iff_ne]
  omega
theorem ref_One_is (x : Ent) (k : Bool → Option α) : draymanref17_One x k = k (fitEnt x) := by
  unfold draymanref17_One draymanref17_One_g
  have : ∀ (n : Int) (k : Bool → Option α), draymanref01_Fit n k = k (decide (n ≥ 0) && decide (n ≤ 1099511627776)) := nfit_is
  simp only [ref_Service_is, this]
  refine (ck (ck (ck (ck (ck (ck (cb rfl))))))).trans ?_
  congr 1
  rw [Bool.eq_iff_iff, fitEnt_iff]
  simp only [Bool.and_eq_true, decide_eq_true_eq, bne_iff_ne]
  omega
theorem outFit1 (x : Ent) (k : Bool → Option α) : outbox_Fit (⟨false, 1, (fun _ => x)⟩ : Seq Ent) k = k (fitEnt x) := by
  show outbox_one x _ = _
  rw [one_is]
  cases h : fitEnt x with
  | false => rfl
  | true =>
    have := fitEnt_iff.1 h
    show cond (!decide (x.1 ≤ 0)) _ _ = _
    rw [cnF (by omega)]
    rfl
def fitEnv (x : Env) : Bool := idB x.1 && (if x.2.1 then fitEnt (entOf x) && (decide (x.2.2.1 = servS x.2.2.2.2.2.2.2.1) && decide (repOf x = zR)) else fitRep (repOf x) && (decide (x.2.2.1 = x.2.2.2.2.2.2.2.2.2.2.1) && decide (entOf x = zE)))
theorem rep_zero (r : Rep) : ((r.1 == 0) && ((r.2.1 == 0) && ((r.2.2.1 == 0) && ((r.2.2.2.1 == 0) && ((r.2.2.2.2.1 == false) && ((r.2.2.2.2.2.1 == 0) && ((r.2.2.2.2.2.2.1 == 0) && true))))))) = decide (r = zR) := by
  obtain ⟨a, b, c, d, e, f, g, _⟩ := r
  rw [Bool.eq_iff_iff]
  simp only [Bool.and_eq_true, beq_iff_eq, decide_eq_true_eq, zR, Prod.mk.injEq, and_true]
theorem ent_zero (r : Ent) : ((r.1 == 0) && ((r.2.1 == 0) && ((r.2.2.1 == 0) && ((r.2.2.2.1 == false) && ((r.2.2.2.2.1 == 0) && ((r.2.2.2.2.2.1 == 0) && ((r.2.2.2.2.2.2.1 == false) && true))))))) = decide (r = zE) := by
  obtain ⟨a, b, c, d, e, f, g, _⟩ := r
  rw [Bool.eq_iff_iff]
  simp only [Bool.and_eq_true, beq_iff_eq, decide_eq_true_eq, zE, Prod.mk.injEq, and_true]
theorem rep_beq (r s : Rep) : ((r.1 == s.1) && ((r.2.1 == s.2.1) && ((r.2.2.1 == s.2.2.1) && ((r.2.2.2.1 == s.2.2.2.1) && ((r.2.2.2.2.1 == s.2.2.2.2.1) && ((r.2.2.2.2.2.1 == s.2.2.2.2.2.1) && ((r.2.2.2.2.2.2.1 == s.2.2.2.2.2.2.1) && true))))))) = decide (r = s) := by
  obtain ⟨a, b, c, d, e, f, g, _⟩ := r
  obtain ⟨a', b', c', d', e', f', g', _⟩ := s
  rw [Bool.eq_iff_iff]
  simp only [Bool.and_eq_true, beq_iff_eq, decide_eq_true_eq, Prod.mk.injEq, and_true]
theorem ent_beq (r s : Ent) : ((r.1 == s.1) && ((r.2.1 == s.2.1) && ((r.2.2.1 == s.2.2.1) && ((r.2.2.2.1 == s.2.2.2.1) && ((r.2.2.2.2.1 == s.2.2.2.2.1) && ((r.2.2.2.2.2.1 == s.2.2.2.2.2.1) && ((r.2.2.2.2.2.2.1 == s.2.2.2.2.2.2.1) && true))))))) = decide (r = s) := by
  obtain ⟨a, b, c, d, e, f, g, _⟩ := r
  obtain ⟨a', b', c', d', e', f', g', _⟩ := s
  rw [Bool.eq_iff_iff]
  simp only [Bool.and_eq_true, beq_iff_eq, decide_eq_true_eq, Prod.mk.injEq, and_true]
theorem env_beq (r s : Env) : ((r.1 == s.1) && ((r.2.1 == s.2.1) && ((r.2.2.1 == s.2.2.1) && (((r.2.2.2.1 == s.2.2.2.1) && ((r.2.2.2.2.1 == s.2.2.2.2.1) && ((r.2.2.2.2.2.1 == s.2.2.2.2.2.1) && ((r.2.2.2.2.2.2.1 == s.2.2.2.2.2.2.1) && ((r.2.2.2.2.2.2.2.1 == s.2.2.2.2.2.2.2.1) && ((r.2.2.2.2.2.2.2.2.1 == s.2.2.2.2.2.2.2.2.1) && ((r.2.2.2.2.2.2.2.2.2.1 == s.2.2.2.2.2.2.2.2.2.1) && true))))))) && (((r.2.2.2.2.2.2.2.2.2.2.1 == s.2.2.2.2.2.2.2.2.2.2.1) && ((r.2.2.2.2.2.2.2.2.2.2.2.1 == s.2.2.2.2.2.2.2.2.2.2.2.1) && ((r.2.2.2.2.2.2.2.2.2.2.2.2.1 == s.2.2.2.2.2.2.2.2.2.2.2.2.1) && ((r.2.2.2.2.2.2.2.2.2.2.2.2.2.1 == s.2.2.2.2.2.2.2.2.2.2.2.2.2.1) && ((r.2.2.2.2.2.2.2.2.2.2.2.2.2.2.1 == s.2.2.2.2.2.2.2.2.2.2.2.2.2.2.1) && ((r.2.2.2.2.2.2.2.2.2.2.2.2.2.2.2.1 == s.2.2.2.2.2.2.2.2.2.2.2.2.2.2.2.1) && ((r.2.2.2.2.2.2.2.2.2.2.2.2.2.2.2.2.1 == s.2.2.2.2.2.2.2.2.2.2.2.2.2.2.2.2.1) && true))))))) && true))))) = decide (r = s) := by
  obtain ⟨a, b, c, d, e, f, g, h, i, j, l, m, n, o, p, q, t, _⟩ := r
  obtain ⟨a', b', c', d', e', f', g', h', i', j', l', m', n', o', p', q', t', _⟩ := s
  rw [Bool.eq_iff_iff]
  simp only [Bool.and_eq_true, beq_iff_eq, decide_eq_true_eq, Prod.mk.injEq, and_true, and_assoc]
theorem beq_dec (a b : Int) : (a == b) = decide (a = b) := by
  rw [Bool.eq_iff_iff]; simp
theorem MFit_is (x : Env) (k : Bool → Option α) : msg_Fit x k = k (fitEnv x) := by
  unfold msg_Fit msg_Fit_g fitEnv
  simp only [id1, FitReply_is, Service_is]
  cases hx : x.2.1 with
  | true =>
    have := outFit1 (α := α) (entOf x)
    simp only [entOf] at this
    simp only [cond_true, if_true, this]
    refine (cb (cb (cb rfl))).trans ?_
    rw [show ∀ a b c d : Bool, (a && (b && (c && d))) = (a && (b && (c && d))) from fun _ _ _ _ => rfl, beq_dec]
    congr 1
    exact congrArg (fun z => idB x.1 && (fitEnt (entOf x) && (decide _ && z))) (rep_zero (repOf x))
  | false =>
    simp only [cond_false, Bool.false_eq_true, if_false]
    refine (cb (cb (cb rfl))).trans ?_
    rw [beq_dec]
    congr 1
    exact congrArg (fun z => idB x.1 && (fitRep (repOf x) && (decide _ && z))) (ent_zero (entOf x))
theorem ref_MFit_is (x : Env) (k : Bool → Option α) : draymanref23_Fit x k = k (fitEnv x) := by
  unfold draymanref23_Fit draymanref23_Fit_g fitEnv
  by_cases h1 : x.1 < 1
  · rw [cnT h1, idB_F (by omega), Bool.false_and]
  rw [cnF h1]
  by_cases h2 : x.1 > 1099511627776
  · rw [cT h2, idB_F (by omega), Bool.false_and]
  rw [cF h2, idB_T (by omega), Bool.true_and]
  simp only [ref_FitReply_is, ref_Service_is, ref_One_is]
  cases hx : x.2.1 with
  | true =>
    simp only [cond_true, if_true]
    refine (cb (cb rfl)).trans ?_
    rw [beq_dec]
    congr 1
    exact congrArg (fun z => (fitEnt (entOf x) && (decide _ && z))) (rep_zero (repOf x))
  | false =>
    simp only [cond_false, Bool.false_eq_true, if_false]
    refine (cb (cb rfl)).trans ?_
    rw [beq_dec]
    congr 1
    exact congrArg (fun z => (fitRep (repOf x) && (decide _ && z))) (ent_zero (entOf x))
end Go.Rv.Try
