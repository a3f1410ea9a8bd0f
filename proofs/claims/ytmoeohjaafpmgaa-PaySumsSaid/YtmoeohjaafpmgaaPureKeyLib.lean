/- What keys tell, as plain lists, for any seat. No condition. -/
import Derived.Test.YtmoeohjaafpmgaaE3
import Derived.Test.YtmoeohjaafpmgaaRvT
set_option linter.unusedVariables false
set_option linter.unusedSimpArgs false
namespace Go.Rv.Try
open Go Go.Rv Go.RowKit
variable {α : Type}

abbrev Ent := Int × Int × Int × Bool × Int × Int × Bool × Unit
abbrev Key := Int × Int × Int × Int × Int × Int × Unit
abbrev Keys := Seq Key
noncomputable instance keyDec : DecidableEq Key := fun _ _ => Classical.propDecidable _
def fitN (n : Int) : Bool := decide (0 ≤ n) && decide (n ≤ 1099511627776)
def idB (n : Int) : Bool := decide (1 ≤ n) && decide (n ≤ 1099511627776)
def svc (op : Int) : Int := if op = 2 then 1 else if op = 6 then 1 else if op = 4 then 2 else 0
theorem Service_is (op : Int) (k : Int → Option α) : outbox_Service op k = k (svc op) := by
  unfold outbox_Service svc
  by_cases h1 : op = 2
  · subst h1; rfl
  by_cases h2 : op = 6
  · subst h2; rfl
  by_cases h3 : op = 4
  · subst h3; rfl
  have e1 : (op == 2) = false := by simpa using h1
  have e2 : (op == 6) = false := by simpa using h2
  have e3 : (op == 4) = false := by simpa using h3
  simp only [e1, e2, e3, cond_false, if_neg h1, if_neg h2, if_neg h3]
theorem refService_is (op : Int) (k : Int → Option α) : draymanref17_Service op k = k (svc op) := Service_is op k
theorem id_is (n : Int) (k : Bool → Option α) : outbox_id n k = k (idB n) := by
  unfold outbox_id idB
  cases decide (1 ≤ n) <;> rfl
theorem Fit_is (n : Int) (k : Bool → Option α) : num_Fit n k = k (fitN n) := by
  unfold num_Fit fitN
  by_cases h : 0 ≤ n <;> simp [h]
theorem refFit_is (n : Int) (k : Bool → Option α) : draymanref01_Fit n k = k (fitN n) := Fit_is n k
def oneB (x : Ent) : Bool := idB x.1 && (idB x.2.1 && (decide (0 ≤ x.2.2.1) && (decide (x.2.2.1 < 6) && (svc x.2.2.2.2.1 != 0 && fitN x.2.2.2.2.2.1))))
theorem one_is (x : Ent) (k : Bool → Option α) : outbox_one x k = k (oneB x) := by
  simp only [outbox_one, outbox_one_g, id_is, Service_is, Fit_is, oneB]
  cases idB x.1 <;> cases idB x.2.1 <;> cases decide ((0 : Int) ≤ x.2.2.1) <;> cases decide (x.2.2.1 < 6) <;> cases (svc x.2.2.2.2.1 != 0) <;> rfl
theorem refOne_is (x : Ent) (k : Bool → Option α) : draymanref17_One x k = k (oneB x) := by
  simp only [draymanref17_One, draymanref17_One_g, refService_is, refFit_is, oneB, idB]
  have e1 : decide (x.1 ≥ 1) = decide (1 ≤ x.1) := rfl
  have e2 : decide (x.2.1 ≥ 1) = decide (1 ≤ x.2.1) := rfl
  have e3 : decide (x.2.2.1 ≥ 0) = decide (0 ≤ x.2.2.1) := rfl
  rw [e1, e2, e3]
  cases decide ((1 : Int) ≤ x.1) <;> cases decide (x.1 ≤ 1099511627776) <;> cases decide ((1 : Int) ≤ x.2.1) <;> cases decide (x.2.1 ≤ 1099511627776) <;> cases decide ((0 : Int) ≤ x.2.2.1) <;> cases decide (x.2.2.1 < 6) <;> cases (svc x.2.2.2.2.1 != 0) <;> rfl
theorem le_of_id {n : Int} (h : idB n = true) : 1 ≤ n ∧ n ≤ 1099511627776 := by
  simpa [idB] using h
/-- One entry alone is fit if it is one. -/
theorem fit_one (e : Ent) (k : Bool → Option α) : outbox_Fit (⟨false, 1, fun _ => e⟩ : Seq Ent) k = k (oneB e) := by
  obtain ⟨M, e1⟩ : ∃ M, (1000 : Nat) = M + 1 + 1 := ⟨998, rfl⟩
  have h0 : decide ((0 : Int) < (((1 : Nat)) : Int)) = true := rfl
  have h1 : decide ((0 : Int) ≤ 0) = true := rfl
  have hw : IntKind.i64.wrap ((0 : Int) + 1) = 1 := rfl
  have h2 : decide ((1 : Int) < (((1 : Nat)) : Int)) = false := rfl
  have h3 : decide ((((1 : Nat)) : Int) ≤ 16) = true := rfl
  simp only [outbox_Fit, outbox_Fit_g]
  rw [e1]
  simp only [outbox_Fit_l0_run, outbox_Fit_l0_step, h0, h1, Bool.and_self, cond_true, one_is, hw, h2, cond_false, h3]
  cases h : oneB e with
  | false => rfl
  | true =>
    have : ¬ e.1 ≤ 0 := by
      simp only [oneB, Bool.and_eq_true] at h
      have := (le_of_id h.1).1
      omega
    simp only [decide_eq_false this, Bool.not_true, Bool.not_false, cond_true]
    rfl

/-! ### Keys that may be -/
def zK : Key := (0, 0, 0, 0, 0, 0, ())
def markB (m t b : Int) : Bool := if m = 2 then t == 1 && b == 0 else if m = 4 then t == 1 && b == 1 else if m = 5 then t == 0 && b == 0 else if m = 3 then t == 0 && b == 0 else false
def oneK (x : Key) : Bool := idB x.1 && (decide (0 ≤ x.2.1) && (decide (x.2.1 < 6) && (fitN x.2.2.2.2.2.1 && markB x.2.2.1 x.2.2.2.1 x.2.2.2.2.1)))
theorem oneK_path (x : Key) (a : Option α) (b : Option α) (c : Option α) (ha : oneK x = true → c = a) (hb : oneK x = false → c = b) : c = cond (oneK x) a b := by
  cases h : oneK x with
  | true => exact ha h
  | false => exact hb h
theorem mark_cases (m t b : Int) (k : Bool → Option α) : (cond (m == 2) (k ((t == 1) && ((b == 0) && true))) (cond (m == 4) (k ((t == 1) && ((b == 1) && true))) (cond (m == 5) (cond (m == 5) (k ((t == 0) && ((b == 0) && true))) (k false)) (cond (m == 3) (k ((t == 0) && ((b == 0) && true))) (k false))))) = k (markB m t b) := by
  unfold markB
  by_cases h2 : m = 2
  · subst h2; simp
  by_cases h4 : m = 4
  · subst h4; simp
  by_cases h5 : m = 5
  · subst h5; simp
  by_cases h3 : m = 3
  · subst h3; simp
  have e2 : (m == 2) = false := by simpa using h2
  have e4 : (m == 4) = false := by simpa using h4
  have e5 : (m == 5) = false := by simpa using h5
  have e3 : (m == 3) = false := by simpa using h3
  simp only [e2, e4, e5, e3, cond_false, if_neg h2, if_neg h4, if_neg h5, if_neg h3]
theorem mark_cases' (m t b : Int) (k : Bool → Option α) : (cond (m == 2) (cond (t == 1) (k (b == 0)) (k false)) (cond (m == 4) (cond (t == 1) (k (b == 1)) (k false)) (cond (m == 5) (cond (m == 5) (cond (t == 0) (k (b == 0)) (k false)) (k false)) (cond (m == 3) (cond (t == 0) (k (b == 0)) (k false)) (k false))))) = k (markB m t b) := by
  refine Eq.trans ?_ (mark_cases m t b k)
  cases (m == 2) <;> cases (m == 4) <;> cases (m == 5) <;> cases (m == 3) <;> cases (t == 1) <;> cases (t == 0) <;> cases (b == 0) <;> cases (b == 1) <;> rfl
theorem oneK_is (x : Key) (k : Bool → Option α) : keyed_one x k = k (oneK x) := by
  simp only [keyed_one, keyed_one_g, Fit_is, mark_cases, oneK]
  by_cases h1 : x.1 < 1
  · have : idB x.1 = false := by simp [idB]; omega
    simp only [decide_eq_true h1, this, Bool.not_true, cond_false, Bool.false_and]
  by_cases h2 : x.1 > 1099511627776
  · have : idB x.1 = false := by simp [idB]; omega
    simp only [decide_eq_false h1, decide_eq_true h2, this, Bool.not_false, Bool.not_true, cond_true, cond_false, Bool.false_and]
  have : idB x.1 = true := by simp [idB]; omega
  have e3 : decide (0 ≤ x.2.1) = !(decide (x.2.1 < 0)) := by rw [← decide_not]; exact decide_eq_decide.2 (by omega)
  have e4 : decide (x.2.1 < 6) = !(decide (x.2.1 ≥ 6)) := by rw [← decide_not]; exact decide_eq_decide.2 (by omega)
  rw [e3, e4]
  simp only [decide_eq_false h1, decide_eq_false h2, this, Bool.not_false, cond_true, Bool.true_and]
  cases decide (x.2.1 < 0) <;> cases decide (x.2.1 ≥ 6) <;> cases fitN x.2.2.2.2.2.1 <;> rfl
theorem refOneK_is (x : Key) (k : Bool → Option α) : draymanref31_One x k = k (oneK x) := by
  refine Eq.trans ?_ (oneK_is x k)
  simp only [draymanref31_One, draymanref31_One_g, refFit_is, mark_cases', keyed_one, keyed_one_g, Fit_is, mark_cases]
def ltK (a b : Key) : Bool := decide (a.1 < b.1) || (a.1 == b.1 && decide (a.2.1 < b.2.1))
theorem ahead_is (a b : Key) (k : Bool → Option α) : draymanref31_ahead a b k = k (ltK a b) := by
  unfold draymanref31_ahead ltK
  cases decide (a.1 < b.1) <;> cases (a.1 == b.1) <;> rfl
def cmpI (x y : Int) : Int := if x < y then -1 else if x > y then 1 else 0
theorem compare_is (x y : Int) (k : Int → Option α) : cmp_Compare_int x y k = k (cmpI x y) := by
  have h : ∀ z : Int, (z != z) = false := fun z => by simp
  simp only [cmp_Compare_int, cmp_Compare_int_g, cmp_isNaN_int, h, cond_false, cmpI]
  by_cases h1 : x < y
  · simp [h1]
  · by_cases h2 : x > y
    · simp [h1, h2]
    · simp [h1, h2]
def rankK (a b : Key) : Int := if cmpI a.1 b.1 = 0 then cmpI a.2.1 b.2.1 else cmpI a.1 b.1
theorem or_is (x y : Int) (k : Int → Option α) : cmp_Or_int (⟨false, 2, tSel [(x, ()), (y, ())] (0, ())⟩ : Seq (Int × Unit)) k = k (if x = 0 then y else x) := by
  obtain ⟨M, e1⟩ : ∃ M, (1000 : Nat) = M + 1 + 1 + 1 := ⟨997, rfl⟩
  simp only [cmp_Or_int]
  rw [e1]
  have h0 : decide ((0 : Int) < (((2 : Nat)) : Int)) = true := rfl
  have h00 : decide ((0 : Int) ≤ 0) = true := rfl
  have h1 : decide ((1 : Int) < (((2 : Nat)) : Int)) = true := rfl
  have h01 : decide ((0 : Int) ≤ 1) = true := rfl
  have h2 : decide ((2 : Int) < (((2 : Nat)) : Int)) = false := rfl
  have hw : IntKind.i64.wrap ((0 : Int) + 1) = 1 := rfl
  have hw1 : IntKind.i64.wrap ((1 : Int) + 1) = 2 := rfl
  simp only [cmp_Or_int_l0_run, cmp_Or_int_l0_step, h0, h00, h1, h01, h2, hw, hw1, Bool.and_self, cond_true, cond_false]
  show cond (x != 0) (k x) (cond (y != 0) (k y) (k 0)) = _
  by_cases hx : x = 0
  · subst hx
    by_cases hy : y = 0
    · subst hy; rfl
    · have : (y != 0) = true := by simpa using hy
      simp only [this, if_true, cond_true]; rfl
  · have : (x != 0) = true := by simpa using hx
    simp only [this, if_neg hx, cond_true]
theorem rank_is (a b : Key) (k : Int → Option α) : keyed_rank a b k = k (rankK a b) := by
  simp only [keyed_rank, keyed_rank_g, compare_is, or_is, rankK]
theorem cmpI_lt {x y : Int} (h : x < y) : cmpI x y = -1 := by simp [cmpI, h]
theorem cmpI_gt {x y : Int} (h : y < x) : cmpI x y = 1 := by
  have : ¬ x < y := by omega
  simp [cmpI, h, this]
theorem cmpI_eq (x : Int) : cmpI x x = 0 := by simp [cmpI]
theorem rank_lt {a b : Key} (h : a.1 < b.1 ∨ (a.1 = b.1 ∧ a.2.1 < b.2.1)) : rankK a b = -1 := by
  unfold rankK
  rcases h with h | ⟨h1, h2⟩
  · rw [cmpI_lt h]; rfl
  · rw [h1, cmpI_eq, if_pos rfl, cmpI_lt h2]
theorem rank_gt {a b : Key} (h : b.1 < a.1 ∨ (a.1 = b.1 ∧ b.2.1 < a.2.1)) : rankK a b = 1 := by
  unfold rankK
  rcases h with h | ⟨h1, h2⟩
  · rw [cmpI_gt h]; rfl
  · rw [h1, cmpI_eq, if_pos rfl, cmpI_gt h2]
theorem rank_same {a b : Key} (h : a.1 = b.1 ∧ a.2.1 = b.2.1) : rankK a b = 0 := by
  unfold rankK
  rw [h.1, h.2, cmpI_eq, if_pos rfl, cmpI_eq]
theorem rank_tri (a b : Key) : (a.1 < b.1 ∨ (a.1 = b.1 ∧ a.2.1 < b.2.1)) ∨ (b.1 < a.1 ∨ (a.1 = b.1 ∧ b.2.1 < a.2.1)) ∨ (a.1 = b.1 ∧ a.2.1 = b.2.1) := by omega
theorem rank_neg (a b : Key) : decide (rankK a b < 0) = ltK a b := by
  rw [Bool.eq_iff_iff]
  simp only [decide_eq_true_eq, ltK, Bool.or_eq_true, Bool.and_eq_true, beq_iff_eq]
  rcases rank_tri a b with h | h | h
  · rw [rank_lt h]; exact ⟨fun _ => h, fun _ => by decide⟩
  · rw [rank_gt h]; exact ⟨fun h' => by omega, fun h' => by omega⟩
  · rw [rank_same h]; exact ⟨fun h' => by omega, fun h' => by omega⟩
theorem rank_ge (a b : Key) : decide (rankK a b ≥ 0) = !(ltK a b) := by
  rw [← rank_neg, ← decide_not]
  exact decide_eq_decide.2 (by omega)
def sameK (a b : Key) : Bool := a.1 == b.1 && a.2.1 == b.2.1
theorem rank_eq (a b : Key) : (rankK a b == 0) = sameK a b := by
  rw [Bool.eq_iff_iff]
  simp only [beq_iff_eq, sameK, Bool.and_eq_true]
  rcases rank_tri a b with h | h | h
  · rw [rank_lt h]; exact ⟨fun h' => by omega, fun h' => by omega⟩
  · rw [rank_gt h]; exact ⟨fun h' => by omega, fun h' => by omega⟩
  · rw [rank_same h]; exact ⟨fun _ => h, fun _ => rfl⟩
theorem ltK_iff {a b : Key} : ltK a b = true ↔ a.1 < b.1 ∨ (a.1 = b.1 ∧ a.2.1 < b.2.1) := by simp [ltK]
theorem sameK_iff {a b : Key} : sameK a b = true ↔ a.1 = b.1 ∧ a.2.1 = b.2.1 := by simp [sameK]

/-- From here on, behind one: each may be, each is ahead of the next. -/
def fitFrom : Option Key → List Key → Bool
  | _, [] => true
  | p, x :: l => oneK x && ((match p with | none => true | some q => ltK q x) && fitFrom (some x) l)
def atP (s : Keys) (j : Nat) : Option Key := if j = 0 then none else some (s.g (j - 1))
theorem atP_succ (s : Keys) (j : Nat) : atP s (j + 1) = some (s.g j) := by simp [atP]
def fitK (s : Keys) : Bool := fitFrom none (toL s)
theorem keyedFit_loop (kr : Bool → Option α) (k0 : Option α) (s : Keys) (hn : s.n ≤ 900) : ∀ (d j N : Nat), j + d = s.n → d < N →
    keyed_Fit_l0_run keyed_one keyed_rank kr k0 N s s (s.n : Int) (j : Int) = cond (fitFrom (atP s j) ((toL s).drop j)) k0 (kr false) := by
  intro d
  induction d with
  | zero =>
    intro j N hj hN
    obtain ⟨N, rfl⟩ : ∃ M, N = M + 1 := ⟨N - 1, by omega⟩
    have h3 : ¬ ((j : Int) < (s.n : Int)) := by omega
    simp only [keyed_Fit_l0_run, keyed_Fit_l0_step, ltF h3, cond_false, toL_end s (by omega : s.n ≤ j), fitFrom, cond_true]
  | succ d ih =>
    intro j N hj hN
    obtain ⟨N, rfl⟩ : ∃ M, N = M + 1 := ⟨N - 1, by omega⟩
    have h3 : (j : Int) < (s.n : Int) := by omega
    have h4 := ih (j + 1) N (by omega) (by omega)
    rw [atP_succ] at h4
    simp only [keyed_Fit_l0_run, keyed_Fit_l0_step, ltT h3, nn, Bool.and_self, toNatC, cond_true, wrap_succ (show j < 9223372036854775807 by omega), oneK_is, h4, Bool.not_not]
    rw [toL_drop s (show j < s.n by omega)]
    simp only [fitFrom]
    by_cases h0 : j = 0
    · subst h0
      have e0 : decide (((0 : Nat) : Int) > 0) = false := rfl
      simp only [e0, cond_false, atP, if_true, Bool.true_and]
      cases oneK (s.g 0) <;> rfl
    · have e0 : ((j : Nat) : Int) > 0 := by omega
      have hw : IntKind.i64.wrap ((j : Int) - 1) = ((j - 1 : Nat) : Int) := by rw [wrap64 (by omega) (by omega)]; omega
      have h5 : ((j - 1 : Nat) : Int) < (s.n : Int) := by omega
      simp only [decide_eq_true e0, cond_true, hw, nn, ltT h5, Bool.and_self, toNatC, rank_is, rank_ge, atP, if_neg h0]
      cases oneK (s.g j) <;> cases ltK (s.g (j - 1)) (s.g j) <;> rfl
theorem keyedFit_is (s : Keys) (hn : s.n ≤ 900) (k : Bool → Option α) : keyed_Fit s k = k (fitK s) := by
  have h := keyedFit_loop (fun x8 => (k x8)) (k true) s hn s.n 0 1000 (by omega) (by omega)
  rw [List.drop_zero] at h
  refine (h : keyed_Fit s k = _).trans ?_
  show cond (fitK s) _ _ = _
  cases fitK s <;> rfl
theorem refKeyedFit_loop (kr : Bool → Option α) (k0 : Option α) (s : Keys) (hn : s.n ≤ 900) : ∀ (d j N : Nat), j + d = s.n → d < N →
    draymanref31_Fit_l0_run draymanref31_One draymanref31_ahead kr k0 N s (j : Int) = cond (fitFrom (atP s j) ((toL s).drop j)) k0 (kr false) := by
  intro d
  induction d with
  | zero =>
    intro j N hj hN
    obtain ⟨N, rfl⟩ : ∃ M, N = M + 1 := ⟨N - 1, by omega⟩
    have h3 : ¬ ((j : Int) < (s.n : Int)) := by omega
    simp only [draymanref31_Fit_l0_run, draymanref31_Fit_l0_step, ltF h3, cond_false, toL_end s (by omega : s.n ≤ j), fitFrom, cond_true]
  | succ d ih =>
    intro j N hj hN
    obtain ⟨N, rfl⟩ : ∃ M, N = M + 1 := ⟨N - 1, by omega⟩
    have h3 : (j : Int) < (s.n : Int) := by omega
    have h4 := ih (j + 1) N (by omega) (by omega)
    rw [atP_succ] at h4
    simp only [draymanref31_Fit_l0_run, draymanref31_Fit_l0_step, ltT h3, nn, Bool.and_self, toNatC, cond_true, wrap_succ (show j < 9223372036854775807 by omega), refOneK_is, h4, Bool.not_not]
    rw [toL_drop s (show j < s.n by omega)]
    simp only [fitFrom]
    by_cases h0 : j = 0
    · subst h0
      have e0 : decide (((0 : Nat) : Int) > 0) = false := rfl
      simp only [e0, cond_false, atP, if_true, Bool.true_and]
      cases oneK (s.g 0) <;> rfl
    · have e0 : ((j : Nat) : Int) > 0 := by omega
      have hw : IntKind.i64.wrap ((j : Int) - 1) = ((j - 1 : Nat) : Int) := by rw [wrap64 (by omega) (by omega)]; omega
      have h5 : ((j - 1 : Nat) : Int) < (s.n : Int) := by omega
      simp only [decide_eq_true e0, cond_true, hw, nn, ltT h5, Bool.and_self, toNatC, ahead_is, atP, if_neg h0]
      cases oneK (s.g j) <;> cases ltK (s.g (j - 1)) (s.g j) <;> rfl
theorem refKeyedFit_is (s : Keys) (hn : s.n ≤ 900) (k : Bool → Option α) : draymanref31_Fit s k = k (fitK s) := by
  have h := refKeyedFit_loop (fun x8 => (k x8)) (k true) s hn s.n 0 1000 (by omega) (by omega)
  rw [List.drop_zero] at h
  refine (h : draymanref31_Fit s k = _).trans ?_
  show cond (fitK s) _ _ = _
  cases fitK s <;> rfl

/-! ### Which is found -/
def isAt (a b : Int) (x : Key) : Bool := x.1 == a && x.2.1 == b
def findK (l : List Key) (a b : Int) : Key × Bool := match l.find? (isAt a b) with | some x => (x, true) | none => (zK, false)
theorem find1_is (x : Key) (a b : Int) (k : Bool → Int → Int → Option α) : keyed_Find_1 x a b k = k (isAt a b x) a b := by
  unfold keyed_Find_1 isAt
  cases (x.1 == a) <;> rfl
theorem index_loop (kr : Int → Int → Int → Option α) (k0 : Int → Int → Option α) (s : Keys) (a b : Int) (hn : s.n ≤ 900) : ∀ (d j N : Nat), j + d = s.n → d < N →
    (∃ i, i < s.n ∧ slices_IndexFunc_api_Key_api_Key_l0_run keyed_Find_1 kr k0 N s (s.n : Int) (j : Int) a b = kr (i : Int) a b ∧ ((toL s).drop j).find? (isAt a b) = some (s.g i)) ∨
    (slices_IndexFunc_api_Key_api_Key_l0_run keyed_Find_1 kr k0 N s (s.n : Int) (j : Int) a b = k0 a b ∧ ((toL s).drop j).find? (isAt a b) = none) := by
  intro d
  induction d with
  | zero =>
    intro j N hj hN
    obtain ⟨N, rfl⟩ : ∃ M, N = M + 1 := ⟨N - 1, by omega⟩
    have h3 : ¬ ((j : Int) < (s.n : Int)) := by omega
    refine .inr ⟨by simp only [slices_IndexFunc_api_Key_api_Key_l0_run, slices_IndexFunc_api_Key_api_Key_l0_step, ltF h3, cond_false], by rw [toL_end s (by omega : s.n ≤ j)]; rfl⟩
  | succ d ih =>
    intro j N hj hN
    obtain ⟨N, rfl⟩ : ∃ M, N = M + 1 := ⟨N - 1, by omega⟩
    have h3 : (j : Int) < (s.n : Int) := by omega
    rw [toL_drop s (show j < s.n by omega)]
    simp only [slices_IndexFunc_api_Key_api_Key_l0_run, slices_IndexFunc_api_Key_api_Key_l0_step, ltT h3, nn, Bool.and_self, toNatC, cond_true, wrap_succ (show j < 9223372036854775807 by omega), find1_is, List.find?_cons]
    cases h : isAt a b (s.g j) with
    | true => exact .inl ⟨j, by omega, rfl, rfl⟩
    | false => exact ih (j + 1) N (by omega) (by omega)
theorem find_is (s : Keys) (hn : s.n ≤ 900) (a b : Int) (k : Key → Bool → Option α) : keyed_Find s a b k = k (findK (toL s) a b).1 (findK (toL s) a b).2 := by
  have h := index_loop (fun x12 x13 x14 => (fun r4 x5 x6 =>
    (cond (decide (r4 < 0))
      (k (0, 0, 0, 0, 0, 0, ()) false)
      (cond ((decide ((0 : Int) ≤ r4)) && (decide (r4 < (s.n : Int))))
        (k (s.g r4.toNat) true)
        none))) x12 x13 x14) (fun x15 x16 => (fun (r4 : Int) (x5 x6 : Int) =>
    (cond (decide (r4 < 0))
      (k (0, 0, 0, 0, 0, 0, ()) false)
      (cond ((decide ((0 : Int) ≤ r4)) && (decide (r4 < (s.n : Int))))
        (k (s.g r4.toNat) true)
        none))) (-1) x15 x16) s a b hn s.n 0 1000 (by omega) (by omega)
  rw [List.drop_zero] at h
  unfold findK
  rcases h with ⟨i, hi, h1, h2⟩ | ⟨h1, h2⟩
  · rw [h2]
    refine (h1 : keyed_Find s a b k = _).trans ?_
    have e1 : ¬ ((i : Int) < 0) := by omega
    have e2 : (i : Int) < (s.n : Int) := by omega
    simp only [decide_eq_false e1, cond_false, nn, ltT e2, Bool.and_self, cond_true, toNatC]
  · rw [h2]
    exact (h1 : keyed_Find s a b k = _)
theorem refFind_loop (kr : Bool → Key → Option α) (k0 : Key → Option α) (s : Keys) (a b : Int) (x8 : Key) (hn : s.n ≤ 900) : ∀ (d j N : Nat), j + d = s.n → d < N →
    draymanref31_Find_l0_run kr k0 N s a b (j : Int) x8 = (match ((toL s).drop j).find? (isAt a b) with | some x => kr true x | none => k0 x8) := by
  intro d
  induction d with
  | zero =>
    intro j N hj hN
    obtain ⟨N, rfl⟩ : ∃ M, N = M + 1 := ⟨N - 1, by omega⟩
    have h3 : ¬ ((j : Int) < (s.n : Int)) := by omega
    rw [toL_end s (by omega : s.n ≤ j)]
    simp only [draymanref31_Find_l0_run, draymanref31_Find_l0_step, ltF h3, cond_false, List.find?_nil]
  | succ d ih =>
    intro j N hj hN
    obtain ⟨N, rfl⟩ : ∃ M, N = M + 1 := ⟨N - 1, by omega⟩
    have h3 : (j : Int) < (s.n : Int) := by omega
    have h4 := ih (j + 1) N (by omega) (by omega)
    rw [toL_drop s (show j < s.n by omega), List.find?_cons]
    simp only [draymanref31_Find_l0_run, draymanref31_Find_l0_step, ltT h3, nn, Bool.and_self, toNatC, cond_true, wrap_succ (show j < 9223372036854775807 by omega), h4, isAt]
    cases ((s.g j).1 == a) <;> cases ((s.g j).2.1 == b) <;> rfl
theorem refFind_is (s : Keys) (hn : s.n ≤ 900) (a b : Int) (k : Key → Bool → Option α) : draymanref31_Find s a b k = k (findK (toL s) a b).1 (findK (toL s) a b).2 := by
  have h := refFind_loop (fun x9 x10 => (k x10 x9)) (fun x11 => (k (0, 0, 0, 0, 0, 0, ()) false)) s a b (0, 0, 0, 0, 0, 0, ()) hn s.n 0 1000 (by omega) (by omega)
  rw [List.drop_zero] at h
  refine (h : draymanref31_Find s a b k = _).trans ?_
  unfold findK
  cases (toL s).find? (isAt a b) <;> rfl

/-! ### What is put -/
def putL (l : List Key) (x : Key) : List Key := l.filter (fun y => ltK y x) ++ x :: l.filter (fun y => ltK x y)
def SortedK (s : Keys) : Prop := ∀ i j, i < j → j < s.n → ltK (s.g i) (s.g j) = true
theorem ltK_trans {a b c : Key} (h1 : ltK a b = true) (h2 : ltK b c = true) : ltK a c = true := by
  rw [ltK_iff] at *; omega
theorem fitFrom_all : ∀ (l : List Key) (p : Option Key), fitFrom p l = true → (∀ x ∈ l, oneK x = true ∧ ∀ q, p = some q → ltK q x = true) ∧ l.Pairwise (fun a b => ltK a b = true)
  | [], p, _ => ⟨fun x h => (by cases h), .nil⟩
  | y :: l, p, h => by
    simp only [fitFrom, Bool.and_eq_true] at h
    obtain ⟨h1, h2, h3⟩ := h
    obtain ⟨h4, h5⟩ := fitFrom_all l (some y) h3
    have hp : ∀ q, p = some q → ltK q y = true := fun q hq => by subst hq; exact h2
    refine ⟨fun x hx => ?_, List.pairwise_cons.2 ⟨fun x hx => (h4 x hx).2 y rfl, h5⟩⟩
    rcases List.mem_cons.1 hx with rfl | hx
    · exact ⟨h1, hp⟩
    · exact ⟨(h4 x hx).1, fun q hq => ltK_trans (hp q hq) ((h4 x hx).2 y rfl)⟩
theorem toL_getE (s : Keys) {i : Nat} (h : i < s.n) : (toL s)[i]'(by rw [toL_length]; exact h) = s.g i := by simp [toL]
theorem sorted_of {s : Keys} (h : fitK s = true) : SortedK s := by
  intro i j hij hj
  have := List.pairwise_iff_getElem.1 (fitFrom_all _ _ h).2 i j (by rw [toL_length]; omega) (by rw [toL_length]; exact hj) hij
  rwa [toL_getE s (by omega), toL_getE s hj] at this
/-- The first that is not ahead. -/
structure IsFirst (s : Keys) (v : Key) (p : Nat) : Prop where
  le : p ≤ s.n
  lo : ∀ i, i < p → ltK (s.g i) v = true
  hi : p < s.n → ltK (s.g p) v = false
theorem first_behind {s : Keys} {v : Key} {p : Nat} (hs : SortedK s) (h : IsFirst s v p) {i : Nat} (hi : p < i) (hn : i < s.n) : ltK v (s.g i) = true := by
  have h1 := h.hi (by omega)
  have h2 := hs p i hi hn
  have h3 : ¬ (ltK (s.g p) v = true) := by rw [h1]; simp
  rw [ltK_iff] at h2 h3 ⊢
  omega
theorem first_at {s : Keys} {v : Key} {p : Nat} (h : IsFirst s v p) (hn : p < s.n) : ltK v (s.g p) = !(sameK (s.g p) v) := by
  have h1 := h.hi hn
  have h3 : ¬ (ltK (s.g p) v = true) := by rw [h1]; simp
  rw [Bool.eq_iff_iff, Bool.not_eq_true', ← Bool.not_eq_true, sameK_iff]
  rw [ltK_iff] at h3 ⊢
  omega
theorem putL_first {s : Keys} {v : Key} {p : Nat} (hs : SortedK s) (h : IsFirst s v p) :
    putL (toL s) v = (toL s).take p ++ v :: (toL s).drop (if p < s.n ∧ sameK (s.g p) v = true then p + 1 else p) := by
  have hle := h.le
  have ht : ∀ x ∈ (toL s).take p, ltK x v = true := by
    intro x hx
    obtain ⟨i, hi, rfl⟩ := List.getElem_of_mem hx
    simp only [List.length_take, toL_length] at hi
    rw [List.getElem_take, toL_getE s (by omega)]
    exact h.lo i (by omega)
  have hd : ∀ q, p < q → ∀ x ∈ (toL s).drop q, ltK v x = true := by
    intro q hq x hx
    obtain ⟨i, hi, rfl⟩ := List.getElem_of_mem hx
    simp only [List.length_drop, toL_length] at hi
    rw [List.getElem_drop, toL_getE s (by omega)]
    exact first_behind hs h (by omega) (by omega)
  have nlt : ∀ {a b : Key}, ltK a b = true → ltK b a = false := by
    intro a b hab
    cases hb : ltK b a with
    | false => rfl
    | true => rw [ltK_iff] at hab hb; omega
  have hsplit : toL s = (toL s).take p ++ (toL s).drop p := (List.take_append_drop p _).symm
  have f1 : ((toL s).take p).filter (fun y => ltK y v) = (toL s).take p := List.filter_eq_self.2 ht
  have f2 : ((toL s).take p).filter (fun y => ltK v y) = [] := List.filter_eq_nil_iff.2 fun x hx => by rw [nlt (ht x hx)]; simp
  unfold putL
  have goal : ∀ (d : List Key), (toL s).drop p = d → d.filter (fun y => ltK y v) = [] → putL (toL s) v = (toL s).take p ++ v :: d.filter (fun y => ltK v y) := by
    intro d hd1 hd2
    unfold putL
    conv => lhs; rw [hsplit]
    rw [List.filter_append, List.filter_append, f1, f2, hd1, hd2]
    simp
  by_cases hp : p < s.n
  · have hdr : (toL s).drop p = s.g p :: (toL s).drop (p + 1) := toL_drop s hp
    have g1 : ((toL s).drop (p + 1)).filter (fun y => ltK y v) = [] := List.filter_eq_nil_iff.2 fun x hx => by rw [nlt (hd (p + 1) (by omega) x hx)]; simp
    have g2 : ((toL s).drop (p + 1)).filter (fun y => ltK v y) = (toL s).drop (p + 1) := List.filter_eq_self.2 (hd (p + 1) (by omega))
    have := goal _ hdr (by rw [List.filter_cons, h.hi hp, g1]; simp)
    unfold putL at this
    rw [this, List.filter_cons, first_at h hp, g2]
    cases hsame : sameK (s.g p) v with
    | true => simp [hp]
    | false => simp [hdr]
  · have hdr : (toL s).drop p = [] := toL_end s (by omega)
    have := goal _ hdr rfl
    unfold putL at this
    rw [this]
    simp [hp, hdr]
theorem bsearch_loop (k0 : Keys → Int → Int → Key → Option α) (s : Keys) (v : Key) (hs : SortedK s) (hn : s.n ≤ 900) : ∀ (m i j N : Nat), j - i ≤ m → i ≤ j → j ≤ s.n → m < N → (∀ a, a < i → ltK (s.g a) v = true) → (∀ a, j ≤ a → a < s.n → ltK (s.g a) v = false) →
    ∃ p, IsFirst s v p ∧ slices_BinarySearchFunc_api_Key_api_Key_api_Key_l0_run keyed_rank k0 N s (s.n : Int) (i : Int) (j : Int) v = k0 s (s.n : Int) (p : Int) v := by
  intro m
  induction m with
  | zero =>
    intro i j N hm hij hj hN hlo hhi
    obtain ⟨N, rfl⟩ : ∃ M, N = M + 1 := ⟨N - 1, by omega⟩
    have : ¬ ((i : Int) < (j : Int)) := by omega
    refine ⟨i, ⟨by omega, hlo, fun h => hhi i (by omega) h⟩, ?_⟩
    simp only [slices_BinarySearchFunc_api_Key_api_Key_api_Key_l0_run, slices_BinarySearchFunc_api_Key_api_Key_api_Key_l0_step, ltF this, cond_false]
  | succ m ih =>
    intro i j N hm hij hj hN hlo hhi
    obtain ⟨N, rfl⟩ : ∃ M, N = M + 1 := ⟨N - 1, by omega⟩
    by_cases h : i < j
    · have h1 : (i : Int) < (j : Int) := by omega
      have hw := wrap_half (i := i) (j := j) (by omega)
      have h2 : (((i + j) / 2 : Nat) : Int) < (s.n : Int) := by omega
      have hw2 : IntKind.i64.wrap ((((i + j) / 2 : Nat) : Int) + 1) = (((i + j) / 2 + 1 : Nat) : Int) := wrap_succ (by omega)
      simp only [slices_BinarySearchFunc_api_Key_api_Key_api_Key_l0_run, slices_BinarySearchFunc_api_Key_api_Key_api_Key_l0_step, ltT h1, hw, nn, ltT h2, Bool.and_self, cond_true, toNatC, rank_is, rank_neg, hw2]
      cases hc : ltK (s.g ((i + j) / 2)) v with
      | true =>
        refine ih ((i + j) / 2 + 1) j N (by omega) (by omega) hj (by omega) (fun a ha => ?_) hhi
        by_cases he : a = (i + j) / 2
        · rw [he]; exact hc
        · exact ltK_trans (hs a ((i + j) / 2) (by omega) (by omega)) hc
      | false =>
        refine ih i ((i + j) / 2) N (by omega) (by omega) (by omega) (by omega) hlo (fun a ha hn' => ?_)
        by_cases he : a = (i + j) / 2
        · rw [he]; exact hc
        · cases hh : ltK (s.g a) v with
          | false => rfl
          | true =>
            have := ltK_trans (hs ((i + j) / 2) a (by omega) hn') hh
            rw [hc] at this; cases this
    · have : ¬ ((i : Int) < (j : Int)) := by omega
      refine ⟨i, ⟨by omega, hlo, fun h' => hhi i (by omega) h'⟩, ?_⟩
      simp only [slices_BinarySearchFunc_api_Key_api_Key_api_Key_l0_run, slices_BinarySearchFunc_api_Key_api_Key_api_Key_l0_step, ltF this, cond_false]
theorem first_unique {s : Keys} {v : Key} {p q : Nat} (h : IsFirst s v p) (h' : IsFirst s v q) : p = q := by
  rcases Nat.lt_trichotomy p q with hlt | he | hgt
  · have := h'.lo p hlt; rw [h.hi (by have := h'.le; omega)] at this; cases this
  · exact he
  · have := h.lo q hgt; rw [h'.hi (by have := h.le; omega)] at this; cases this
theorem exists_first (s : Keys) (v : Key) (hs : SortedK s) (hn : s.n ≤ 900) : ∃ p, IsFirst s v p := by
  obtain ⟨p, hp, _⟩ := bsearch_loop (α := Unit) (fun _ _ _ _ => none) s v hs hn s.n 0 s.n 1000 (by omega) (by omega) (by omega) (by omega) (fun a h => by omega) (fun a h1 h2 => by omega)
  exact ⟨p, hp⟩
theorem bsearch_is (s : Keys) (v : Key) (hs : SortedK s) (hn : s.n ≤ 900) {p : Nat} (hp : IsFirst s v p) (k : Int → Bool → Option α) :
    slices_BinarySearchFunc_api_Key_api_Key_api_Key s v k = k (p : Int) (decide (p < s.n ∧ sameK (s.g p) v = true)) := by
  obtain ⟨q, hq, h⟩ := bsearch_loop (fun x9 x10 x11 x12 =>
      (cond (decide (x11 < x10))
        (cond ((decide ((0 : Int) ≤ x11)) && (decide (x11 < (x9.n : Int))))
          (keyed_rank (x9.g x11.toNat) x12 fun r13 =>
            (k x11 (r13 == 0)))
          none)
        (k x11 false))) s v hs hn s.n 0 s.n 1000 (by omega) (by omega) (by omega) (by omega) (fun a h => by omega) (fun a h1 h2 => by omega)
  obtain rfl := first_unique hp hq
  refine (h : slices_BinarySearchFunc_api_Key_api_Key_api_Key s v k = _).trans ?_
  by_cases h1 : p < s.n
  · have h2 : (p : Int) < (s.n : Int) := by omega
    simp only [ltT h2, nn, Bool.and_self, cond_true, toNatC, rank_is, rank_eq, h1, true_and]
    cases sameK (s.g p) v <;> rfl
  · have h2 : ¬ ((p : Int) < (s.n : Int)) := by omega
    simp only [ltF h2, cond_false, h1, false_and, decide_false]
def tot (l : List (Keys × Unit)) : Nat := (l.map (·.1.n)).sum
def flat (l : List (Keys × Unit)) : List Key := l.flatMap fun x => toL x.1
def Nil0 (s : Keys) : Prop := s.nl = true → s.n = 0
theorem concat_sum (k0 : Seq (Keys × Unit) → Int → Keys → Option α) (a : Seq (Keys × Unit)) (q : Keys) (hn : a.n < 4611686018427387904) : ∀ (m j N : Nat) (z : Nat), j + m = a.n → m < N → z + tot ((toL a).drop j) < 4611686018427387904 →
    slices_Concat_api_Key_api_Key_l0_run k0 N a (z : Int) a (a.n : Int) (j : Int) q = k0 a ((z + tot ((toL a).drop j) : Nat) : Int) q := by
  intro m
  induction m with
  | zero =>
    intro j N z hj hN hz
    obtain ⟨N, rfl⟩ : ∃ M, N = M + 1 := ⟨N - 1, by omega⟩
    have : ¬ ((j : Int) < (a.n : Int)) := by omega
    simp only [slices_Concat_api_Key_api_Key_l0_run, slices_Concat_api_Key_api_Key_l0_step, ltF this, cond_false, toL_end a (show a.n ≤ j by omega), tot, List.map_nil, List.sum_nil, Nat.add_zero]
  | succ m ih =>
    intro j N z hj hN hz
    obtain ⟨N, rfl⟩ : ∃ M, N = M + 1 := ⟨N - 1, by omega⟩
    have h1 : (j : Int) < (a.n : Int) := by omega
    rw [toL_drop a (show j < a.n by omega)] at hz ⊢
    simp only [tot, List.map_cons, List.sum_cons] at hz ⊢
    have hw : IntKind.i64.wrap ((z : Int) + (((a.g j).1.n : Nat) : Int)) = ((z + (a.g j).1.n : Nat) : Int) := by
      rw [wrap64 (by omega) (by omega)]; omega
    have hneg : ¬ (((z + (a.g j).1.n : Nat) : Int) < 0) := by omega
    simp only [slices_Concat_api_Key_api_Key_l0_run, slices_Concat_api_Key_api_Key_l0_step, ltT h1, nn, Bool.and_self, cond_true, toNatC, hw, ltF hneg, cond_false, wrap_succ (show j < 9223372036854775807 by omega)]
    rw [ih (j + 1) N _ (by omega) (by omega) (by simp only [tot]; omega)]
    simp only [tot, Nat.add_assoc]
def app1 (q : Keys) (x : Keys × Unit) : Keys := ⟨(q.nl && (Nat.beq x.1.n 0)), (q.n + x.1.n), (tApp q.n q.g x.1.g)⟩
theorem app1_toL (q : Keys) (x : Keys × Unit) : toL (app1 q x) = toL q ++ toL x.1 := by
  exact toL_app _ q.nl x.1.nl q.n x.1.n q.g x.1.g
theorem app1_ntoL {q : Keys} (hq : Nil0 q) (x : Keys × Unit) : Nil0 (app1 q x) := fun h => by
  simp only [app1, Bool.and_eq_true, Nat.beq_eq] at h
  have := hq h.1
  simp only [app1]
  omega
theorem foldl_toL : ∀ (l : List (Keys × Unit)) (q : Keys), toL (l.foldl app1 q) = toL q ++ flat l
  | [], q => by simp [flat]
  | x :: l, q => by simp only [List.foldl_cons, foldl_toL l, app1_toL, flat, List.flatMap_cons, List.append_assoc]
theorem foldl_ntoL : ∀ (l : List (Keys × Unit)) (q : Keys), Nil0 q → Nil0 (l.foldl app1 q)
  | [], q, h => h
  | x :: l, q, h => foldl_ntoL l _ (app1_ntoL h x)
theorem concat_put (k2 : Keys → Keys → Keys → Option α) (a : Seq (Keys × Unit)) (q4 q5 : Keys) (hn : a.n < 4611686018427387904) : ∀ (m j N : Nat) (q : Keys), j + m = a.n → m < N → q.n + tot ((toL a).drop j) ≤ 1000000 →
    slices_Concat_api_Key_api_Key_l1_run k2 N a (a.n : Int) (j : Int) q4 q5 q = k2 q4 q5 (((toL a).drop j).foldl app1 q) := by
  intro m
  induction m with
  | zero =>
    intro j N q hj hN hz
    obtain ⟨N, rfl⟩ : ∃ M, N = M + 1 := ⟨N - 1, by omega⟩
    have : ¬ ((j : Int) < (a.n : Int)) := by omega
    simp only [slices_Concat_api_Key_api_Key_l1_run, slices_Concat_api_Key_api_Key_l1_step, ltF this, cond_false, toL_end a (show a.n ≤ j by omega), List.foldl_nil]
  | succ m ih =>
    intro j N q hj hN hz
    obtain ⟨N, rfl⟩ : ∃ M, N = M + 1 := ⟨N - 1, by omega⟩
    have h1 : (j : Int) < (a.n : Int) := by omega
    rw [toL_drop a (show j < a.n by omega)] at hz ⊢
    simp only [tot, List.map_cons, List.sum_cons] at hz
    have hle : decide (((q.n + (a.g j).1.n)) * 48 ≤ 140737488355328) = true := decide_eq_true (by omega)
    simp only [slices_Concat_api_Key_api_Key_l1_run, slices_Concat_api_Key_api_Key_l1_step, ltT h1, nn, Bool.and_self, cond_true, toNatC, hle, wrap_succ (show j < 9223372036854775807 by omega), List.foldl_cons]
    exact ih (j + 1) N (app1 q (a.g j)) (by omega) (by omega) (by simp only [app1, tot]; omega)
theorem concat_is (a : Seq (Keys × Unit)) (hn : a.n ≤ 900) (ht : tot (toL a) ≤ 1000000) : ∃ r, (∀ k : Keys → Option α, slices_Concat_api_Key_api_Key a k = k r) ∧ toL r = flat (toL a) ∧ Nil0 r := by
  have h3 : ¬ (((0 + tot (toL a) : Nat) : Int) < 0) := by omega
  have hw : IntKind.i64.wrap (((0 + tot (toL a) : Nat) : Int) - 0) = ((tot (toL a) : Nat) : Int) := by
    rw [wrap64 (by omega) (by omega)]; omega
  have hsum : ∀ (k0 : Seq (Keys × Unit) → Int → Keys → Option α) q, slices_Concat_api_Key_api_Key_l0_run k0 1000 a 0 a (a.n : Int) 0 q = k0 a ((0 + tot (toL a) : Nat) : Int) q := by
    intro k0 q
    have := concat_sum k0 a q (by omega) a.n 0 1000 0 (by omega) (by omega) (by simp; omega)
    simpa using this
  have hput : ∀ (k2 : Keys → Keys → Keys → Option α) q4 q5 (q : Keys), q.n = 0 → slices_Concat_api_Key_api_Key_l1_run k2 1000 a (a.n : Int) 0 q4 q5 q = k2 q4 q5 ((toL a).foldl app1 q) := by
    intro k2 q4 q5 q hq
    have := concat_put k2 a q4 q5 (by omega) a.n 0 1000 q (by omega) (by omega) (by simp; omega)
    simpa using this
  by_cases hz : ((tot (toL a) : Nat) : Int) > 0
  · refine ⟨(toL a).foldl app1 ⟨(Nat.beq (((tot (toL a) : Nat) : Int)).toNat 0), 0, (tApp 0 (fun _ => zK) (fun _ => zK))⟩, fun k => ?_, by rw [foldl_toL]; rfl, foldl_ntoL _ _ fun _ => rfl⟩
    unfold slices_Concat_api_Key_api_Key
    rw [hsum]
    have e1 : decide (((tot (toL a) : Nat) : Int) * 48 ≤ 140737488355328) = true := decide_eq_true (by omega)
    have e2 : decide ((0 + ((tot (toL a) : Nat) : Int).toNat) * 48 ≤ 140737488355328) = true := decide_eq_true (by omega)
    have e3 : decide ((0 : Int) ≤ (((0 + ((tot (toL a) : Nat) : Int).toNat) : Nat) : Int)) = true := decide_eq_true (by omega)
    simp only [ltF h3, cond_false, hw, decide_eq_true hz, cond_true, nn, e1, e2, e3, Bool.and_self]
    exact hput _ _ _ _ rfl
  · refine ⟨(toL a).foldl app1 ⟨true, 0, (fun _ => zK)⟩, fun k => ?_, by rw [foldl_toL]; rfl, foldl_ntoL _ _ fun _ => rfl⟩
    unfold slices_Concat_api_Key_api_Key
    rw [hsum]
    simp only [ltF h3, cond_false, hw, decide_eq_false hz]
    exact hput _ _ _ _ rfl


theorem put_is (s : Keys) (v : Key) (hf : fitK s = true) (hn : s.n ≤ 800) : ∃ r : Keys, (∀ k : Keys → Option α, keyed_put_api_Key s v k = k r) ∧ toL r = putL (toL s) v ∧ Nil0 r := by
  have hs := sorted_of hf
  obtain ⟨p, hp⟩ := exists_first s v hs (by omega)
  have hle := hp.le
  rw [putL_first hs hp]
  have e1 : decide ((p : Int) ≤ (s.n : Int)) = true := decide_eq_true (by omega)
  have conc : ∀ q : Nat, q ≤ s.n → ∃ r : Keys, (∀ k : Keys → Option α, slices_Concat_api_Key_api_Key (⟨false, 3, (tSel [((⟨s.nl, p, s.g⟩ : Keys), ()), ((⟨false, 1, (fun _ => v)⟩ : Keys), ()), ((⟨s.nl, (s.n - q), (tShift q s.g)⟩ : Keys), ())] ((⟨true, 0, fun _ => zK⟩ : Keys), ()))⟩ : Seq (Keys × Unit)) k = k r) ∧ toL r = (toL s).take p ++ v :: (toL s).drop q ∧ Nil0 r := by
    intro q hq
    obtain ⟨c, hc1, hc2, hc3⟩ := concat_is (α := α) (⟨false, 3, (tSel [((⟨s.nl, p, s.g⟩ : Keys), ()), ((⟨false, 1, (fun _ => v)⟩ : Keys), ()), ((⟨s.nl, (s.n - q), (tShift q s.g)⟩ : Keys), ())] ((⟨true, 0, fun _ => zK⟩ : Keys), ()))⟩ : Seq (Keys × Unit)) (by show (3 : Nat) ≤ 900; omega) (by
      show tot [((⟨s.nl, p, s.g⟩ : Keys), ()), ((⟨false, 1, (fun _ => v)⟩ : Keys), ()), ((⟨s.nl, (s.n - q), (tShift q s.g)⟩ : Keys), ())] ≤ 1000000
      simp only [tot, List.map_cons, List.map_nil, List.sum_cons, List.sum_nil]; omega)
    refine ⟨c, hc1, ?_, hc3⟩
    rw [hc2]
    show flat [((⟨s.nl, p, s.g⟩ : Keys), ()), ((⟨false, 1, (fun _ => v)⟩ : Keys), ()), ((⟨s.nl, (s.n - q), (tShift q s.g)⟩ : Keys), ())] = _
    simp only [flat, List.flatMap_cons, List.flatMap_nil, List.append_nil]
    rw [toL_take s.nl s.nl s.n p s.g hle, toL_shift s.nl s.nl s.n q s.g, toL_one]
    rfl
  by_cases h : p < s.n ∧ sameK (s.g p) v = true
  · obtain ⟨r, h1, h2, h3⟩ := conc (p + 1) (by omega)
    refine ⟨r, fun k => ?_, by rw [if_pos h]; exact h2, h3⟩
    have hw : IntKind.i64.wrap ((p : Int) + 1) = ((p + 1 : Nat) : Int) := wrap_succ (by omega)
    have e2 : decide (((p + 1 : Nat) : Int) ≤ (s.n : Int)) = true := decide_eq_true (by omega)
    simp only [keyed_put_api_Key, keyed_put_api_Key_g, bsearch_is s v hs (by omega) hp, decide_eq_true h, cond_true, hw, nn, e1, e2, Bool.and_self, toNatC]
    exact h1 k
  · obtain ⟨r, h1, h2, h3⟩ := conc p (by omega)
    refine ⟨r, fun k => ?_, by rw [if_neg h]; exact h2, h3⟩
    simp only [keyed_put_api_Key, keyed_put_api_Key_g, bsearch_is s v hs (by omega) hp, decide_eq_false h, cond_false, cond_true, nn, e1, Bool.and_self, toNatC]
    exact h1 k

def afterP (s : Keys) (v : Key) (p : Nat) : Nat := if p < s.n ∧ sameK (s.g p) v = true then p + 1 else p
theorem refWith_loop (s : Keys) (v : Key) (p : Nat) (hs : SortedK s) (hp : IsFirst s v p) (hn : s.n ≤ 800) (q7 : Keys) : ∀ (d j N : Nat) (q : Keys) (done : Bool), j + d = s.n → d < N → q.n ≤ j + 1 → done = decide (p < j) →
    toL q = (if p < j then (toL s).take p ++ v :: ((toL s).take j).drop (afterP s v p) else (toL s).take j) →
    ∃ r : Keys, (∀ k0 : Bool → Key → Keys → Keys → Option α, draymanref31_with_l0_run draymanref31_ahead k0 N s done (j : Int) v q7 q = k0 (decide (p < s.n)) v q7 r) ∧
      r.n ≤ s.n + 1 ∧ toL r = (if p < s.n then (toL s).take p ++ v :: (toL s).drop (afterP s v p) else toL s) := by
  intro d
  induction d with
  | zero =>
    intro j N q done hj hN hq hd hl
    obtain ⟨N, rfl⟩ : ∃ M, N = M + 1 := ⟨N - 1, by omega⟩
    obtain rfl : j = s.n := by omega
    have h3 : ¬ ((s.n : Int) < (s.n : Int)) := by omega
    refine ⟨q, fun k0 => by simp only [draymanref31_with_l0_run, draymanref31_with_l0_step, ltF h3, cond_false, hd], hq, ?_⟩
    have ht : (toL s).take s.n = toL s := List.take_of_length_le (by rw [toL_length]; omega)
    rw [hl, ht]
  | succ d ih =>
    intro j N q done hj hN hq hd hl
    obtain ⟨N, rfl⟩ : ∃ M, N = M + 1 := ⟨N - 1, by omega⟩
    have h3 : (j : Int) < (s.n : Int) := by omega
    have hlen : j < (toL s).length := by rw [toL_length]; omega
    have htk : (toL s).take (j + 1) = (toL s).take j ++ [s.g j] := by rw [List.take_succ_eq_append_getElem hlen, toL_getE s (by omega)]
    have sz1 : decide (((q.n + 1)) * 48 ≤ 140737488355328) = true := decide_eq_true (by omega)
    have sz2 : decide ((((q.n + 1) + 1)) * 48 ≤ 140737488355328) = true := decide_eq_true (by omega)
    have hap : ∀ nl (y : Key), toL (⟨nl, (q.n + 1), (tApp q.n q.g (fun _ => y))⟩ : Keys) = toL q ++ [y] := fun nl y => by
      rw [toL_app nl q.nl false, toL_one]
    rcases Nat.lt_trichotomy j p with hlt | he | hgt
    · have a1 := hp.lo j hlt
      have hd0 : done = false := by rw [hd]; exact decide_eq_false (by omega)
      subst hd0
      rw [if_neg (by omega)] at hl
      obtain ⟨r, h5, h6⟩ := ih (j + 1) N (⟨(q.nl && false), (q.n + 1), (tApp q.n q.g (fun _ => (s.g j)))⟩ : Keys) false (by omega) (by omega) (by simp only; omega) (decide_eq_false (by omega)).symm (by
        rw [if_neg (by omega), hap, hl, htk])
      refine ⟨r, fun k0 => ?_, h6⟩
      simp only [draymanref31_with_l0_run, draymanref31_with_l0_step, ltT h3, nn, Bool.and_self, toNatC, cond_true, wrap_succ (show j < 9223372036854775807 by omega), ahead_is, a1, Bool.not_true, Bool.not_false, cond_false, sz1]
      exact h5 k0
    · subst he
      have a1 := hp.hi (by omega)
      have a2 := first_at hp (by omega)
      have hd0 : done = false := by rw [hd]; exact decide_eq_false (by omega)
      subst hd0
      rw [if_neg (by omega)] at hl
      cases hsame : sameK (s.g j) v with
      | true =>
        have haf : afterP s v j = j + 1 := by unfold afterP; rw [if_pos ⟨by omega, hsame⟩]
        rw [hsame] at a2
        obtain ⟨r, h5, h6⟩ := ih (j + 1) N (⟨(q.nl && false), (q.n + 1), (tApp q.n q.g (fun _ => v))⟩ : Keys) true (by omega) (by omega) (by simp only; omega) (decide_eq_true (by omega)).symm (by
          rw [if_pos (by omega), hap, hl, haf, List.drop_of_length_le (by simp [toL_length]; omega)])
        refine ⟨r, fun k0 => ?_, h6⟩
        simp only [draymanref31_with_l0_run, draymanref31_with_l0_step, ltT h3, nn, Bool.and_self, toNatC, cond_true, wrap_succ (show j < 9223372036854775807 by omega), ahead_is, a1, a2, Bool.not_true, Bool.not_false, cond_false, sz1, sz2]
        exact h5 k0
      | false =>
        have haf : afterP s v j = j := by unfold afterP; rw [if_neg (by rw [hsame]; simp)]
        have hqn : q.n = j := by
          have := congrArg List.length hl
          rw [toL_length, List.length_take, toL_length] at this
          omega
        rw [hsame] at a2
        obtain ⟨r, h5, h6⟩ := ih (j + 1) N (⟨((q.nl && false) && false), ((q.n + 1) + 1), (tApp (q.n + 1) (tApp q.n q.g (fun _ => v)) (fun _ => (s.g j)))⟩ : Keys) true (by omega) (by omega) (by simp only; omega) (decide_eq_true (by omega)).symm (by
          have e5 : ((toL s).take j ++ [s.g j]).drop j = [s.g j] := List.drop_left' (by rw [List.length_take, toL_length]; omega)
          rw [if_pos (by omega), toL_app _ false false, toL_one, hap, hl, haf, htk, e5]
          simp)
        refine ⟨r, fun k0 => ?_, h6⟩
        simp only [draymanref31_with_l0_run, draymanref31_with_l0_step, ltT h3, nn, Bool.and_self, toNatC, cond_true, wrap_succ (show j < 9223372036854775807 by omega), ahead_is, a1, a2, Bool.not_true, Bool.not_false, cond_false, sz1, sz2]
        exact h5 k0
    · have a1 := first_behind hs hp hgt (by omega)
      have a2 : ltK (s.g j) v = false := by
        cases hb : ltK (s.g j) v with
        | false => rfl
        | true => rw [ltK_iff] at a1 hb; omega
      have hd0 : done = true := by rw [hd]; exact decide_eq_true (by omega)
      subst hd0
      rw [if_pos (by omega)] at hl
      have haf : afterP s v p ≤ p + 1 := by unfold afterP; split <;> omega
      obtain ⟨r, h5, h6⟩ := ih (j + 1) N (⟨(q.nl && false), (q.n + 1), (tApp q.n q.g (fun _ => (s.g j)))⟩ : Keys) true (by omega) (by omega) (by simp only; omega) (decide_eq_true (by omega)).symm (by
        have e6 : ((toL s).take j ++ [s.g j]).drop (afterP s v p) = ((toL s).take j).drop (afterP s v p) ++ [s.g j] := List.drop_append_of_le_length (by rw [List.length_take, toL_length]; omega)
        rw [if_pos (by omega), hap, hl, htk, e6]
        simp)
      refine ⟨r, fun k0 => ?_, h6⟩
      simp only [draymanref31_with_l0_run, draymanref31_with_l0_step, ltT h3, nn, Bool.and_self, toNatC, cond_true, wrap_succ (show j < 9223372036854775807 by omega), ahead_is, a1, a2, Bool.not_true, Bool.not_false, cond_false, sz1]
      exact h5 k0
theorem refWith_is (s : Keys) (v : Key) (hf : fitK s = true) (hn : s.n ≤ 800) : ∃ r : Keys, (∀ k : Keys → Option α, draymanref31_with s v k = k r) ∧ toL r = putL (toL s) v := by
  have hs := sorted_of hf
  obtain ⟨p, hp⟩ := exists_first s v hs (by omega)
  rw [putL_first hs hp]
  obtain ⟨r, h1, h2, h3⟩ := refWith_loop (α := α) s v p hs hp hn (⟨true, 0, (fun _ => zK)⟩ : Keys) s.n 0 1000 (⟨true, 0, (fun _ => zK)⟩ : Keys) false (by omega) (by omega) (by simp) (decide_eq_false (by omega)).symm (by rw [if_neg (by omega)]; rfl)
  by_cases h : p < s.n
  · rw [if_pos h] at h3
    refine ⟨r, fun k => ?_, h3⟩
    refine (h1 (fun x16 x17 q18 q19 =>
      (cond (!x16)
        (cond (decide (((q19.n + 1)) * 48 ≤ 140737488355328))
          (k (⟨(q19.nl && false), (q19.n + 1), (tApp q19.n q19.g (fun _ => x17))⟩ : Keys))
          none)
        (k q19))) : draymanref31_with s v k = _).trans ?_
    simp only [decide_eq_true h, Bool.not_true, cond_false]
  · rw [if_neg h] at h3
    have hle := hp.le
    obtain rfl : p = s.n := by omega
    refine ⟨(⟨(r.nl && false), (r.n + 1), (tApp r.n r.g (fun _ => v))⟩ : Keys), fun k => ?_, ?_⟩
    · refine (h1 (fun x16 x17 q18 q19 =>
      (cond (!x16)
        (cond (decide (((q19.n + 1)) * 48 ≤ 140737488355328))
          (k (⟨(q19.nl && false), (q19.n + 1), (tApp q19.n q19.g (fun _ => x17))⟩ : Keys))
          none)
        (k q19))) : draymanref31_with s v k = _).trans ?_
      have sz1 : decide (((r.n + 1)) * 48 ≤ 140737488355328) = true := decide_eq_true (by omega)
      simp only [decide_eq_false h, Bool.not_false, cond_true, sz1]
    · rw [toL_app _ r.nl false, toL_one]
      show toL r ++ _ = _
      rw [h3, if_neg (by omega), toL_end s (Nat.le_refl _), List.take_of_length_le (by rw [toL_length]; omega)]

/-! ### What comes of a request -/
theorem clone_is (s : Keys) (hs : Nil0 s) (hn : s.n ≤ 1000000) : ∃ r : Keys, (∀ k : Keys → Option α, slices_Clone_api_Key_api_Key s k = k r) ∧ toL r = toL s ∧ Nil0 r := by
  cases h : s.nl with
  | true =>
    refine ⟨⟨true, 0, (fun _ => zK)⟩, fun k => by simp only [slices_Clone_api_Key_api_Key, h, cond_true]; rfl, ?_, fun _ => rfl⟩
    have := hs h
    exact (List.length_eq_zero_iff.1 (by rw [toL_length, this])).symm
  | false =>
    refine ⟨⟨false, (0 + s.n), (tApp 0 (tSel [] zK) s.g)⟩, fun k => ?_, ?_, fun h => by cases h⟩
    · have e : decide (((0 + s.n)) * 48 ≤ 140737488355328) = true := decide_eq_true (by omega)
      simp only [slices_Clone_api_Key_api_Key, h, cond_false, e, cond_true]
      rfl
    · rw [toL_app false true s.nl 0 s.n]
      rfl
abbrev Come1 := Keys × Int × Int × Int × Int × Int × Int × Bool × Int × Bool × Unit
theorem marked2 (s : Keys) (a b m th bk num : Int) (is : Bool) (v : Int) (ag : Bool) (hf : fitK s = true) (hn : s.n ≤ 800) : ∃ r : Keys, (∀ k : Keys → Option α, keyed_come_marked (s, a, b, m, th, bk, num, is, v, ag, ()) 2 k = k r) ∧ toL r = putL (toL s) (a, b, 2, 1, bk, num, ()) ∧ Nil0 r := by
  obtain ⟨r, h1, h2⟩ := put_is (α := α) s (a, b, 2, 1, bk, num, ()) hf hn
  exact ⟨r, fun k => h1 k, h2⟩
theorem marked4 (s : Keys) (a b m th bk num : Int) (is : Bool) (v : Int) (ag : Bool) (hf : fitK s = true) (hn : s.n ≤ 800) : ∃ r : Keys, (∀ k : Keys → Option α, keyed_come_marked (s, a, b, m, th, bk, num, is, v, ag, ()) 4 k = k r) ∧ toL r = putL (toL s) (a, b, 4, th, 1, num, ()) ∧ Nil0 r := by
  obtain ⟨r, h1, h2⟩ := put_is (α := α) s (a, b, 4, th, 1, num, ()) hf hn
  exact ⟨r, fun k => h1 k, h2⟩
theorem marked3 (s : Keys) (a b m th bk num : Int) (is : Bool) (v : Int) (ag : Bool) (hf : fitK s = true) (hn : s.n ≤ 800) : ∃ r : Keys, (∀ k : Keys → Option α, keyed_come_marked (s, a, b, m, th, bk, num, is, v, ag, ()) 3 k = k r) ∧ toL r = putL (toL s) (a, b, 3, th, bk, num, ()) ∧ Nil0 r := by
  obtain ⟨r, h1, h2⟩ := put_is (α := α) s (a, b, 3, th, bk, num, ()) hf hn
  exact ⟨r, fun k => h1 k, h2⟩
theorem marked5 (s : Keys) (a b m th bk num : Int) (is : Bool) (v : Int) (ag : Bool) (hf : fitK s = true) (hn : s.n ≤ 800) : ∃ r : Keys, (∀ k : Keys → Option α, keyed_come_marked (s, a, b, m, th, bk, num, is, v, ag, ()) 5 k = k r) ∧ toL r = putL (toL s) (a, b, 5, th, bk, num, ()) ∧ Nil0 r := by
  obtain ⟨r, h1, h2⟩ := put_is (α := α) s (a, b, 5, th, bk, num, ()) hf hn
  exact ⟨r, fun k => h1 k, h2⟩
def backL (l : List Key) (a b m th bk num : Int) (is : Bool) (v : Int) : List Key × Int × Bool :=
  cond is (cond (m == 2) (cond (v == 1) (putL l (a, b, 4, th, 1, num, ()), 1, true) (l, 2, false)) (l, 1, false)) (cond (v == 1) (putL l (a, b, 3, th, bk, num, ()), 1, false) (l, 2, false))
def thereL' (l : List Key) (a b m th bk num : Int) (is : Bool) (v : Int) (ag : Bool) : List Key × Int × Bool :=
  cond is (cond (m == 2) (l, 1, false) (l, 3, false)) (cond (v == 1) (putL l (a, b, 2, 1, bk, num, ()), 1, true) (cond (v == 3) (cond ag (l, 2, false) (putL l (a, b, 5, th, bk, num, ()), 3, false)) (l, 2, false)))
theorem back_is (s : Keys) (h0 : Nil0 s) (a b m th bk num : Int) (is : Bool) (v : Int) (ag : Bool) (hf : fitK s = true) (hn : s.n ≤ 800) : ∃ r : Keys, (∀ k : Keys → Int → Bool → Option α, keyed_come_back (s, a, b, m, th, bk, num, is, v, ag, ()) k = k r (backL (toL s) a b m th bk num is v).2.1 (backL (toL s) a b m th bk num is v).2.2) ∧ toL r = (backL (toL s) a b m th bk num is v).1 ∧ Nil0 r := by
  unfold backL
  have hb : (v != 1) = !(v == 1) := rfl
  cases is with
  | true =>
    cases hm : (m == 2) with
    | false => exact ⟨s, fun k => by simp only [keyed_come_back, keyed_come_back_g, hm, cond_true, cond_false, Bool.not_false], rfl, h0⟩
    | true =>
      cases hv : (v == 1) with
      | false => exact ⟨s, fun k => by simp only [keyed_come_back, keyed_come_back_g, hm, hb, hv, cond_true, cond_false, Bool.not_true, Bool.not_false], rfl, h0⟩
      | true =>
        obtain ⟨r, h1, h2⟩ := marked4 (α := α) s a b m th bk num true v ag hf hn
        exact ⟨r, fun k => by simp only [keyed_come_back, keyed_come_back_g, hm, hb, hv, cond_true, cond_false, Bool.not_true, h1], h2⟩
  | false =>
    cases hv : (v == 1) with
    | false => exact ⟨s, fun k => by simp only [keyed_come_back, keyed_come_back_g, hb, hv, cond_true, cond_false, Bool.not_false], rfl, h0⟩
    | true =>
      obtain ⟨r, h1, h2⟩ := marked3 (α := α) s a b m th bk num false v ag hf hn
      exact ⟨r, fun k => by simp only [keyed_come_back, keyed_come_back_g, hb, hv, cond_true, cond_false, Bool.not_true, h1], h2⟩
theorem there_is (s : Keys) (h0 : Nil0 s) (a b m th bk num : Int) (is : Bool) (v : Int) (ag : Bool) (hf : fitK s = true) (hn : s.n ≤ 800) : ∃ r : Keys, (∀ k : Keys → Int → Bool → Option α, keyed_come_there (s, a, b, m, th, bk, num, is, v, ag, ()) k = k r (thereL' (toL s) a b m th bk num is v ag).2.1 (thereL' (toL s) a b m th bk num is v ag).2.2) ∧ toL r = (thereL' (toL s) a b m th bk num is v ag).1 ∧ Nil0 r := by
  unfold thereL'
  cases is with
  | true =>
    cases hm : (m == 2) with
    | false => exact ⟨s, fun k => by simp only [keyed_come_there, keyed_come_there_g, hm, cond_true, cond_false], rfl, h0⟩
    | true => exact ⟨s, fun k => by simp only [keyed_come_there, keyed_come_there_g, hm, cond_true, cond_false], rfl, h0⟩
  | false =>
    cases hv : (v == 1) with
    | true =>
      obtain ⟨r, h1, h2⟩ := marked2 (α := α) s a b m th bk num false v ag hf hn
      exact ⟨r, fun k => by simp only [keyed_come_there, keyed_come_there_g, hv, cond_true, cond_false, h1], h2⟩
    | false =>
      cases hv3 : (v == 3) with
      | false => exact ⟨s, fun k => by simp only [keyed_come_there, keyed_come_there_g, hv, hv3, cond_true, cond_false], rfl, h0⟩
      | true =>
        cases ag with
        | true => exact ⟨s, fun k => by simp only [keyed_come_there, keyed_come_there_g, hv, hv3, cond_true, cond_false, Bool.not_true], rfl, h0⟩
        | false =>
          obtain ⟨r, h1, h2⟩ := marked5 (α := α) s a b m th bk num false v false hf hn
          exact ⟨r, fun k => by simp only [keyed_come_there, keyed_come_there_g, hv, hv3, cond_true, cond_false, Bool.not_false, h1], h2⟩
/-- A request to keys that may be. -/
def comeF (l : List Key) (x : Ent) (v : Int) (y : Key) (is bk : Bool) : List Key × Int × Bool :=
  cond bk (cond is (backL l y.1 y.2.1 y.2.2.1 y.2.2.2.1 y.2.2.2.2.1 y.2.2.2.2.2.1 true v) (backL l x.2.1 x.2.2.1 0 0 0 x.2.2.2.2.2.1 false v))
    (cond is (thereL' l y.1 y.2.1 y.2.2.1 y.2.2.2.1 y.2.2.2.2.1 y.2.2.2.2.2.1 true v x.2.2.2.2.2.2.1) (thereL' l x.2.1 x.2.2.1 0 0 0 x.2.2.2.2.2.1 false v x.2.2.2.2.2.2.1))
def comeL (l : List Key) (x : Ent) (v : Int) : List Key × Int × Bool := comeF l x v (findK l x.2.1 x.2.2.1).1 (findK l x.2.1 x.2.2.1).2 x.2.2.2.1
def comeE (s : Keys) (x : Ent) (v : Int) : Int := cond (fitK s) (cond (oneB x) (cond (decide (v < 1)) 1 (cond (decide (v > 3)) 1 0)) 1) 12
def comeA (s : Keys) (x : Ent) (v : Int) : List Key × Int × Bool := cond (comeE s x v == 0) (comeL (toL s) x v) ([], 0, false)
theorem comeE_ok {s : Keys} {x : Ent} {v : Int} (h : comeE s x v = 0) : fitK s = true ∧ oneB x = true ∧ 1 ≤ v ∧ v ≤ 3 := by
  unfold comeE at h
  cases h1 : fitK s <;> cases h2 : oneB x <;> by_cases h3 : v < 1 <;> by_cases h4 : v > 3 <;> simp [h1, h2, h3, h4] at h
  exact ⟨rfl, rfl, by omega, by omega⟩
theorem come_is (s : Keys) (h0 : Nil0 s) (hn : s.n ≤ 700) (x : Ent) (v : Int) : ∃ r : Keys, (∀ k : Int → Bool → Int → Keys → Option α, keyed_Come s x v k = k (comeA s x v).2.1 (comeA s x v).2.2 (comeE s x v) r) ∧ toL r = (comeA s x v).1 ∧ Nil0 r := by
  have zn : Nil0 (⟨true, 0, (fun _ => zK)⟩ : Keys) := fun _ => rfl
  cases hf : fitK s with
  | false =>
    have he : comeE s x v = 12 := by simp [comeE, hf]
    exact ⟨⟨true, 0, (fun _ => zK)⟩, fun k => by simp only [keyed_Come, keyed_Come_g, keyedFit_is s (by omega), hf, Bool.not_false, cond_true, comeA, he]; rfl, by simp only [comeA, he]; rfl, zn⟩
  | true =>
  cases ho : oneB x with
  | false =>
    have he : comeE s x v = 1 := by simp [comeE, hf, ho]
    exact ⟨⟨true, 0, (fun _ => zK)⟩, fun k => by simp only [keyed_Come, keyed_Come_g, keyedFit_is s (by omega), hf, fit_one, ho, Bool.not_false, Bool.not_true, cond_true, cond_false, comeA, he]; rfl, by simp only [comeA, he]; rfl, zn⟩
  | true =>
  by_cases h1 : v < 1
  · have he : comeE s x v = 1 := by simp [comeE, hf, ho, h1]
    exact ⟨⟨true, 0, (fun _ => zK)⟩, fun k => by simp only [keyed_Come, keyed_Come_g, keyedFit_is s (by omega), hf, fit_one, ho, decide_eq_true h1, Bool.not_false, Bool.not_true, cond_true, cond_false, comeA, he]; rfl, by simp only [comeA, he]; rfl, zn⟩
  by_cases h2 : v > 3
  · have he : comeE s x v = 1 := by simp [comeE, hf, ho, h1, h2]
    exact ⟨⟨true, 0, (fun _ => zK)⟩, fun k => by simp only [keyed_Come, keyed_Come_g, keyedFit_is s (by omega), hf, fit_one, ho, decide_eq_false h1, decide_eq_true h2, Bool.not_false, Bool.not_true, cond_true, cond_false, comeA, he]; rfl, by simp only [comeA, he]; rfl, zn⟩
  have he : comeE s x v = 0 := by simp [comeE, hf, ho, h1, h2]
  have hA : comeA s x v = comeL (toL s) x v := by simp only [comeA, he]; rfl
  rw [hA, he]
  unfold comeL
  cases hfd : (findK (toL s) x.2.1 x.2.2.1).2 with
  | false =>
    cases hbk : x.2.2.2.1 with
    | true =>
      obtain ⟨r, g1, g2, g3⟩ := back_is (α := α) s h0 x.2.1 x.2.2.1 0 0 0 x.2.2.2.2.2.1 false v x.2.2.2.2.2.2.1 hf (by omega)
      have hrn : r.n ≤ 1000000 := by
        have := congrArg List.length g2
        rw [toL_length] at this
        have hl : (backL (toL s) x.2.1 x.2.2.1 0 0 0 x.2.2.2.2.2.1 false v).1.length ≤ 1401 := by
          unfold backL putL
          have b1 := List.length_filter_le (fun y => ltK y (x.2.1, x.2.2.1, 3, 0, 0, x.2.2.2.2.2.1, ())) (toL s)
          have b2 := List.length_filter_le (fun y => ltK (x.2.1, x.2.2.1, 3, 0, 0, x.2.2.2.2.2.1, ()) y) (toL s)
          rw [toL_length] at b1 b2
          cases (v == 1) <;> simp [toL_length] <;> omega
        omega
      obtain ⟨c, c1, c2, c3⟩ := clone_is (α := α) r g3 hrn
      refine ⟨c, fun k => ?_, by rw [c2, g2]; rfl, c3⟩
      simp only [keyed_Come, keyed_Come_g, keyedFit_is s (by omega), hf, fit_one, ho, decide_eq_false h1, decide_eq_false h2, find_is s (by omega), hfd, hbk, Bool.not_false, Bool.not_true, cond_true, cond_false, g1, c1, comeF]
    | false =>
      obtain ⟨r, g1, g2, g3⟩ := there_is (α := α) s h0 x.2.1 x.2.2.1 0 0 0 x.2.2.2.2.2.1 false v x.2.2.2.2.2.2.1 hf (by omega)
      have hrn : r.n ≤ 1000000 := by
        have := congrArg List.length g2
        rw [toL_length] at this
        have hl : (thereL' (toL s) x.2.1 x.2.2.1 0 0 0 x.2.2.2.2.2.1 false v x.2.2.2.2.2.2.1).1.length ≤ 1401 := by
          unfold thereL' putL
          have b1 := List.length_filter_le (fun y => ltK y (x.2.1, x.2.2.1, 2, 1, 0, x.2.2.2.2.2.1, ())) (toL s)
          have b2 := List.length_filter_le (fun y => ltK (x.2.1, x.2.2.1, 2, 1, 0, x.2.2.2.2.2.1, ()) y) (toL s)
          have b3 := List.length_filter_le (fun y => ltK y (x.2.1, x.2.2.1, 5, 0, 0, x.2.2.2.2.2.1, ())) (toL s)
          have b4 := List.length_filter_le (fun y => ltK (x.2.1, x.2.2.1, 5, 0, 0, x.2.2.2.2.2.1, ()) y) (toL s)
          rw [toL_length] at b1 b2 b3 b4
          cases (v == 1) <;> cases (v == 3) <;> cases x.2.2.2.2.2.2.1 <;> simp [toL_length] <;> omega
        omega
      obtain ⟨c, c1, c2, c3⟩ := clone_is (α := α) r g3 hrn
      refine ⟨c, fun k => ?_, by rw [c2, g2]; rfl, c3⟩
      simp only [keyed_Come, keyed_Come_g, keyedFit_is s (by omega), hf, fit_one, ho, decide_eq_false h1, decide_eq_false h2, find_is s (by omega), hfd, hbk, Bool.not_false, Bool.not_true, cond_true, cond_false, g1, c1, comeF]
  | true =>
    generalize hy : (findK (toL s) x.2.1 x.2.2.1).1 = y
    cases hbk : x.2.2.2.1 with
    | true =>
      obtain ⟨r, g1, g2, g3⟩ := back_is (α := α) s h0 y.1 y.2.1 y.2.2.1 y.2.2.2.1 y.2.2.2.2.1 y.2.2.2.2.2.1 true v x.2.2.2.2.2.2.1 hf (by omega)
      have hrn : r.n ≤ 1000000 := by
        have := congrArg List.length g2
        rw [toL_length] at this
        have hl : (backL (toL s) y.1 y.2.1 y.2.2.1 y.2.2.2.1 y.2.2.2.2.1 y.2.2.2.2.2.1 true v).1.length ≤ 1401 := by
          unfold backL putL
          have b1 := List.length_filter_le (fun z => ltK z (y.1, y.2.1, 4, y.2.2.2.1, 1, y.2.2.2.2.2.1, ())) (toL s)
          have b2 := List.length_filter_le (fun z => ltK (y.1, y.2.1, 4, y.2.2.2.1, 1, y.2.2.2.2.2.1, ()) z) (toL s)
          rw [toL_length] at b1 b2
          cases (y.2.2.1 == 2) <;> cases (v == 1) <;> simp [toL_length] <;> omega
        omega
      obtain ⟨c, c1, c2, c3⟩ := clone_is (α := α) r g3 hrn
      refine ⟨c, fun k => ?_, by rw [c2, g2]; rfl, c3⟩
      simp only [keyed_Come, keyed_Come_g, keyedFit_is s (by omega), hf, fit_one, ho, decide_eq_false h1, decide_eq_false h2, find_is s (by omega), hfd, hy, hbk, Bool.not_false, Bool.not_true, cond_true, cond_false, g1, c1, comeF]
    | false =>
      obtain ⟨r, g1, g2, g3⟩ := there_is (α := α) s h0 y.1 y.2.1 y.2.2.1 y.2.2.2.1 y.2.2.2.2.1 y.2.2.2.2.2.1 true v x.2.2.2.2.2.2.1 hf (by omega)
      have hrn : r.n ≤ 1000000 := by
        have := congrArg List.length g2
        rw [toL_length] at this
        have hl : (thereL' (toL s) y.1 y.2.1 y.2.2.1 y.2.2.2.1 y.2.2.2.2.1 y.2.2.2.2.2.1 true v x.2.2.2.2.2.2.1).1.length ≤ 1401 := by
          unfold thereL'
          cases (y.2.2.1 == 2) <;> simp [toL_length] <;> omega
        omega
      obtain ⟨c, c1, c2, c3⟩ := clone_is (α := α) r g3 hrn
      refine ⟨c, fun k => ?_, by rw [c2, g2]; rfl, c3⟩
      simp only [keyed_Come, keyed_Come_g, keyedFit_is s (by omega), hf, fit_one, ho, decide_eq_false h1, decide_eq_false h2, find_is s (by omega), hfd, hy, hbk, Bool.not_false, Bool.not_true, cond_true, cond_false, g1, c1, comeF]

theorem come_n (s : Keys) (x : Ent) (v : Int) (hn : s.n ≤ 700) : (comeA s x v).1.length ≤ 2 * s.n + 1 := by
  have hp : ∀ y : Key, (putL (toL s) y).length ≤ 2 * s.n + 1 := by
    intro y
    have b1 := List.length_filter_le (fun z => ltK z y) (toL s)
    have b2 := List.length_filter_le (fun z => ltK y z) (toL s)
    rw [toL_length] at b1 b2
    unfold putL
    rw [List.length_append, List.length_cons]
    omega
  have hL : (toL s).length ≤ 2 * s.n + 1 := by rw [toL_length]; omega
  have hB : ∀ a b m th bk num is, (backL (toL s) a b m th bk num is v).1.length ≤ 2 * s.n + 1 := by
    intro a b m th bk num is
    unfold backL
    cases is <;> cases (m == 2) <;> cases (v == 1) <;> first | exact hL | exact hp _
  have hT : ∀ a b m th bk num is ag, (thereL' (toL s) a b m th bk num is v ag).1.length ≤ 2 * s.n + 1 := by
    intro a b m th bk num is ag
    unfold thereL'
    cases is <;> cases (m == 2) <;> cases (v == 1) <;> cases (v == 3) <;> cases ag <;> first | exact hL | exact hp _
  unfold comeA
  cases (comeE s x v == 0) with
  | false => simp
  | true =>
    show (comeL (toL s) x v).1.length ≤ _
    unfold comeL comeF
    cases (findK (toL s) x.2.1 x.2.2.1).2 <;> cases x.2.2.2.1 <;> (simp only [cond_true, cond_false]; first | apply hB | apply hT)
theorem refBack_is (s : Keys) (y : Key) (is : Bool) (x : Ent) (v : Int) (hf : fitK s = true) (hn : s.n ≤ 800) : ∃ r : Keys, (∀ k : Keys → Int → Bool → Option α, draymanref31_back s y is x v k = k r (comeF (toL s) x v y is true).2.1 (comeF (toL s) x v y is true).2.2) ∧ toL r = (comeF (toL s) x v y is true).1 := by
  unfold comeF backL
  have hb : (v != 1) = !(v == 1) := rfl
  have hm2 : (y.2.2.1 != 2) = !(y.2.2.1 == 2) := rfl
  cases is with
  | true =>
    cases hm : (y.2.2.1 == 2) with
    | false => exact ⟨s, fun k => by simp only [draymanref31_back, draymanref31_back_g, hm2, hm, cond_true, cond_false, Bool.not_false], rfl⟩
    | true =>
      cases hv : (v == 1) with
      | false => exact ⟨s, fun k => by simp only [draymanref31_back, draymanref31_back_g, hm2, hm, hb, hv, cond_true, cond_false, Bool.not_true, Bool.not_false], rfl⟩
      | true =>
        obtain ⟨r, h1, h2⟩ := refWith_is (α := α) s (y.1, y.2.1, 4, y.2.2.2.1, 1, y.2.2.2.2.2.1, ()) hf hn
        exact ⟨r, fun k => by simp only [draymanref31_back, draymanref31_back_g, hm2, hm, hb, hv, cond_true, cond_false, Bool.not_true, h1], h2⟩
  | false =>
    cases hv : (v == 1) with
    | false => exact ⟨s, fun k => by simp only [draymanref31_back, draymanref31_back_g, hb, hv, cond_true, cond_false, Bool.not_false], rfl⟩
    | true =>
      obtain ⟨r, h1, h2⟩ := refWith_is (α := α) s (x.2.1, x.2.2.1, 3, 0, 0, x.2.2.2.2.2.1, ()) hf hn
      exact ⟨r, fun k => by simp only [draymanref31_back, draymanref31_back_g, hb, hv, cond_true, cond_false, Bool.not_true, h1], h2⟩
theorem refThere_is (s : Keys) (y : Key) (is : Bool) (x : Ent) (v : Int) (hf : fitK s = true) (hn : s.n ≤ 800) : ∃ r : Keys, (∀ k : Keys → Int → Bool → Option α, draymanref31_there s y is x v k = k r (comeF (toL s) x v y is false).2.1 (comeF (toL s) x v y is false).2.2) ∧ toL r = (comeF (toL s) x v y is false).1 := by
  unfold comeF thereL'
  cases is with
  | true =>
    cases hm : (y.2.2.1 == 2) with
    | false => exact ⟨s, fun k => by simp only [draymanref31_there, draymanref31_there_g, hm, cond_true, cond_false], rfl⟩
    | true => exact ⟨s, fun k => by simp only [draymanref31_there, draymanref31_there_g, hm, cond_true, cond_false], rfl⟩
  | false =>
    cases hv : (v == 1) with
    | true =>
      obtain ⟨r, h1, h2⟩ := refWith_is (α := α) s (x.2.1, x.2.2.1, 2, 1, 0, x.2.2.2.2.2.1, ()) hf hn
      exact ⟨r, fun k => by simp only [draymanref31_there, draymanref31_there_g, hv, cond_true, cond_false, h1], h2⟩
    | false =>
      cases hv3 : (v == 3) with
      | false => exact ⟨s, fun k => by simp only [draymanref31_there, draymanref31_there_g, hv, hv3, cond_true, cond_false], rfl⟩
      | true =>
        cases ha : x.2.2.2.2.2.2.1 with
        | true => exact ⟨s, fun k => by simp only [draymanref31_there, draymanref31_there_g, hv, hv3, ha, cond_true, cond_false, Bool.not_true], rfl⟩
        | false =>
          obtain ⟨r, h1, h2⟩ := refWith_is (α := α) s (x.2.1, x.2.2.1, 5, 0, 0, x.2.2.2.2.2.1, ()) hf hn
          exact ⟨r, fun k => by simp only [draymanref31_there, draymanref31_there_g, hv, hv3, ha, cond_true, cond_false, Bool.not_false, h1], h2⟩
theorem refCome_is (s : Keys) (hn : s.n ≤ 700) (x : Ent) (v : Int) : ∃ r : Keys, (∀ k : Keys → Int → Bool → Int → Option α, draymanref31_Come s x v k = k r (comeA s x v).2.1 (comeA s x v).2.2 (comeE s x v)) ∧ toL r = (comeA s x v).1 := by
  cases hf : fitK s with
  | false =>
    have he : comeE s x v = 12 := by simp [comeE, hf]
    exact ⟨⟨true, 0, (fun _ => zK)⟩, fun k => by simp only [draymanref31_Come, draymanref31_Come_g, refKeyedFit_is s (by omega), hf, Bool.not_false, cond_true, comeA, he]; rfl, by simp only [comeA, he]; rfl⟩
  | true =>
  cases ho : oneB x with
  | false =>
    have he : comeE s x v = 1 := by simp [comeE, hf, ho]
    exact ⟨⟨true, 0, (fun _ => zK)⟩, fun k => by simp only [draymanref31_Come, draymanref31_Come_g, refKeyedFit_is s (by omega), hf, refOne_is, ho, Bool.not_false, Bool.not_true, cond_true, cond_false, comeA, he]; rfl, by simp only [comeA, he]; rfl⟩
  | true =>
  by_cases h1 : v < 1
  · have he : comeE s x v = 1 := by simp [comeE, hf, ho, h1]
    exact ⟨⟨true, 0, (fun _ => zK)⟩, fun k => by simp only [draymanref31_Come, draymanref31_Come_g, refKeyedFit_is s (by omega), hf, refOne_is, ho, decide_eq_true h1, Bool.not_false, Bool.not_true, cond_true, cond_false, comeA, he]; rfl, by simp only [comeA, he]; rfl⟩
  by_cases h2 : v > 3
  · have he : comeE s x v = 1 := by simp [comeE, hf, ho, h1, h2]
    exact ⟨⟨true, 0, (fun _ => zK)⟩, fun k => by simp only [draymanref31_Come, draymanref31_Come_g, refKeyedFit_is s (by omega), hf, refOne_is, ho, decide_eq_false h1, decide_eq_true h2, Bool.not_false, Bool.not_true, cond_true, cond_false, comeA, he]; rfl, by simp only [comeA, he]; rfl⟩
  have he : comeE s x v = 0 := by simp [comeE, hf, ho, h1, h2]
  have hA : comeA s x v = comeL (toL s) x v := by simp only [comeA, he]; rfl
  rw [hA, he]
  unfold comeL
  generalize hfd : findK (toL s) x.2.1 x.2.2.1 = fd
  cases hbk : x.2.2.2.1 with
  | true =>
    obtain ⟨r, g1, g2⟩ := refBack_is (α := α) s fd.1 fd.2 x v hf (by omega)
    exact ⟨r, fun k => by simp only [draymanref31_Come, draymanref31_Come_g, refKeyedFit_is s (by omega), hf, refOne_is, ho, decide_eq_false h1, decide_eq_false h2, refFind_is s (by omega), hfd, hbk, Bool.not_false, Bool.not_true, cond_true, cond_false, g1], g2⟩
  | false =>
    obtain ⟨r, g1, g2⟩ := refThere_is (α := α) s fd.1 fd.2 x v hf (by omega)
    exact ⟨r, fun k => by simp only [draymanref31_Come, draymanref31_Come_g, refKeyedFit_is s (by omega), hf, refOne_is, ho, decide_eq_false h1, decide_eq_false h2, refFind_is s (by omega), hfd, hbk, Bool.not_false, Bool.not_true, cond_true, cond_false, g1], g2⟩

/-! ### Keys that are one -/
def eqK (a b : Key) : Bool := ((a.1 == b.1) && ((a.2.1 == b.2.1) && ((a.2.2.1 == b.2.2.1) && ((a.2.2.2.1 == b.2.2.2.1) && ((a.2.2.2.2.1 == b.2.2.2.2.1) && ((a.2.2.2.2.2.1 == b.2.2.2.2.2.1) && true))))))
theorem eqK_is (a b : Key) : eqK a b = decide (a = b) := by
  obtain ⟨a1, a2, a3, a4, a5, a6, ⟨⟩⟩ := a
  obtain ⟨b1, b2, b3, b4, b5, b6, ⟨⟩⟩ := b
  rw [Bool.eq_iff_iff]
  simp only [eqK, Bool.and_eq_true, beq_iff_eq, decide_eq_true_eq, Prod.mk.injEq, and_true]
theorem same_loop (kr : Bool → Option α) (k0 : Option α) (s t : Keys) (hst : s.n = t.n) (hn : s.n ≤ 1900) : ∀ (m j N : Nat), j + m = s.n → m < N →
    draymanref31_Same_l0_run kr k0 N s t (j : Int) = cond (decide ((toL s).drop j = (toL t).drop j)) k0 (kr false) := by
  intro m
  induction m with
  | zero =>
    intro j N hj hN
    obtain ⟨N, rfl⟩ : ∃ M, N = M + 1 := ⟨N - 1, by omega⟩
    have : ¬ ((j : Int) < (s.n : Int)) := by omega
    simp only [draymanref31_Same_l0_run, draymanref31_Same_l0_step, ltF this, cond_false, toL_end s (show s.n ≤ j by omega), toL_end t (show t.n ≤ j by omega), decide_true, cond_true]
  | succ m ih =>
    intro j N hj hN
    obtain ⟨N, rfl⟩ : ∃ M, N = M + 1 := ⟨N - 1, by omega⟩
    have h1 : (j : Int) < (s.n : Int) := by omega
    have h2 : (j : Int) < (t.n : Int) := by omega
    simp only [draymanref31_Same_l0_run, draymanref31_Same_l0_step, ltT h1, ltT h2, nn, Bool.and_self, cond_true, toNatC, wrap_succ (show j < 9223372036854775807 by omega), ih (j + 1) N (by omega) (by omega)]
    show cond (!(eqK (s.g j) (t.g j))) _ _ = _
    rw [toL_drop s (show j < s.n by omega), toL_drop t (show j < t.n by omega), eqK_is]
    by_cases h : s.g j = t.g j
    · simp [h]
    · simp [h]
theorem ne_of_n {s t : Keys} (h : s.n ≠ t.n) : toL s ≠ toL t := fun e => h (by rw [← toL_length s, ← toL_length t, e])
theorem refSame_is (s t : Keys) (hn : s.n ≤ 900) (k : Bool → Option α) : draymanref31_Same s t k = k (decide (toL s = toL t)) := by
  unfold draymanref31_Same
  by_cases h : s.n = t.n
  · have h2 := same_loop (α := α) (fun x3 => k x3) (k true) s t h (by omega) s.n 0 1000 (by omega) (by omega)
    rw [List.drop_zero, List.drop_zero] at h2
    have e : ((s.n : Int) != (t.n : Int)) = false := by simp [h]
    rw [e]
    refine Eq.trans h2 ?_
    cases decide (toL s = toL t) <;> rfl
  · have e : ((s.n : Int) != (t.n : Int)) = true := by simp; omega
    rw [e, decide_eq_false (ne_of_n h)]
    rfl

/-! ### What keys took effect -/
def sumT (l : List Key) : Int := (l.map (·.2.2.2.1)).sum
def sumB (l : List Key) : Int := (l.map (·.2.2.2.2.1)).sum
end Go.Rv.Try
