/- What keys, parcels and depots tell, as plain lists. No condition. -/
import Derived.Test.YtmoeohjaafpmgaaE3
import Derived.Test.YtmoeohjaafpmgaaRvT
set_option linter.unusedVariables false
set_option linter.unusedSimpArgs false
namespace Go.Rv.Try
open Go Go.Rv Go.RowKit
variable {α : Type}
abbrev Ent := Int × Int × Int × Bool × Int × Int × Bool × Unit
abbrev Key := Int × Int × Int × Int × Int × Int × Unit
abbrev Keys := Seq Key
noncomputable instance keyDec : DecidableEq Key := fun _ _ => Classical.propDecidable _
def fitN (n : Int) : Bool := decide (0 ≤ n) && decide (n ≤ 1099511627776)
def idB (n : Int) : Bool := decide (1 ≤ n) && decide (n ≤ 1099511627776)
def svc (op : Int) : Int := if op = 2 then 1 else if op = 6 then 1 else if op = 4 then 2 else 0
theorem Service_is (op : Int) (k : Int → Option α) : outbox_Service op k = k (svc op) := by
  unfold outbox_Service svc
  by_cases h1 : op = 2
  · subst h1; rfl
  by_cases h2 : op = 6
  · subst h2; rfl
  by_cases h3 : op = 4
  · subst h3; rfl
  have e1 : (op == 2) = false := by simpa using h1
  have e2 : (op == 6) = false := by simpa using h2
  have e3 : (op == 4) = false := by simpa using h3
  simp only [e1, e2, e3, cond_false, if_neg h1, if_neg h2, if_neg h3]
theorem id_is (n : Int) (k : Bool → Option α) : outbox_id n k = k (idB n) := by
  unfold outbox_id idB
  cases decide (1 ≤ n) <;> rfl
theorem Fit_is (n : Int) (k : Bool → Option α) : num_Fit n k = k (fitN n) := by
  unfold num_Fit fitN
  by_cases h : 0 ≤ n <;> simp [h]
def oneB (x : Ent) : Bool := idB x.1 && (idB x.2.1 && (decide (0 ≤ x.2.2.1) && (decide (x.2.2.1 < 6) && (svc x.2.2.2.2.1 != 0 && fitN x.2.2.2.2.2.1))))
theorem one_is (x : Ent) (k : Bool → Option α) : outbox_one x k = k (oneB x) := by
  simp only [outbox_one, outbox_one_g, id_is, Service_is, Fit_is, oneB]
  cases idB x.1 <;> cases idB x.2.1 <;> cases decide ((0 : Int) ≤ x.2.2.1) <;> cases decide (x.2.2.1 < 6) <;> cases (svc x.2.2.2.2.1 != 0) <;> rfl
theorem le_of_id {n : Int} (h : idB n = true) : 1 ≤ n ∧ n ≤ 1099511627776 := by
  simpa [idB] using h
/-- One entry alone is fit if it is one. -/
theorem fit_one (e : Ent) (k : Bool → Option α) : outbox_Fit (⟨false, 1, fun _ => e⟩ : Seq Ent) k = k (oneB e) := by
  obtain ⟨M, e1⟩ : ∃ M, (1000 : Nat) = M + 1 + 1 := ⟨998, rfl⟩
  have h0 : decide ((0 : Int) < (((1 : Nat)) : Int)) = true := rfl
  have h1 : decide ((0 : Int) ≤ 0) = true := rfl
  have hw : IntKind.i64.wrap ((0 : Int) + 1) = 1 := rfl
  have h2 : decide ((1 : Int) < (((1 : Nat)) : Int)) = false := rfl
  have h3 : decide ((((1 : Nat)) : Int) ≤ 16) = true := rfl
  simp only [outbox_Fit, outbox_Fit_g]
  rw [e1]
  simp only [outbox_Fit_l0_run, outbox_Fit_l0_step, h0, h1, Bool.and_self, cond_true, one_is, hw, h2, cond_false, h3]
  cases h : oneB e with
  | false => rfl
  | true =>
    have : ¬ e.1 ≤ 0 := by
      simp only [oneB, Bool.and_eq_true] at h
      have := (le_of_id h.1).1
      omega
    simp only [decide_eq_false this, Bool.not_true, Bool.not_false, cond_true]
    rfl

/-! ### Keys that may be -/
def zK : Key := (0, 0, 0, 0, 0, 0, ())
def markB (m t b : Int) : Bool := if m = 2 then t == 1 && b == 0 else if m = 4 then t == 1 && b == 1 else if m = 5 then t == 0 && b == 0 else if m = 3 then t == 0 && b == 0 else false
def oneK (x : Key) : Bool := idB x.1 && (decide (0 ≤ x.2.1) && (decide (x.2.1 < 6) && (fitN x.2.2.2.2.2.1 && markB x.2.2.1 x.2.2.2.1 x.2.2.2.2.1)))
theorem oneK_path (x : Key) (a : Option α) (b : Option α) (c : Option α) (ha : oneK x = true → c = a) (hb : oneK x = false → c = b) : c = cond (oneK x) a b := by
  cases h : oneK x with
  | true => exact ha h
  | false => exact hb h
theorem mark_cases (m t b : Int) (k : Bool → Option α) : (cond (m == 2) (k ((t == 1) && ((b == 0) && true))) (cond (m == 4) (k ((t == 1) && ((b == 1) && true))) (cond (m == 5) (cond (m == 5) (k ((t == 0) && ((b == 0) && true))) (k false)) (cond (m == 3) (k ((t == 0) && ((b == 0) && true))) (k false))))) = k (markB m t b) := by
  unfold markB
  by_cases h2 : m = 2
  · subst h2; simp
  by_cases h4 : m = 4
  · subst h4; simp
  by_cases h5 : m = 5
  · subst h5; simp
  by_cases h3 : m = 3
  · subst h3; simp
  have e2 : (m == 2) = false := by simpa using h2
  have e4 : (m == 4) = false := by simpa using h4
  have e5 : (m == 5) = false := by simpa using h5
  have e3 : (m == 3) = false := by simpa using h3
  simp only [e2, e4, e5, e3, cond_false, if_neg h2, if_neg h4, if_neg h5, if_neg h3]
theorem mark_cases' (m t b : Int) (k : Bool → Option α) : (cond (m == 2) (cond (t == 1) (k (b == 0)) (k false)) (cond (m == 4) (cond (t == 1) (k (b == 1)) (k false)) (cond (m == 5) (cond (m == 5) (cond (t == 0) (k (b == 0)) (k false)) (k false)) (cond (m == 3) (cond (t == 0) (k (b == 0)) (k false)) (k false))))) = k (markB m t b) := by
  refine Eq.trans ?_ (mark_cases m t b k)
  cases (m == 2) <;> cases (m == 4) <;> cases (m == 5) <;> cases (m == 3) <;> cases (t == 1) <;> cases (t == 0) <;> cases (b == 0) <;> cases (b == 1) <;> rfl
theorem oneK_is (x : Key) (k : Bool → Option α) : keyed_one x k = k (oneK x) := by
  simp only [keyed_one, keyed_one_g, Fit_is, mark_cases, oneK]
  by_cases h1 : x.1 < 1
  · have : idB x.1 = false := by simp [idB]; omega
    simp only [decide_eq_true h1, this, Bool.not_true, cond_false, Bool.false_and]
  by_cases h2 : x.1 > 1099511627776
  · have : idB x.1 = false := by simp [idB]; omega
    simp only [decide_eq_false h1, decide_eq_true h2, this, Bool.not_false, Bool.not_true, cond_true, cond_false, Bool.false_and]
  have : idB x.1 = true := by simp [idB]; omega
  have e3 : decide (0 ≤ x.2.1) = !(decide (x.2.1 < 0)) := by rw [← decide_not]; exact decide_eq_decide.2 (by omega)
  have e4 : decide (x.2.1 < 6) = !(decide (x.2.1 ≥ 6)) := by rw [← decide_not]; exact decide_eq_decide.2 (by omega)
  rw [e3, e4]
  simp only [decide_eq_false h1, decide_eq_false h2, this, Bool.not_false, cond_true, Bool.true_and]
  cases decide (x.2.1 < 0) <;> cases decide (x.2.1 ≥ 6) <;> cases fitN x.2.2.2.2.2.1 <;> rfl
def ltK (a b : Key) : Bool := decide (a.1 < b.1) || (a.1 == b.1 && decide (a.2.1 < b.2.1))
def cmpI (x y : Int) : Int := if x < y then -1 else if x > y then 1 else 0
theorem compare_is (x y : Int) (k : Int → Option α) : cmp_Compare_int x y k = k (cmpI x y) := by
  have h : ∀ z : Int, (z != z) = false := fun z => by simp
  simp only [cmp_Compare_int, cmp_Compare_int_g, cmp_isNaN_int, h, cond_false, cmpI]
  by_cases h1 : x < y
  · simp [h1]
  · by_cases h2 : x > y
    · simp [h1, h2]
    · simp [h1, h2]
def rankK (a b : Key) : Int := if cmpI a.1 b.1 = 0 then cmpI a.2.1 b.2.1 else cmpI a.1 b.1
theorem or_is (x y : Int) (k : Int → Option α) : cmp_Or_int (⟨false, 2, tSel [(x, ()), (y, ())] (0, ())⟩ : Seq (Int × Unit)) k = k (if x = 0 then y else x) := by
  obtain ⟨M, e1⟩ : ∃ M, (1000 : Nat) = M + 1 + 1 + 1 := ⟨997, rfl⟩
  simp only [cmp_Or_int]
  rw [e1]
  have h0 : decide ((0 : Int) < (((2 : Nat)) : Int)) = true := rfl
  have h00 : decide ((0 : Int) ≤ 0) = true := rfl
  have h1 : decide ((1 : Int) < (((2 : Nat)) : Int)) = true := rfl
  have h01 : decide ((0 : Int) ≤ 1) = true := rfl
  have h2 : decide ((2 : Int) < (((2 : Nat)) : Int)) = false := rfl
  have hw : IntKind.i64.wrap ((0 : Int) + 1) = 1 := rfl
  have hw1 : IntKind.i64.wrap ((1 : Int) + 1) = 2 := rfl
  simp only [cmp_Or_int_l0_run, cmp_Or_int_l0_step, h0, h00, h1, h01, h2, hw, hw1, Bool.and_self, cond_true, cond_false]
  show cond (x != 0) (k x) (cond (y != 0) (k y) (k 0)) = _
  by_cases hx : x = 0
  · subst hx
    by_cases hy : y = 0
    · subst hy; rfl
    · have : (y != 0) = true := by simpa using hy
      simp only [this, if_true, cond_true]; rfl
  · have : (x != 0) = true := by simpa using hx
    simp only [this, if_neg hx, cond_true]
theorem rank_is (a b : Key) (k : Int → Option α) : keyed_rank a b k = k (rankK a b) := by
  simp only [keyed_rank, keyed_rank_g, compare_is, or_is, rankK]
theorem cmpI_lt {x y : Int} (h : x < y) : cmpI x y = -1 := by simp [cmpI, h]
theorem cmpI_gt {x y : Int} (h : y < x) : cmpI x y = 1 := by
  have : ¬ x < y := by omega
  simp [cmpI, h, this]
theorem cmpI_eq (x : Int) : cmpI x x = 0 := by simp [cmpI]
theorem rank_lt {a b : Key} (h : a.1 < b.1 ∨ (a.1 = b.1 ∧ a.2.1 < b.2.1)) : rankK a b = -1 := by
  unfold rankK
  rcases h with h | ⟨h1, h2⟩
  · rw [cmpI_lt h]; rfl
  · rw [h1, cmpI_eq, if_pos rfl, cmpI_lt h2]
theorem rank_gt {a b : Key} (h : b.1 < a.1 ∨ (a.1 = b.1 ∧ b.2.1 < a.2.1)) : rankK a b = 1 := by
  unfold rankK
  rcases h with h | ⟨h1, h2⟩
  · rw [cmpI_gt h]; rfl
  · rw [h1, cmpI_eq, if_pos rfl, cmpI_gt h2]
theorem rank_same {a b : Key} (h : a.1 = b.1 ∧ a.2.1 = b.2.1) : rankK a b = 0 := by
  unfold rankK
  rw [h.1, h.2, cmpI_eq, if_pos rfl, cmpI_eq]
theorem rank_tri (a b : Key) : (a.1 < b.1 ∨ (a.1 = b.1 ∧ a.2.1 < b.2.1)) ∨ (b.1 < a.1 ∨ (a.1 = b.1 ∧ b.2.1 < a.2.1)) ∨ (a.1 = b.1 ∧ a.2.1 = b.2.1) := by omega
theorem rank_neg (a b : Key) : decide (rankK a b < 0) = ltK a b := by
  rw [Bool.eq_iff_iff]
  simp only [decide_eq_true_eq, ltK, Bool.or_eq_true, Bool.and_eq_true, beq_iff_eq]
  rcases rank_tri a b with h | h | h
  · rw [rank_lt h]; exact ⟨fun _ => h, fun _ => by decide⟩
  · rw [rank_gt h]; exact ⟨fun h' => by omega, fun h' => by omega⟩
  · rw [rank_same h]; exact ⟨fun h' => by omega, fun h' => by omega⟩
theorem rank_ge (a b : Key) : decide (rankK a b ≥ 0) = !(ltK a b) := by
  rw [← rank_neg, ← decide_not]
  exact decide_eq_decide.2 (by omega)
def sameK (a b : Key) : Bool := a.1 == b.1 && a.2.1 == b.2.1
theorem rank_eq (a b : Key) : (rankK a b == 0) = sameK a b := by
  rw [Bool.eq_iff_iff]
  simp only [beq_iff_eq, sameK, Bool.and_eq_true]
  rcases rank_tri a b with h | h | h
  · rw [rank_lt h]; exact ⟨fun h' => by omega, fun h' => by omega⟩
  · rw [rank_gt h]; exact ⟨fun h' => by omega, fun h' => by omega⟩
  · rw [rank_same h]; exact ⟨fun _ => h, fun _ => rfl⟩
theorem ltK_iff {a b : Key} : ltK a b = true ↔ a.1 < b.1 ∨ (a.1 = b.1 ∧ a.2.1 < b.2.1) := by simp [ltK]
theorem sameK_iff {a b : Key} : sameK a b = true ↔ a.1 = b.1 ∧ a.2.1 = b.2.1 := by simp [sameK]
/-- From here on, behind one: each may be, each is ahead of the next. -/
def fitFrom : Option Key → List Key → Bool
  | _, [] => true
  | p, x :: l => oneK x && ((match p with | none => true | some q => ltK q x) && fitFrom (some x) l)
def atP (s : Keys) (j : Nat) : Option Key := if j = 0 then none else some (s.g (j - 1))
theorem atP_succ (s : Keys) (j : Nat) : atP s (j + 1) = some (s.g j) := by simp [atP]
def fitK (s : Keys) : Bool := fitFrom none (toL s)
theorem keyedFit_loop (kr : Bool → Option α) (k0 : Option α) (s : Keys) (hn : s.n ≤ 900) : ∀ (d j N : Nat), j + d = s.n → d < N →
    keyed_Fit_l0_run keyed_one keyed_rank kr k0 N s s (s.n : Int) (j : Int) = cond (fitFrom (atP s j) ((toL s).drop j)) k0 (kr false) := by
  intro d
  induction d with
  | zero =>
    intro j N hj hN
    obtain ⟨N, rfl⟩ : ∃ M, N = M + 1 := ⟨N - 1, by omega⟩
    have h3 : ¬ ((j : Int) < (s.n : Int)) := by omega
    simp only [keyed_Fit_l0_run, keyed_Fit_l0_step, ltF h3, cond_false, toL_end s (by omega : s.n ≤ j), fitFrom, cond_true]
  | succ d ih =>
    intro j N hj hN
    obtain ⟨N, rfl⟩ : ∃ M, N = M + 1 := ⟨N - 1, by omega⟩
    have h3 : (j : Int) < (s.n : Int) := by omega
    have h4 := ih (j + 1) N (by omega) (by omega)
    rw [atP_succ] at h4
    simp only [keyed_Fit_l0_run, keyed_Fit_l0_step, ltT h3, nn, Bool.and_self, toNatC, cond_true, wrap_succ (show j < 9223372036854775807 by omega), oneK_is, h4, Bool.not_not]
    rw [toL_drop s (show j < s.n by omega)]
    simp only [fitFrom]
    by_cases h0 : j = 0
    · subst h0
      have e0 : decide (((0 : Nat) : Int) > 0) = false := rfl
      simp only [e0, cond_false, atP, if_true, Bool.true_and]
      cases oneK (s.g 0) <;> rfl
    · have e0 : ((j : Nat) : Int) > 0 := by omega
      have hw : IntKind.i64.wrap ((j : Int) - 1) = ((j - 1 : Nat) : Int) := by rw [wrap64 (by omega) (by omega)]; omega
      have h5 : ((j - 1 : Nat) : Int) < (s.n : Int) := by omega
      simp only [decide_eq_true e0, cond_true, hw, nn, ltT h5, Bool.and_self, toNatC, rank_is, rank_ge, atP, if_neg h0]
      cases oneK (s.g j) <;> cases ltK (s.g (j - 1)) (s.g j) <;> rfl
theorem keyedFit_is (s : Keys) (hn : s.n ≤ 900) (k : Bool → Option α) : keyed_Fit s k = k (fitK s) := by
  have h := keyedFit_loop (fun x8 => (k x8)) (k true) s hn s.n 0 1000 (by omega) (by omega)
  rw [List.drop_zero] at h
  refine (h : keyed_Fit s k = _).trans ?_
  show cond (fitK s) _ _ = _
  cases fitK s <;> rfl
def isAt (a b : Int) (x : Key) : Bool := x.1 == a && x.2.1 == b
def findK (l : List Key) (a b : Int) : Key × Bool := match l.find? (isAt a b) with | some x => (x, true) | none => (zK, false)
theorem find1_is (x : Key) (a b : Int) (k : Bool → Int → Int → Option α) : keyed_Find_1 x a b k = k (isAt a b x) a b := by
  unfold keyed_Find_1 isAt
  cases (x.1 == a) <;> rfl
theorem index_loop (kr : Int → Int → Int → Option α) (k0 : Int → Int → Option α) (s : Keys) (a b : Int) (hn : s.n ≤ 900) : ∀ (d j N : Nat), j + d = s.n → d < N →
    (∃ i, i < s.n ∧ slices_IndexFunc_api_Key_api_Key_l0_run keyed_Find_1 kr k0 N s (s.n : Int) (j : Int) a b = kr (i : Int) a b ∧ ((toL s).drop j).find? (isAt a b) = some (s.g i)) ∨
    (slices_IndexFunc_api_Key_api_Key_l0_run keyed_Find_1 kr k0 N s (s.n : Int) (j : Int) a b = k0 a b ∧ ((toL s).drop j).find? (isAt a b) = none) := by
  intro d
  induction d with
  | zero =>
    intro j N hj hN
    obtain ⟨N, rfl⟩ : ∃ M, N = M + 1 := ⟨N - 1, by omega⟩
    have h3 : ¬ ((j : Int) < (s.n : Int)) := by omega
    refine .inr ⟨by simp only [slices_IndexFunc_api_Key_api_Key_l0_run, slices_IndexFunc_api_Key_api_Key_l0_step, ltF h3, cond_false], by rw [toL_end s (by omega : s.n ≤ j)]; rfl⟩
  | succ d ih =>
    intro j N hj hN
    obtain ⟨N, rfl⟩ : ∃ M, N = M + 1 := ⟨N - 1, by omega⟩
    have h3 : (j : Int) < (s.n : Int) := by omega
    rw [toL_drop s (show j < s.n by omega)]
    simp only [slices_IndexFunc_api_Key_api_Key_l0_run, slices_IndexFunc_api_Key_api_Key_l0_step, ltT h3, nn, Bool.and_self, toNatC, cond_true, wrap_succ (show j < 9223372036854775807 by omega), find1_is, List.find?_cons]
    cases h : isAt a b (s.g j) with
    | true => exact .inl ⟨j, by omega, rfl, rfl⟩
    | false => exact ih (j + 1) N (by omega) (by omega)
theorem find_is (s : Keys) (hn : s.n ≤ 900) (a b : Int) (k : Key → Bool → Option α) : keyed_Find s a b k = k (findK (toL s) a b).1 (findK (toL s) a b).2 := by
  have h := index_loop (fun x12 x13 x14 => (fun r4 x5 x6 =>
    (cond (decide (r4 < 0))
      (k (0, 0, 0, 0, 0, 0, ()) false)
      (cond ((decide ((0 : Int) ≤ r4)) && (decide (r4 < (s.n : Int))))
        (k (s.g r4.toNat) true)
        none))) x12 x13 x14) (fun x15 x16 => (fun (r4 : Int) (x5 x6 : Int) =>
    (cond (decide (r4 < 0))
      (k (0, 0, 0, 0, 0, 0, ()) false)
      (cond ((decide ((0 : Int) ≤ r4)) && (decide (r4 < (s.n : Int))))
        (k (s.g r4.toNat) true)
        none))) (-1) x15 x16) s a b hn s.n 0 1000 (by omega) (by omega)
  rw [List.drop_zero] at h
  unfold findK
  rcases h with ⟨i, hi, h1, h2⟩ | ⟨h1, h2⟩
  · rw [h2]
    refine (h1 : keyed_Find s a b k = _).trans ?_
    have e1 : ¬ ((i : Int) < 0) := by omega
    have e2 : (i : Int) < (s.n : Int) := by omega
    simp only [decide_eq_false e1, cond_false, nn, ltT e2, Bool.and_self, cond_true, toNatC]
  · rw [h2]
    exact (h1 : keyed_Find s a b k = _)
def putL (l : List Key) (x : Key) : List Key := l.filter (fun y => ltK y x) ++ x :: l.filter (fun y => ltK x y)
def SortedK (s : Keys) : Prop := ∀ i j, i < j → j < s.n → ltK (s.g i) (s.g j) = true
theorem ltK_trans {a b c : Key} (h1 : ltK a b = true) (h2 : ltK b c = true) : ltK a c = true := by
  rw [ltK_iff] at *; omega
theorem fitFrom_all : ∀ (l : List Key) (p : Option Key), fitFrom p l = true → (∀ x ∈ l, oneK x = true ∧ ∀ q, p = some q → ltK q x = true) ∧ l.Pairwise (fun a b => ltK a b = true)
  | [], p, _ => ⟨fun x h => (by cases h), .nil⟩
  | y :: l, p, h => by
    simp only [fitFrom, Bool.and_eq_true] at h
    obtain ⟨h1, h2, h3⟩ := h
    obtain ⟨h4, h5⟩ := fitFrom_all l (some y) h3
    have hp : ∀ q, p = some q → ltK q y = true := fun q hq => by subst hq; exact h2
    refine ⟨fun x hx => ?_, List.pairwise_cons.2 ⟨fun x hx => (h4 x hx).2 y rfl, h5⟩⟩
    rcases List.mem_cons.1 hx with rfl | hx
    · exact ⟨h1, hp⟩
    · exact ⟨(h4 x hx).1, fun q hq => ltK_trans (hp q hq) ((h4 x hx).2 y rfl)⟩
theorem toL_getE (s : Keys) {i : Nat} (h : i < s.n) : (toL s)[i]'(by rw [toL_length]; exact h) = s.g i := by simp [toL]
theorem sorted_of {s : Keys} (h : fitK s = true) : SortedK s := by
  intro i j hij hj
  have := List.pairwise_iff_getElem.1 (fitFrom_all _ _ h).2 i j (by rw [toL_length]; omega) (by rw [toL_length]; exact hj) hij
  rwa [toL_getE s (by omega), toL_getE s hj] at this
/-- The first that is not ahead. -/
structure IsFirst (s : Keys) (v : Key) (p : Nat) : Prop where
  le : p ≤ s.n
  lo : ∀ i, i < p → ltK (s.g i) v = true
  hi : p < s.n → ltK (s.g p) v = false
theorem first_behind {s : Keys} {v : Key} {p : Nat} (hs : SortedK s) (h : IsFirst s v p) {i : Nat} (hi : p < i) (hn : i < s.n) : ltK v (s.g i) = true := by
  have h1 := h.hi (by omega)
  have h2 := hs p i hi hn
  have h3 : ¬ (ltK (s.g p) v = true) := by rw [h1]; simp
  rw [ltK_iff] at h2 h3 ⊢
  omega
theorem first_at {s : Keys} {v : Key} {p : Nat} (h : IsFirst s v p) (hn : p < s.n) : ltK v (s.g p) = !(sameK (s.g p) v) := by
  have h1 := h.hi hn
  have h3 : ¬ (ltK (s.g p) v = true) := by rw [h1]; simp
  rw [Bool.eq_iff_iff, Bool.not_eq_true', ← Bool.not_eq_true, sameK_iff]
  rw [ltK_iff] at h3 ⊢
  omega
theorem putL_first {s : Keys} {v : Key} {p : Nat} (hs : SortedK s) (h : IsFirst s v p) :
    putL (toL s) v = (toL s).take p ++ v :: (toL s).drop (if p < s.n ∧ sameK (s.g p) v = true then p + 1 else p) := by
  have hle := h.le
  have ht : ∀ x ∈ (toL s).take p, ltK x v = true := by
    intro x hx
    obtain ⟨i, hi, rfl⟩ := List.getElem_of_mem hx
    simp only [List.length_take, toL_length] at hi
    rw [List.getElem_take, toL_getE s (by omega)]
    exact h.lo i (by omega)
  have hd : ∀ q, p < q → ∀ x ∈ (toL s).drop q, ltK v x = true := by
    intro q hq x hx
    obtain ⟨i, hi, rfl⟩ := List.getElem_of_mem hx
    simp only [List.length_drop, toL_length] at hi
    rw [List.getElem_drop, toL_getE s (by omega)]
    exact first_behind hs h (by omega) (by omega)
  have nlt : ∀ {a b : Key}, ltK a b = true → ltK b a = false := by
    intro a b hab
    cases hb : ltK b a with
    | false => rfl
    | true => rw [ltK_iff] at hab hb; omega
  have hsplit : toL s = (toL s).take p ++ (toL s).drop p := (List.take_append_drop p _).symm
  have f1 : ((toL s).take p).filter (fun y => ltK y v) = (toL s).take p := List.filter_eq_self.2 ht
  have f2 : ((toL s).take p).filter (fun y => ltK v y) = [] := List.filter_eq_nil_iff.2 fun x hx => by rw [nlt (ht x hx)]; simp
  unfold putL
  have goal : ∀ (d : List Key), (toL s).drop p = d → d.filter (fun y => ltK y v) = [] → putL (toL s) v = (toL s).take p ++ v :: d.filter (fun y => ltK v y) := by
    intro d hd1 hd2
    unfold putL
    conv => lhs; rw [hsplit]
    rw [List.filter_append, List.filter_append, f1, f2, hd1, hd2]
    simp
  by_cases hp : p < s.n
  · have hdr : (toL s).drop p = s.g p :: (toL s).drop (p + 1) := toL_drop s hp
    have g1 : ((toL s).drop (p + 1)).filter (fun y => ltK y v) = [] := List.filter_eq_nil_iff.2 fun x hx => by rw [nlt (hd (p + 1) (by omega) x hx)]; simp
    have g2 : ((toL s).drop (p + 1)).filter (fun y => ltK v y) = (toL s).drop (p + 1) := List.filter_eq_self.2 (hd (p + 1) (by omega))
    have := goal _ hdr (by rw [List.filter_cons, h.hi hp, g1]; simp)
    unfold putL at this
    rw [this, List.filter_cons, first_at h hp, g2]
    cases hsame : sameK (s.g p) v with
    | true => simp [hp]
    | false => simp [hdr]
  · have hdr : (toL s).drop p = [] := toL_end s (by omega)
    have := goal _ hdr rfl
    unfold putL at this
    rw [this]
    simp [hp, hdr]
theorem bsearch_loop (k0 : Keys → Int → Int → Key → Option α) (s : Keys) (v : Key) (hs : SortedK s) (hn : s.n ≤ 900) : ∀ (m i j N : Nat), j - i ≤ m → i ≤ j → j ≤ s.n → m < N → (∀ a, a < i → ltK (s.g a) v = true) → (∀ a, j ≤ a → a < s.n → ltK (s.g a) v = false) →
    ∃ p, IsFirst s v p ∧ slices_BinarySearchFunc_api_Key_api_Key_api_Key_l0_run keyed_rank k0 N s (s.n : Int) (i : Int) (j : Int) v = k0 s (s.n : Int) (p : Int) v := by
  intro m
  induction m with
  | zero =>
    intro i j N hm hij hj hN hlo hhi
    obtain ⟨N, rfl⟩ : ∃ M, N = M + 1 := ⟨N - 1, by omega⟩
    have : ¬ ((i : Int) < (j : Int)) := by omega
    refine ⟨i, ⟨by omega, hlo, fun h => hhi i (by omega) h⟩, ?_⟩
    simp only [slices_BinarySearchFunc_api_Key_api_Key_api_Key_l0_run, slices_BinarySearchFunc_api_Key_api_Key_api_Key_l0_step, ltF this, cond_false]
  | succ m ih =>
    intro i j N hm hij hj hN hlo hhi
    obtain ⟨N, rfl⟩ : ∃ M, N = M + 1 := ⟨N - 1, by omega⟩
    by_cases h : i < j
    · have h1 : (i : Int) < (j : Int) := by omega
      have hw := wrap_half (i := i) (j := j) (by omega)
      have h2 : (((i + j) / 2 : Nat) : Int) < (s.n : Int) := by omega
      have hw2 : IntKind.i64.wrap ((((i + j) / 2 : Nat) : Int) + 1) = (((i + j) / 2 + 1 : Nat) : Int) := wrap_succ (by omega)
      simp only [slices_BinarySearchFunc_api_Key_api_Key_api_Key_l0_run, slices_BinarySearchFunc_api_Key_api_Key_api_Key_l0_step, ltT h1, hw, nn, ltT h2, Bool.and_self, cond_true, toNatC, rank_is, rank_neg, hw2]
      cases hc : ltK (s.g ((i + j) / 2)) v with
      | true =>
        refine ih ((i + j) / 2 + 1) j N (by omega) (by omega) hj (by omega) (fun a ha => ?_) hhi
        by_cases he : a = (i + j) / 2
        · rw [he]; exact hc
        · exact ltK_trans (hs a ((i + j) / 2) (by omega) (by omega)) hc
      | false =>
        refine ih i ((i + j) / 2) N (by omega) (by omega) (by omega) (by omega) hlo (fun a ha hn' => ?_)
        by_cases he : a = (i + j) / 2
        · rw [he]; exact hc
        · cases hh : ltK (s.g a) v with
          | false => rfl
          | true =>
            have := ltK_trans (hs ((i + j) / 2) a (by omega) hn') hh
            rw [hc] at this; cases this
    · have : ¬ ((i : Int) < (j : Int)) := by omega
      refine ⟨i, ⟨by omega, hlo, fun h' => hhi i (by omega) h'⟩, ?_⟩
      simp only [slices_BinarySearchFunc_api_Key_api_Key_api_Key_l0_run, slices_BinarySearchFunc_api_Key_api_Key_api_Key_l0_step, ltF this, cond_false]
theorem first_unique {s : Keys} {v : Key} {p q : Nat} (h : IsFirst s v p) (h' : IsFirst s v q) : p = q := by
  rcases Nat.lt_trichotomy p q with hlt | he | hgt
  · have := h'.lo p hlt; rw [h.hi (by have := h'.le; omega)] at this; cases this
  · exact he
  · have := h.lo q hgt; rw [h'.hi (by have := h.le; omega)] at this; cases this
theorem exists_first (s : Keys) (v : Key) (hs : SortedK s) (hn : s.n ≤ 900) : ∃ p, IsFirst s v p := by
  obtain ⟨p, hp, _⟩ := bsearch_loop (α := Unit) (fun _ _ _ _ => none) s v hs hn s.n 0 s.n 1000 (by omega) (by omega) (by omega) (by omega) (fun a h => by omega) (fun a h1 h2 => by omega)
  exact ⟨p, hp⟩
theorem bsearch_is (s : Keys) (v : Key) (hs : SortedK s) (hn : s.n ≤ 900) {p : Nat} (hp : IsFirst s v p) (k : Int → Bool → Option α) :
    slices_BinarySearchFunc_api_Key_api_Key_api_Key s v k = k (p : Int) (decide (p < s.n ∧ sameK (s.g p) v = true)) := by
  obtain ⟨q, hq, h⟩ := bsearch_loop (fun x9 x10 x11 x12 =>
      (cond (decide (x11 < x10))
        (cond ((decide ((0 : Int) ≤ x11)) && (decide (x11 < (x9.n : Int))))
          (keyed_rank (x9.g x11.toNat) x12 fun r13 =>
            (k x11 (r13 == 0)))
          none)
        (k x11 false))) s v hs hn s.n 0 s.n 1000 (by omega) (by omega) (by omega) (by omega) (fun a h => by omega) (fun a h1 h2 => by omega)
  obtain rfl := first_unique hp hq
  refine (h : slices_BinarySearchFunc_api_Key_api_Key_api_Key s v k = _).trans ?_
  by_cases h1 : p < s.n
  · have h2 : (p : Int) < (s.n : Int) := by omega
    simp only [ltT h2, nn, Bool.and_self, cond_true, toNatC, rank_is, rank_eq, h1, true_and]
    cases sameK (s.g p) v <;> rfl
  · have h2 : ¬ ((p : Int) < (s.n : Int)) := by omega
    simp only [ltF h2, cond_false, h1, false_and, decide_false]
def tot (l : List (Keys × Unit)) : Nat := (l.map (·.1.n)).sum
def flat (l : List (Keys × Unit)) : List Key := l.flatMap fun x => toL x.1
def Nil0 (s : Keys) : Prop := s.nl = true → s.n = 0
theorem concat_sum (k0 : Seq (Keys × Unit) → Int → Keys → Option α) (a : Seq (Keys × Unit)) (q : Keys) (hn : a.n < 4611686018427387904) : ∀ (m j N : Nat) (z : Nat), j + m = a.n → m < N → z + tot ((toL a).drop j) < 4611686018427387904 →
    slices_Concat_api_Key_api_Key_l0_run k0 N a (z : Int) a (a.n : Int) (j : Int) q = k0 a ((z + tot ((toL a).drop j) : Nat) : Int) q := by
  intro m
  induction m with
  | zero =>
    intro j N z hj hN hz
    obtain ⟨N, rfl⟩ : ∃ M, N = M + 1 := ⟨N - 1, by omega⟩
    have : ¬ ((j : Int) < (a.n : Int)) := by omega
    simp only [slices_Concat_api_Key_api_Key_l0_run, slices_Concat_api_Key_api_Key_l0_step, ltF this, cond_false, toL_end a (show a.n ≤ j by omega), tot, List.map_nil, List.sum_nil, Nat.add_zero]
  | succ m ih =>
    intro j N z hj hN hz
    obtain ⟨N, rfl⟩ : ∃ M, N = M + 1 := ⟨N - 1, by omega⟩
    have h1 : (j : Int) < (a.n : Int) := by omega
    rw [toL_drop a (show j < a.n by omega)] at hz ⊢
    simp only [tot, List.map_cons, List.sum_cons] at hz ⊢
    have hw : IntKind.i64.wrap ((z : Int) + (((a.g j).1.n : Nat) : Int)) = ((z + (a.g j).1.n : Nat) : Int) := by
      rw [wrap64 (by omega) (by omega)]; omega
    have hneg : ¬ (((z + (a.g j).1.n : Nat) : Int) < 0) := by omega
    simp only [slices_Concat_api_Key_api_Key_l0_run, slices_Concat_api_Key_api_Key_l0_step, ltT h1, nn, Bool.and_self, cond_true, toNatC, hw, ltF hneg, cond_false, wrap_succ (show j < 9223372036854775807 by omega)]
    rw [ih (j + 1) N _ (by omega) (by omega) (by simp only [tot]; omega)]
    simp only [tot, Nat.add_assoc]
def app1 (q : Keys) (x : Keys × Unit) : Keys := ⟨(q.nl && (Nat.beq x.1.n 0)), (q.n + x.1.n), (tApp q.n q.g x.1.g)⟩
theorem app1_toL (q : Keys) (x : Keys × Unit) : toL (app1 q x) = toL q ++ toL x.1 := by
  exact toL_app _ q.nl x.1.nl q.n x.1.n q.g x.1.g
theorem app1_ntoL {q : Keys} (hq : Nil0 q) (x : Keys × Unit) : Nil0 (app1 q x) := fun h => by
  simp only [app1, Bool.and_eq_true, Nat.beq_eq] at h
  have := hq h.1
  simp only [app1]
  omega
theorem foldl_toL : ∀ (l : List (Keys × Unit)) (q : Keys), toL (l.foldl app1 q) = toL q ++ flat l
  | [], q => by simp [flat]
  | x :: l, q => by simp only [List.foldl_cons, foldl_toL l, app1_toL, flat, List.flatMap_cons, List.append_assoc]
theorem foldl_ntoL : ∀ (l : List (Keys × Unit)) (q : Keys), Nil0 q → Nil0 (l.foldl app1 q)
  | [], q, h => h
  | x :: l, q, h => foldl_ntoL l _ (app1_ntoL h x)
theorem concat_put (k2 : Keys → Keys → Keys → Option α) (a : Seq (Keys × Unit)) (q4 q5 : Keys) (hn : a.n < 4611686018427387904) : ∀ (m j N : Nat) (q : Keys), j + m = a.n → m < N → q.n + tot ((toL a).drop j) ≤ 1000000 →
    slices_Concat_api_Key_api_Key_l1_run k2 N a (a.n : Int) (j : Int) q4 q5 q = k2 q4 q5 (((toL a).drop j).foldl app1 q) := by
  intro m
  induction m with
  | zero =>
    intro j N q hj hN hz
    obtain ⟨N, rfl⟩ : ∃ M, N = M + 1 := ⟨N - 1, by omega⟩
    have : ¬ ((j : Int) < (a.n : Int)) := by omega
    simp only [slices_Concat_api_Key_api_Key_l1_run, slices_Concat_api_Key_api_Key_l1_step, ltF this, cond_false, toL_end a (show a.n ≤ j by omega), List.foldl_nil]
  | succ m ih =>
    intro j N q hj hN hz
    obtain ⟨N, rfl⟩ : ∃ M, N = M + 1 := ⟨N - 1, by omega⟩
    have h1 : (j : Int) < (a.n : Int) := by omega
    rw [toL_drop a (show j < a.n by omega)] at hz ⊢
    simp only [tot, List.map_cons, List.sum_cons] at hz
    have hle : decide (((q.n + (a.g j).1.n)) * 48 ≤ 140737488355328) = true := decide_eq_true (by omega)
    simp only [slices_Concat_api_Key_api_Key_l1_run, slices_Concat_api_Key_api_Key_l1_step, ltT h1, nn, Bool.and_self, cond_true, toNatC, hle, wrap_succ (show j < 9223372036854775807 by omega), List.foldl_cons]
    exact ih (j + 1) N (app1 q (a.g j)) (by omega) (by omega) (by simp only [app1, tot]; omega)
theorem concat_is (a : Seq (Keys × Unit)) (hn : a.n ≤ 900) (ht : tot (toL a) ≤ 1000000) : ∃ r, (∀ k : Keys → Option α, slices_Concat_api_Key_api_Key a k = k r) ∧ toL r = flat (toL a) ∧ Nil0 r := by
  have h3 : ¬ (((0 + tot (toL a) : Nat) : Int) < 0) := by omega
  have hw : IntKind.i64.wrap (((0 + tot (toL a) : Nat) : Int) - 0) = ((tot (toL a) : Nat) : Int) := by
    rw [wrap64 (by omega) (by omega)]; omega
  have hsum : ∀ (k0 : Seq (Keys × Unit) → Int → Keys → Option α) q, slices_Concat_api_Key_api_Key_l0_run k0 1000 a 0 a (a.n : Int) 0 q = k0 a ((0 + tot (toL a) : Nat) : Int) q := by
    intro k0 q
    have := concat_sum k0 a q (by omega) a.n 0 1000 0 (by omega) (by omega) (by simp; omega)
    simpa using this
  have hput : ∀ (k2 : Keys → Keys → Keys → Option α) q4 q5 (q : Keys), q.n = 0 → slices_Concat_api_Key_api_Key_l1_run k2 1000 a (a.n : Int) 0 q4 q5 q = k2 q4 q5 ((toL a).foldl app1 q) := by
    intro k2 q4 q5 q hq
    have := concat_put k2 a q4 q5 (by omega) a.n 0 1000 q (by omega) (by omega) (by simp; omega)
    simpa using this
  by_cases hz : ((tot (toL a) : Nat) : Int) > 0
  · refine ⟨(toL a).foldl app1 ⟨(Nat.beq (((tot (toL a) : Nat) : Int)).toNat 0), 0, (tApp 0 (fun _ => zK) (fun _ => zK))⟩, fun k => ?_, by rw [foldl_toL]; rfl, foldl_ntoL _ _ fun _ => rfl⟩
    unfold slices_Concat_api_Key_api_Key
    rw [hsum]
    have e1 : decide (((tot (toL a) : Nat) : Int) * 48 ≤ 140737488355328) = true := decide_eq_true (by omega)
    have e2 : decide ((0 + ((tot (toL a) : Nat) : Int).toNat) * 48 ≤ 140737488355328) = true := decide_eq_true (by omega)
    have e3 : decide ((0 : Int) ≤ (((0 + ((tot (toL a) : Nat) : Int).toNat) : Nat) : Int)) = true := decide_eq_true (by omega)
    simp only [ltF h3, cond_false, hw, decide_eq_true hz, cond_true, nn, e1, e2, e3, Bool.and_self]
    exact hput _ _ _ _ rfl
  · refine ⟨(toL a).foldl app1 ⟨true, 0, (fun _ => zK)⟩, fun k => ?_, by rw [foldl_toL]; rfl, foldl_ntoL _ _ fun _ => rfl⟩
    unfold slices_Concat_api_Key_api_Key
    rw [hsum]
    simp only [ltF h3, cond_false, hw, decide_eq_false hz]
    exact hput _ _ _ _ rfl
theorem put_is (s : Keys) (v : Key) (hf : fitK s = true) (hn : s.n ≤ 800) : ∃ r : Keys, (∀ k : Keys → Option α, keyed_put_api_Key s v k = k r) ∧ toL r = putL (toL s) v ∧ Nil0 r := by
  have hs := sorted_of hf
  obtain ⟨p, hp⟩ := exists_first s v hs (by omega)
  have hle := hp.le
  rw [putL_first hs hp]
  have e1 : decide ((p : Int) ≤ (s.n : Int)) = true := decide_eq_true (by omega)
  have conc : ∀ q : Nat, q ≤ s.n → ∃ r : Keys, (∀ k : Keys → Option α, slices_Concat_api_Key_api_Key (⟨false, 3, (tSel [((⟨s.nl, p, s.g⟩ : Keys), ()), ((⟨false, 1, (fun _ => v)⟩ : Keys), ()), ((⟨s.nl, (s.n - q), (tShift q s.g)⟩ : Keys), ())] ((⟨true, 0, fun _ => zK⟩ : Keys), ()))⟩ : Seq (Keys × Unit)) k = k r) ∧ toL r = (toL s).take p ++ v :: (toL s).drop q ∧ Nil0 r := by
    intro q hq
    obtain ⟨c, hc1, hc2, hc3⟩ := concat_is (α := α) (⟨false, 3, (tSel [((⟨s.nl, p, s.g⟩ : Keys), ()), ((⟨false, 1, (fun _ => v)⟩ : Keys), ()), ((⟨s.nl, (s.n - q), (tShift q s.g)⟩ : Keys), ())] ((⟨true, 0, fun _ => zK⟩ : Keys), ()))⟩ : Seq (Keys × Unit)) (by show (3 : Nat) ≤ 900; omega) (by
      show tot [((⟨s.nl, p, s.g⟩ : Keys), ()), ((⟨false, 1, (fun _ => v)⟩ : Keys), ()), ((⟨s.nl, (s.n - q), (tShift q s.g)⟩ : Keys), ())] ≤ 1000000
      simp only [tot, List.map_cons, List.map_nil, List.sum_cons, List.sum_nil]; omega)
    refine ⟨c, hc1, ?_, hc3⟩
    rw [hc2]
    show flat [((⟨s.nl, p, s.g⟩ : Keys), ()), ((⟨false, 1, (fun _ => v)⟩ : Keys), ()), ((⟨s.nl, (s.n - q), (tShift q s.g)⟩ : Keys), ())] = _
    simp only [flat, List.flatMap_cons, List.flatMap_nil, List.append_nil]
    rw [toL_take s.nl s.nl s.n p s.g hle, toL_shift s.nl s.nl s.n q s.g, toL_one]
    rfl
  by_cases h : p < s.n ∧ sameK (s.g p) v = true
  · obtain ⟨r, h1, h2, h3⟩ := conc (p + 1) (by omega)
    refine ⟨r, fun k => ?_, by rw [if_pos h]; exact h2, h3⟩
    have hw : IntKind.i64.wrap ((p : Int) + 1) = ((p + 1 : Nat) : Int) := wrap_succ (by omega)
    have e2 : decide (((p + 1 : Nat) : Int) ≤ (s.n : Int)) = true := decide_eq_true (by omega)
    simp only [keyed_put_api_Key, keyed_put_api_Key_g, bsearch_is s v hs (by omega) hp, decide_eq_true h, cond_true, hw, nn, e1, e2, Bool.and_self, toNatC]
    exact h1 k
  · obtain ⟨r, h1, h2, h3⟩ := conc p (by omega)
    refine ⟨r, fun k => ?_, by rw [if_neg h]; exact h2, h3⟩
    simp only [keyed_put_api_Key, keyed_put_api_Key_g, bsearch_is s v hs (by omega) hp, decide_eq_false h, cond_false, cond_true, nn, e1, Bool.and_self, toNatC]
    exact h1 k
def afterP (s : Keys) (v : Key) (p : Nat) : Nat := if p < s.n ∧ sameK (s.g p) v = true then p + 1 else p
theorem clone_is (s : Keys) (hs : Nil0 s) (hn : s.n ≤ 1000000) : ∃ r : Keys, (∀ k : Keys → Option α, slices_Clone_api_Key_api_Key s k = k r) ∧ toL r = toL s ∧ Nil0 r := by
  cases h : s.nl with
  | true =>
    refine ⟨⟨true, 0, (fun _ => zK)⟩, fun k => by simp only [slices_Clone_api_Key_api_Key, h, cond_true]; rfl, ?_, fun _ => rfl⟩
    have := hs h
    exact (List.length_eq_zero_iff.1 (by rw [toL_length, this])).symm
  | false =>
    refine ⟨⟨false, (0 + s.n), (tApp 0 (tSel [] zK) s.g)⟩, fun k => ?_, ?_, fun h => by cases h⟩
    · have e : decide (((0 + s.n)) * 48 ≤ 140737488355328) = true := decide_eq_true (by omega)
      simp only [slices_Clone_api_Key_api_Key, h, cond_false, e, cond_true]
      rfl
    · rw [toL_app false true s.nl 0 s.n]
      rfl
abbrev Come1 := Keys × Int × Int × Int × Int × Int × Int × Bool × Int × Bool × Unit
theorem marked2 (s : Keys) (a b m th bk num : Int) (is : Bool) (v : Int) (ag : Bool) (hf : fitK s = true) (hn : s.n ≤ 800) : ∃ r : Keys, (∀ k : Keys → Option α, keyed_come_marked (s, a, b, m, th, bk, num, is, v, ag, ()) 2 k = k r) ∧ toL r = putL (toL s) (a, b, 2, 1, bk, num, ()) ∧ Nil0 r := by
  obtain ⟨r, h1, h2⟩ := put_is (α := α) s (a, b, 2, 1, bk, num, ()) hf hn
  exact ⟨r, fun k => h1 k, h2⟩
theorem marked4 (s : Keys) (a b m th bk num : Int) (is : Bool) (v : Int) (ag : Bool) (hf : fitK s = true) (hn : s.n ≤ 800) : ∃ r : Keys, (∀ k : Keys → Option α, keyed_come_marked (s, a, b, m, th, bk, num, is, v, ag, ()) 4 k = k r) ∧ toL r = putL (toL s) (a, b, 4, th, 1, num, ()) ∧ Nil0 r := by
  obtain ⟨r, h1, h2⟩ := put_is (α := α) s (a, b, 4, th, 1, num, ()) hf hn
  exact ⟨r, fun k => h1 k, h2⟩
theorem marked3 (s : Keys) (a b m th bk num : Int) (is : Bool) (v : Int) (ag : Bool) (hf : fitK s = true) (hn : s.n ≤ 800) : ∃ r : Keys, (∀ k : Keys → Option α, keyed_come_marked (s, a, b, m, th, bk, num, is, v, ag, ()) 3 k = k r) ∧ toL r = putL (toL s) (a, b, 3, th, bk, num, ()) ∧ Nil0 r := by
  obtain ⟨r, h1, h2⟩ := put_is (α := α) s (a, b, 3, th, bk, num, ()) hf hn
  exact ⟨r, fun k => h1 k, h2⟩
theorem marked5 (s : Keys) (a b m th bk num : Int) (is : Bool) (v : Int) (ag : Bool) (hf : fitK s = true) (hn : s.n ≤ 800) : ∃ r : Keys, (∀ k : Keys → Option α, keyed_come_marked (s, a, b, m, th, bk, num, is, v, ag, ()) 5 k = k r) ∧ toL r = putL (toL s) (a, b, 5, th, bk, num, ()) ∧ Nil0 r := by
  obtain ⟨r, h1, h2⟩ := put_is (α := α) s (a, b, 5, th, bk, num, ()) hf hn
  exact ⟨r, fun k => h1 k, h2⟩
def backL (l : List Key) (a b m th bk num : Int) (is : Bool) (v : Int) : List Key × Int × Bool :=
  cond is (cond (m == 2) (cond (v == 1) (putL l (a, b, 4, th, 1, num, ()), 1, true) (l, 2, false)) (l, 1, false)) (cond (v == 1) (putL l (a, b, 3, th, bk, num, ()), 1, false) (l, 2, false))
def thereL' (l : List Key) (a b m th bk num : Int) (is : Bool) (v : Int) (ag : Bool) : List Key × Int × Bool :=
  cond is (cond (m == 2) (l, 1, false) (l, 3, false)) (cond (v == 1) (putL l (a, b, 2, 1, bk, num, ()), 1, true) (cond (v == 3) (cond ag (l, 2, false) (putL l (a, b, 5, th, bk, num, ()), 3, false)) (l, 2, false)))
theorem back_is (s : Keys) (h0 : Nil0 s) (a b m th bk num : Int) (is : Bool) (v : Int) (ag : Bool) (hf : fitK s = true) (hn : s.n ≤ 800) : ∃ r : Keys, (∀ k : Keys → Int → Bool → Option α, keyed_come_back (s, a, b, m, th, bk, num, is, v, ag, ()) k = k r (backL (toL s) a b m th bk num is v).2.1 (backL (toL s) a b m th bk num is v).2.2) ∧ toL r = (backL (toL s) a b m th bk num is v).1 ∧ Nil0 r := by
  unfold backL
  have hb : (v != 1) = !(v == 1) := rfl
  cases is with
  | true =>
    cases hm : (m == 2) with
    | false => exact ⟨s, fun k => by simp only [keyed_come_back, keyed_come_back_g, hm, cond_true, cond_false, Bool.not_false], rfl, h0⟩
    | true =>
      cases hv : (v == 1) with
      | false => exact ⟨s, fun k => by simp only [keyed_come_back, keyed_come_back_g, hm, hb, hv, cond_true, cond_false, Bool.not_true, Bool.not_false], rfl, h0⟩
      | true =>
        obtain ⟨r, h1, h2⟩ := marked4 (α := α) s a b m th bk num true v ag hf hn
        exact ⟨r, fun k => by simp only [keyed_come_back, keyed_come_back_g, hm, hb, hv, cond_true, cond_false, Bool.not_true, h1], h2⟩
  | false =>
    cases hv : (v == 1) with
    | false => exact ⟨s, fun k => by simp only [keyed_come_back, keyed_come_back_g, hb, hv, cond_true, cond_false, Bool.not_false], rfl, h0⟩
    | true =>
      obtain ⟨r, h1, h2⟩ := marked3 (α := α) s a b m th bk num false v ag hf hn
      exact ⟨r, fun k => by simp only [keyed_come_back, keyed_come_back_g, hb, hv, cond_true, cond_false, Bool.not_true, h1], h2⟩
theorem there_is (s : Keys) (h0 : Nil0 s) (a b m th bk num : Int) (is : Bool) (v : Int) (ag : Bool) (hf : fitK s = true) (hn : s.n ≤ 800) : ∃ r : Keys, (∀ k : Keys → Int → Bool → Option α, keyed_come_there (s, a, b, m, th, bk, num, is, v, ag, ()) k = k r (thereL' (toL s) a b m th bk num is v ag).2.1 (thereL' (toL s) a b m th bk num is v ag).2.2) ∧ toL r = (thereL' (toL s) a b m th bk num is v ag).1 ∧ Nil0 r := by
  unfold thereL'
  cases is with
  | true =>
    cases hm : (m == 2) with
    | false => exact ⟨s, fun k => by simp only [keyed_come_there, keyed_come_there_g, hm, cond_true, cond_false], rfl, h0⟩
    | true => exact ⟨s, fun k => by simp only [keyed_come_there, keyed_come_there_g, hm, cond_true, cond_false], rfl, h0⟩
  | false =>
    cases hv : (v == 1) with
    | true =>
      obtain ⟨r, h1, h2⟩ := marked2 (α := α) s a b m th bk num false v ag hf hn
      exact ⟨r, fun k => by simp only [keyed_come_there, keyed_come_there_g, hv, cond_true, cond_false, h1], h2⟩
    | false =>
      cases hv3 : (v == 3) with
      | false => exact ⟨s, fun k => by simp only [keyed_come_there, keyed_come_there_g, hv, hv3, cond_true, cond_false], rfl, h0⟩
      | true =>
        cases ag with
        | true => exact ⟨s, fun k => by simp only [keyed_come_there, keyed_come_there_g, hv, hv3, cond_true, cond_false, Bool.not_true], rfl, h0⟩
        | false =>
          obtain ⟨r, h1, h2⟩ := marked5 (α := α) s a b m th bk num false v false hf hn
          exact ⟨r, fun k => by simp only [keyed_come_there, keyed_come_there_g, hv, hv3, cond_true, cond_false, Bool.not_false, h1], h2⟩
/-- A request to keys that may be. -/
def comeF (l : List Key) (x : Ent) (v : Int) (y : Key) (is bk : Bool) : List Key × Int × Bool :=
  cond bk (cond is (backL l y.1 y.2.1 y.2.2.1 y.2.2.2.1 y.2.2.2.2.1 y.2.2.2.2.2.1 true v) (backL l x.2.1 x.2.2.1 0 0 0 x.2.2.2.2.2.1 false v))
    (cond is (thereL' l y.1 y.2.1 y.2.2.1 y.2.2.2.1 y.2.2.2.2.1 y.2.2.2.2.2.1 true v x.2.2.2.2.2.2.1) (thereL' l x.2.1 x.2.2.1 0 0 0 x.2.2.2.2.2.1 false v x.2.2.2.2.2.2.1))
def comeL (l : List Key) (x : Ent) (v : Int) : List Key × Int × Bool := comeF l x v (findK l x.2.1 x.2.2.1).1 (findK l x.2.1 x.2.2.1).2 x.2.2.2.1
def comeE (s : Keys) (x : Ent) (v : Int) : Int := cond (fitK s) (cond (oneB x) (cond (decide (v < 1)) 1 (cond (decide (v > 3)) 1 0)) 1) 12
def comeA (s : Keys) (x : Ent) (v : Int) : List Key × Int × Bool := cond (comeE s x v == 0) (comeL (toL s) x v) ([], 0, false)
theorem comeE_ok {s : Keys} {x : Ent} {v : Int} (h : comeE s x v = 0) : fitK s = true ∧ oneB x = true ∧ 1 ≤ v ∧ v ≤ 3 := by
  unfold comeE at h
  cases h1 : fitK s <;> cases h2 : oneB x <;> by_cases h3 : v < 1 <;> by_cases h4 : v > 3 <;> simp [h1, h2, h3, h4] at h
  exact ⟨rfl, rfl, by omega, by omega⟩
theorem come_is (s : Keys) (h0 : Nil0 s) (hn : s.n ≤ 700) (x : Ent) (v : Int) : ∃ r : Keys, (∀ k : Int → Bool → Int → Keys → Option α, keyed_Come s x v k = k (comeA s x v).2.1 (comeA s x v).2.2 (comeE s x v) r) ∧ toL r = (comeA s x v).1 ∧ Nil0 r := by
  have zn : Nil0 (⟨true, 0, (fun _ => zK)⟩ : Keys) := fun _ => rfl
  cases hf : fitK s with
  | false =>
    have he : comeE s x v = 12 := by simp [comeE, hf]
    exact ⟨⟨true, 0, (fun _ => zK)⟩, fun k => by simp only [keyed_Come, keyed_Come_g, keyedFit_is s (by omega), hf, Bool.not_false, cond_true, comeA, he]; rfl, by simp only [comeA, he]; rfl, zn⟩
  | true =>
  cases ho : oneB x with
  | false =>
    have he : comeE s x v = 1 := by simp [comeE, hf, ho]
    exact ⟨⟨true, 0, (fun _ => zK)⟩, fun k => by simp only [keyed_Come, keyed_Come_g, keyedFit_is s (by omega), hf, fit_one, ho, Bool.not_false, Bool.not_true, cond_true, cond_false, comeA, he]; rfl, by simp only [comeA, he]; rfl, zn⟩
  | true =>
  by_cases h1 : v < 1
  · have he : comeE s x v = 1 := by simp [comeE, hf, ho, h1]
    exact ⟨⟨true, 0, (fun _ => zK)⟩, fun k => by simp only [keyed_Come, keyed_Come_g, keyedFit_is s (by omega), hf, fit_one, ho, decide_eq_true h1, Bool.not_false, Bool.not_true, cond_true, cond_false, comeA, he]; rfl, by simp only [comeA, he]; rfl, zn⟩
  by_cases h2 : v > 3
  · have he : comeE s x v = 1 := by simp [comeE, hf, ho, h1, h2]
    exact ⟨⟨true, 0, (fun _ => zK)⟩, fun k => by simp only [keyed_Come, keyed_Come_g, keyedFit_is s (by omega), hf, fit_one, ho, decide_eq_false h1, decide_eq_true h2, Bool.not_false, Bool.not_true, cond_true, cond_false, comeA, he]; rfl, by simp only [comeA, he]; rfl, zn⟩
  have he : comeE s x v = 0 := by simp [comeE, hf, ho, h1, h2]
  have hA : comeA s x v = comeL (toL s) x v := by simp only [comeA, he]; rfl
  rw [hA, he]
  unfold comeL
  cases hfd : (findK (toL s) x.2.1 x.2.2.1).2 with
  | false =>
    cases hbk : x.2.2.2.1 with
    | true =>
      obtain ⟨r, g1, g2, g3⟩ := back_is (α := α) s h0 x.2.1 x.2.2.1 0 0 0 x.2.2.2.2.2.1 false v x.2.2.2.2.2.2.1 hf (by omega)
      have hrn : r.n ≤ 1000000 := by
        have := congrArg List.length g2
        rw [toL_length] at this
        have hl : (backL (toL s) x.2.1 x.2.2.1 0 0 0 x.2.2.2.2.2.1 false v).1.length ≤ 1401 := by
          unfold backL putL
          have b1 := List.length_filter_le (fun y => ltK y (x.2.1, x.2.2.1, 3, 0, 0, x.2.2.2.2.2.1, ())) (toL s)
          have b2 := List.length_filter_le (fun y => ltK (x.2.1, x.2.2.1, 3, 0, 0, x.2.2.2.2.2.1, ()) y) (toL s)
          rw [toL_length] at b1 b2
          cases (v == 1) <;> simp [toL_length] <;> omega
        omega
      obtain ⟨c, c1, c2, c3⟩ := clone_is (α := α) r g3 hrn
      refine ⟨c, fun k => ?_, by rw [c2, g2]; rfl, c3⟩
      simp only [keyed_Come, keyed_Come_g, keyedFit_is s (by omega), hf, fit_one, ho, decide_eq_false h1, decide_eq_false h2, find_is s (by omega), hfd, hbk, Bool.not_false, Bool.not_true, cond_true, cond_false, g1, c1, comeF]
    | false =>
      obtain ⟨r, g1, g2, g3⟩ := there_is (α := α) s h0 x.2.1 x.2.2.1 0 0 0 x.2.2.2.2.2.1 false v x.2.2.2.2.2.2.1 hf (by omega)
      have hrn : r.n ≤ 1000000 := by
        have := congrArg List.length g2
        rw [toL_length] at this
        have hl : (thereL' (toL s) x.2.1 x.2.2.1 0 0 0 x.2.2.2.2.2.1 false v x.2.2.2.2.2.2.1).1.length ≤ 1401 := by
          unfold thereL' putL
          have b1 := List.length_filter_le (fun y => ltK y (x.2.1, x.2.2.1, 2, 1, 0, x.2.2.2.2.2.1, ())) (toL s)
          have b2 := List.length_filter_le (fun y => ltK (x.2.1, x.2.2.1, 2, 1, 0, x.2.2.2.2.2.1, ()) y) (toL s)
          have b3 := List.length_filter_le (fun y => ltK y (x.2.1, x.2.2.1, 5, 0, 0, x.2.2.2.2.2.1, ())) (toL s)
          have b4 := List.length_filter_le (fun y => ltK (x.2.1, x.2.2.1, 5, 0, 0, x.2.2.2.2.2.1, ()) y) (toL s)
          rw [toL_length] at b1 b2 b3 b4
          cases (v == 1) <;> cases (v == 3) <;> cases x.2.2.2.2.2.2.1 <;> simp [toL_length] <;> omega
        omega
      obtain ⟨c, c1, c2, c3⟩ := clone_is (α := α) r g3 hrn
      refine ⟨c, fun k => ?_, by rw [c2, g2]; rfl, c3⟩
      simp only [keyed_Come, keyed_Come_g, keyedFit_is s (by omega), hf, fit_one, ho, decide_eq_false h1, decide_eq_false h2, find_is s (by omega), hfd, hbk, Bool.not_false, Bool.not_true, cond_true, cond_false, g1, c1, comeF]
  | true =>
    generalize hy : (findK (toL s) x.2.1 x.2.2.1).1 = y
    cases hbk : x.2.2.2.1 with
    | true =>
      obtain ⟨r, g1, g2, g3⟩ := back_is (α := α) s h0 y.1 y.2.1 y.2.2.1 y.2.2.2.1 y.2.2.2.2.1 y.2.2.2.2.2.1 true v x.2.2.2.2.2.2.1 hf (by omega)
      have hrn : r.n ≤ 1000000 := by
        have := congrArg List.length g2
        rw [toL_length] at this
        have hl : (backL (toL s) y.1 y.2.1 y.2.2.1 y.2.2.2.1 y.2.2.2.2.1 y.2.2.2.2.2.1 true v).1.length ≤ 1401 := by
          unfold backL putL
          have b1 := List.length_filter_le (fun z => ltK z (y.1, y.2.1, 4, y.2.2.2.1, 1, y.2.2.2.2.2.1, ())) (toL s)
          have b2 := List.length_filter_le (fun z => ltK (y.1, y.2.1, 4, y.2.2.2.1, 1, y.2.2.2.2.2.1, ()) z) (toL s)
          rw [toL_length] at b1 b2
          cases (y.2.2.1 == 2) <;> cases (v == 1) <;> simp [toL_length] <;> omega
        omega
      obtain ⟨c, c1, c2, c3⟩ := clone_is (α := α) r g3 hrn
      refine ⟨c, fun k => ?_, by rw [c2, g2]; rfl, c3⟩
      simp only [keyed_Come, keyed_Come_g, keyedFit_is s (by omega), hf, fit_one, ho, decide_eq_false h1, decide_eq_false h2, find_is s (by omega), hfd, hy, hbk, Bool.not_false, Bool.not_true, cond_true, cond_false, g1, c1, comeF]
    | false =>
      obtain ⟨r, g1, g2, g3⟩ := there_is (α := α) s h0 y.1 y.2.1 y.2.2.1 y.2.2.2.1 y.2.2.2.2.1 y.2.2.2.2.2.1 true v x.2.2.2.2.2.2.1 hf (by omega)
      have hrn : r.n ≤ 1000000 := by
        have := congrArg List.length g2
        rw [toL_length] at this
        have hl : (thereL' (toL s) y.1 y.2.1 y.2.2.1 y.2.2.2.1 y.2.2.2.2.1 y.2.2.2.2.2.1 true v x.2.2.2.2.2.2.1).1.length ≤ 1401 := by
          unfold thereL'
          cases (y.2.2.1 == 2) <;> simp [toL_length] <;> omega
        omega
      obtain ⟨c, c1, c2, c3⟩ := clone_is (α := α) r g3 hrn
      refine ⟨c, fun k => ?_, by rw [c2, g2]; rfl, c3⟩
      simp only [keyed_Come, keyed_Come_g, keyedFit_is s (by omega), hf, fit_one, ho, decide_eq_false h1, decide_eq_false h2, find_is s (by omega), hfd, hy, hbk, Bool.not_false, Bool.not_true, cond_true, cond_false, g1, c1, comeF]
theorem come_n (s : Keys) (x : Ent) (v : Int) (hn : s.n ≤ 700) : (comeA s x v).1.length ≤ 2 * s.n + 1 := by
  have hp : ∀ y : Key, (putL (toL s) y).length ≤ 2 * s.n + 1 := by
    intro y
    have b1 := List.length_filter_le (fun z => ltK z y) (toL s)
    have b2 := List.length_filter_le (fun z => ltK y z) (toL s)
    rw [toL_length] at b1 b2
    unfold putL
    rw [List.length_append, List.length_cons]
    omega
  have hL : (toL s).length ≤ 2 * s.n + 1 := by rw [toL_length]; omega
  have hB : ∀ a b m th bk num is, (backL (toL s) a b m th bk num is v).1.length ≤ 2 * s.n + 1 := by
    intro a b m th bk num is
    unfold backL
    cases is <;> cases (m == 2) <;> cases (v == 1) <;> first | exact hL | exact hp _
  have hT : ∀ a b m th bk num is ag, (thereL' (toL s) a b m th bk num is v ag).1.length ≤ 2 * s.n + 1 := by
    intro a b m th bk num is ag
    unfold thereL'
    cases is <;> cases (m == 2) <;> cases (v == 1) <;> cases (v == 3) <;> cases ag <;> first | exact hL | exact hp _
  unfold comeA
  cases (comeE s x v == 0) with
  | false => simp
  | true =>
    show (comeL (toL s) x v).1.length ≤ _
    unfold comeL comeF
    cases (findK (toL s) x.2.1 x.2.2.1).2 <;> cases x.2.2.2.1 <;> (simp only [cond_true, cond_false]; first | apply hB | apply hT)
def eqK (a b : Key) : Bool := ((a.1 == b.1) && ((a.2.1 == b.2.1) && ((a.2.2.1 == b.2.2.1) && ((a.2.2.2.1 == b.2.2.2.1) && ((a.2.2.2.2.1 == b.2.2.2.2.1) && ((a.2.2.2.2.2.1 == b.2.2.2.2.2.1) && true))))))
theorem eqK_is (a b : Key) : eqK a b = decide (a = b) := by
  obtain ⟨a1, a2, a3, a4, a5, a6, ⟨⟩⟩ := a
  obtain ⟨b1, b2, b3, b4, b5, b6, ⟨⟩⟩ := b
  rw [Bool.eq_iff_iff]
  simp only [eqK, Bool.and_eq_true, beq_iff_eq, decide_eq_true_eq, Prod.mk.injEq, and_true]
theorem ne_of_n {s t : Keys} (h : s.n ≠ t.n) : toL s ≠ toL t := fun e => h (by rw [← toL_length s, ← toL_length t, e])
def sumT (l : List Key) : Int := (l.map (·.2.2.2.1)).sum
def sumB (l : List Key) : Int := (l.map (·.2.2.2.2.1)).sum
theorem one_01 {x : Key} (h : oneK x = true) : (0 ≤ x.2.2.2.1 ∧ x.2.2.2.1 ≤ 1) ∧ 0 ≤ x.2.2.2.2.1 ∧ x.2.2.2.2.1 ≤ 1 := by
  simp only [oneK, Bool.and_eq_true] at h
  have hm := h.2.2.2.2
  unfold markB at hm
  split at hm
  · simp only [Bool.and_eq_true, beq_iff_eq] at hm; omega
  · split at hm
    · simp only [Bool.and_eq_true, beq_iff_eq] at hm; omega
    · split at hm
      · simp only [Bool.and_eq_true, beq_iff_eq] at hm; omega
      · split at hm
        · simp only [Bool.and_eq_true, beq_iff_eq] at hm; omega
        · cases hm
theorem effects_loop (k0 : Int → Int → Option α) (s : Keys) (hall : ∀ x ∈ toL s, oneK x = true) (hn : s.n ≤ 900) : ∀ (d j N : Nat) (a b : Int), j + d = s.n → d < N → 0 ≤ a → a ≤ j → 0 ≤ b → b ≤ j →
    keyed_Effects_l0_run keyed_Fit k0 N a b s (s.n : Int) (j : Int) = k0 (a + sumT ((toL s).drop j)) (b + sumB ((toL s).drop j)) := by
  intro d
  induction d with
  | zero =>
    intro j N a b hj hN h1 h2 h3 h4
    obtain ⟨N, rfl⟩ : ∃ M, N = M + 1 := ⟨N - 1, by omega⟩
    have : ¬ ((j : Int) < (s.n : Int)) := by omega
    simp only [keyed_Effects_l0_run, keyed_Effects_l0_step, ltF this, cond_false, toL_end s (show s.n ≤ j by omega), sumT, sumB, List.map_nil, List.sum_nil, Int.add_zero]
  | succ d ih =>
    intro j N a b hj hN h1 h2 h3 h4
    obtain ⟨N, rfl⟩ : ∃ M, N = M + 1 := ⟨N - 1, by omega⟩
    have h5 : (j : Int) < (s.n : Int) := by omega
    obtain ⟨⟨g1, g2⟩, g3, g4⟩ := one_01 (hall (s.g j) (List.mem_of_getElem? (toL_get s (show j < s.n by omega))))
    have w1 : IntKind.i64.wrap (a + (s.g j).2.2.2.1) = a + (s.g j).2.2.2.1 := wrap64 (by omega) (by omega)
    have w2 : IntKind.i64.wrap (b + (s.g j).2.2.2.2.1) = b + (s.g j).2.2.2.2.1 := wrap64 (by omega) (by omega)
    simp only [keyed_Effects_l0_run, keyed_Effects_l0_step, ltT h5, nn, Bool.and_self, cond_true, toNatC, w1, w2, wrap_succ (show j < 9223372036854775807 by omega)]
    rw [ih (j + 1) N _ _ (by omega) (by omega) (by omega) (by omega) (by omega) (by omega), toL_drop s (show j < s.n by omega)]
    simp only [sumT, sumB, List.map_cons, List.sum_cons, Int.add_assoc]
theorem fit_all {s : Keys} (h : fitK s = true) : ∀ x ∈ toL s, oneK x = true := fun x hx => ((fitFrom_all _ _ h).1 x hx).1
theorem effects_is (s : Keys) (hn : s.n ≤ 900) (k : Int → Int → Option α) : keyed_Effects s k = k (cond (fitK s) (sumT (toL s)) 0) (cond (fitK s) (sumB (toL s)) 0) := by
  simp only [keyed_Effects, keyed_Effects_g, keyedFit_is s hn]
  cases hf : fitK s with
  | false => rfl
  | true =>
    have h := effects_loop (α := α) (fun x8 x9 => (k x8 x9)) s (fit_all hf) hn s.n 0 1000 0 0 (by omega) (by omega) (by omega) (by omega) (by omega) (by omega)
    rw [List.drop_zero, Int.zero_add, Int.zero_add] at h
    exact h
abbrev Par := Int × Int × Int × Bool × Unit
abbrev Pars := Seq Par
noncomputable instance parDec : DecidableEq Par := fun _ _ => Classical.propDecidable _
def zP : Par := (0, 0, 0, false, ())
def totP (l : List (Pars × Unit)) : Nat := (l.map (·.1.n)).sum
def flatP (l : List (Pars × Unit)) : List Par := l.flatMap fun x => toL x.1
def Nil0P (s : Pars) : Prop := s.nl = true → s.n = 0
theorem concat_sumP (k0 : Seq (Pars × Unit) → Int → Pars → Option α) (a : Seq (Pars × Unit)) (q : Pars) (hn : a.n < 4611686018427387904) : ∀ (m j N : Nat) (z : Nat), j + m = a.n → m < N → z + totP ((toL a).drop j) < 4611686018427387904 →
    slices_Concat_carry_Parcel_carry_Parcel_l0_run k0 N a (z : Int) a (a.n : Int) (j : Int) q = k0 a ((z + totP ((toL a).drop j) : Nat) : Int) q := by
  intro m
  induction m with
  | zero =>
    intro j N z hj hN hz
    obtain ⟨N, rfl⟩ : ∃ M, N = M + 1 := ⟨N - 1, by omega⟩
    have : ¬ ((j : Int) < (a.n : Int)) := by omega
    simp only [slices_Concat_carry_Parcel_carry_Parcel_l0_run, slices_Concat_carry_Parcel_carry_Parcel_l0_step, ltF this, cond_false, toL_end a (show a.n ≤ j by omega), totP, List.map_nil, List.sum_nil, Nat.add_zero]
  | succ m ih =>
    intro j N z hj hN hz
    obtain ⟨N, rfl⟩ : ∃ M, N = M + 1 := ⟨N - 1, by omega⟩
    have h1 : (j : Int) < (a.n : Int) := by omega
    rw [toL_drop a (show j < a.n by omega)] at hz ⊢
    simp only [totP, List.map_cons, List.sum_cons] at hz ⊢
    have hw : IntKind.i64.wrap ((z : Int) + (((a.g j).1.n : Nat) : Int)) = ((z + (a.g j).1.n : Nat) : Int) := by
      rw [wrap64 (by omega) (by omega)]; omega
    have hneg : ¬ (((z + (a.g j).1.n : Nat) : Int) < 0) := by omega
    simp only [slices_Concat_carry_Parcel_carry_Parcel_l0_run, slices_Concat_carry_Parcel_carry_Parcel_l0_step, ltT h1, nn, Bool.and_self, cond_true, toNatC, hw, ltF hneg, cond_false, wrap_succ (show j < 9223372036854775807 by omega)]
    rw [ih (j + 1) N _ (by omega) (by omega) (by simp only [totP]; omega)]
    simp only [totP, Nat.add_assoc]
def app1P (q : Pars) (x : Pars × Unit) : Pars := ⟨(q.nl && (Nat.beq x.1.n 0)), (q.n + x.1.n), (tApp q.n q.g x.1.g)⟩
theorem app1_toLP (q : Pars) (x : Pars × Unit) : toL (app1P q x) = toL q ++ toL x.1 := by
  exact toL_app _ q.nl x.1.nl q.n x.1.n q.g x.1.g
theorem app1_ntoLP {q : Pars} (hq : Nil0P q) (x : Pars × Unit) : Nil0P (app1P q x) := fun h => by
  simp only [app1P, Bool.and_eq_true, Nat.beq_eq] at h
  have := hq h.1
  simp only [app1P]
  omega
theorem foldl_toLP : ∀ (l : List (Pars × Unit)) (q : Pars), toL (l.foldl app1P q) = toL q ++ flatP l
  | [], q => by simp [flatP]
  | x :: l, q => by simp only [List.foldl_cons, foldl_toLP l, app1_toLP, flatP, List.flatMap_cons, List.append_assoc]
theorem foldl_ntoLP : ∀ (l : List (Pars × Unit)) (q : Pars), Nil0P q → Nil0P (l.foldl app1P q)
  | [], q, h => h
  | x :: l, q, h => foldl_ntoLP l _ (app1_ntoLP h x)
theorem concat_putP (k2 : Pars → Pars → Pars → Option α) (a : Seq (Pars × Unit)) (q4 q5 : Pars) (hn : a.n < 4611686018427387904) : ∀ (m j N : Nat) (q : Pars), j + m = a.n → m < N → q.n + totP ((toL a).drop j) ≤ 1000000 →
    slices_Concat_carry_Parcel_carry_Parcel_l1_run k2 N a (a.n : Int) (j : Int) q4 q5 q = k2 q4 q5 (((toL a).drop j).foldl app1P q) := by
  intro m
  induction m with
  | zero =>
    intro j N q hj hN hz
    obtain ⟨N, rfl⟩ : ∃ M, N = M + 1 := ⟨N - 1, by omega⟩
    have : ¬ ((j : Int) < (a.n : Int)) := by omega
    simp only [slices_Concat_carry_Parcel_carry_Parcel_l1_run, slices_Concat_carry_Parcel_carry_Parcel_l1_step, ltF this, cond_false, toL_end a (show a.n ≤ j by omega), List.foldl_nil]
  | succ m ih =>
    intro j N q hj hN hz
    obtain ⟨N, rfl⟩ : ∃ M, N = M + 1 := ⟨N - 1, by omega⟩
    have h1 : (j : Int) < (a.n : Int) := by omega
    rw [toL_drop a (show j < a.n by omega)] at hz ⊢
    simp only [totP, List.map_cons, List.sum_cons] at hz
    have hle : decide (((q.n + (a.g j).1.n)) * 32 ≤ 140737488355328) = true := decide_eq_true (by omega)
    simp only [slices_Concat_carry_Parcel_carry_Parcel_l1_run, slices_Concat_carry_Parcel_carry_Parcel_l1_step, ltT h1, nn, Bool.and_self, cond_true, toNatC, hle, wrap_succ (show j < 9223372036854775807 by omega), List.foldl_cons]
    exact ih (j + 1) N (app1P q (a.g j)) (by omega) (by omega) (by simp only [app1P, totP]; omega)
theorem concat_isP (a : Seq (Pars × Unit)) (hn : a.n ≤ 900) (ht : totP (toL a) ≤ 1000000) : ∃ r, (∀ k : Pars → Option α, slices_Concat_carry_Parcel_carry_Parcel a k = k r) ∧ toL r = flatP (toL a) ∧ Nil0P r := by
  have h3 : ¬ (((0 + totP (toL a) : Nat) : Int) < 0) := by omega
  have hw : IntKind.i64.wrap (((0 + totP (toL a) : Nat) : Int) - 0) = ((totP (toL a) : Nat) : Int) := by
    rw [wrap64 (by omega) (by omega)]; omega
  have hsum : ∀ (k0 : Seq (Pars × Unit) → Int → Pars → Option α) q, slices_Concat_carry_Parcel_carry_Parcel_l0_run k0 1000 a 0 a (a.n : Int) 0 q = k0 a ((0 + totP (toL a) : Nat) : Int) q := by
    intro k0 q
    have := concat_sumP k0 a q (by omega) a.n 0 1000 0 (by omega) (by omega) (by simp; omega)
    simpa using this
  have hput : ∀ (k2 : Pars → Pars → Pars → Option α) q4 q5 (q : Pars), q.n = 0 → slices_Concat_carry_Parcel_carry_Parcel_l1_run k2 1000 a (a.n : Int) 0 q4 q5 q = k2 q4 q5 ((toL a).foldl app1P q) := by
    intro k2 q4 q5 q hq
    have := concat_putP k2 a q4 q5 (by omega) a.n 0 1000 q (by omega) (by omega) (by simp; omega)
    simpa using this
  by_cases hz : ((totP (toL a) : Nat) : Int) > 0
  · refine ⟨(toL a).foldl app1P ⟨(Nat.beq (((totP (toL a) : Nat) : Int)).toNat 0), 0, (tApp 0 (fun _ => zP) (fun _ => zP))⟩, fun k => ?_, by rw [foldl_toLP]; rfl, foldl_ntoLP _ _ fun _ => rfl⟩
    unfold slices_Concat_carry_Parcel_carry_Parcel
    rw [hsum]
    have e1 : decide (((totP (toL a) : Nat) : Int) * 32 ≤ 140737488355328) = true := decide_eq_true (by omega)
    have e2 : decide ((0 + ((totP (toL a) : Nat) : Int).toNat) * 32 ≤ 140737488355328) = true := decide_eq_true (by omega)
    have e3 : decide ((0 : Int) ≤ (((0 + ((totP (toL a) : Nat) : Int).toNat) : Nat) : Int)) = true := decide_eq_true (by omega)
    simp only [ltF h3, cond_false, hw, decide_eq_true hz, cond_true, nn, e1, e2, e3, Bool.and_self]
    exact hput _ _ _ _ rfl
  · refine ⟨(toL a).foldl app1P ⟨true, 0, (fun _ => zP)⟩, fun k => ?_, by rw [foldl_toLP]; rfl, foldl_ntoLP _ _ fun _ => rfl⟩
    unfold slices_Concat_carry_Parcel_carry_Parcel
    rw [hsum]
    simp only [ltF h3, cond_false, hw, decide_eq_false hz]
    exact hput _ _ _ _ rfl
theorem mGet_put {kt : Ty} {β : Type} (hr : ∀ x y : Tup kt, kt.beq x y = true ↔ x = y) (x y : Tup kt) (v : β) : ∀ m : List (Tup kt × β), mGet kt (mPut kt m x v) y = cond (kt.beq y x) (some v) (mGet kt m y)
  | [] => rfl
  | (k, u) :: m => by
    simp only [mPut]
    cases e : kt.beq x k with
    | true =>
      have hk := (hr x k).1 e
      subst hk
      simp only [cond_true, mGet]
      cases kt.beq y x <;> rfl
    | false =>
      simp only [cond_false, mGet, mGet_put hr x y v m]
      cases h : kt.beq y x with
      | true =>
        have := (hr y x).1 h
        subst this
        rw [e]; rfl
      | false => cases kt.beq y k <;> rfl
abbrev Dep := Keys × Int × Pars × Unit

/-! ### Depots that may be -/
theorem beq_int2 (x y : Tup (.int .i64 (.int .i64 .nil))) : Ty.beq (.int .i64 (.int .i64 .nil)) x y = true ↔ x = y := by
  obtain ⟨x, x', ⟨⟩⟩ := x
  obtain ⟨y, y', ⟨⟩⟩ := y
  simp only [Ty.beq, Bool.and_true, beq_iff_eq, Bool.and_eq_true]
  exact ⟨fun h => by rw [h.1, h.2], fun h => ⟨congrArg (fun p => p.1) h, congrArg (fun p => p.2.1) h⟩⟩
abbrev Met := List ((Int × Int × Unit) × (Bool × Unit))
def hasP (l : List Par) (a b : Int) : Bool := l.any fun p => p.2.1 == a && p.2.2.1 == b
def MetOk (m : Met) (pre : List Par) : Prop := ∀ a b : Int, (mGetD (.int .i64 (.int .i64 .nil)) (β := Bool × Unit) m (a, b, ()) (false, ())).1 = hasP pre a b
theorem MetOk.nil : MetOk [] [] := fun a b => rfl
theorem MetOk.put {m : Met} {pre : List Par} (h : MetOk m pre) (p : Par) : MetOk (mPut (.int .i64 (.int .i64 .nil)) (β := Bool × Unit) m (p.2.1, p.2.2.1, ()) (true, ())) (pre ++ [p]) := by
  intro a b
  have hy := h a b
  have hg := mGet_put (kt := .int .i64 (.int .i64 .nil)) (β := Bool × Unit) beq_int2 (p.2.1, p.2.2.1, ()) (a, b, ()) (true, ()) m
  refine (congrArg (fun o => (Option.getD o (false, ())).1) hg).trans ?_
  have hb : Ty.beq (.int .i64 (.int .i64 .nil)) (a, b, ()) (p.2.1, p.2.2.1, ()) = (p.2.1 == a && p.2.2.1 == b) := by
    rw [Bool.eq_iff_iff]
    refine (beq_int2 _ _).trans ?_
    simp only [Bool.and_eq_true, beq_iff_eq]
    exact ⟨fun h => ⟨(congrArg (fun p => p.1) h).symm, (congrArg (fun p => p.2.1) h).symm⟩, fun h => by rw [h.1, h.2]⟩
  rw [hb]
  simp only [hasP, List.any_append, List.any_cons, List.any_nil, Bool.or_false]
  cases (p.2.1 == a && p.2.2.1 == b) with
  | true => simp
  | false => simp only [cond_false, Bool.or_false]; exact hy
def markP (p : Par) : Int := cond p.2.2.2.1 4 2
def parFrom (K : List Key) : List Par → Nat → List Par → Bool
  | _, _, [] => true
  | pre, i, p :: l => (p.1 == ((i + 1 : Nat) : Int)) && ((findK K p.2.1 p.2.2.1).2 && (((findK K p.2.1 p.2.2.1).1.2.2.1 == markP p) && (!(hasP pre p.2.1 p.2.2.1) && parFrom K (pre ++ [p]) (i + 1) l)))
def depB (d : Dep) : Bool := fitK d.1 && (idB d.2.1 && ((sumT (toL d.1) == (d.2.2.1.n : Int)) && parFrom (toL d.1) [] 0 (toL d.2.2.1)))
theorem mark_is (p : Par) (k : Int → Option α) : carry_mark p k = k (markP p) := by
  unfold carry_mark markP
  cases p.2.2.2.1 <;> rfl
theorem depFit_loop (kr : Bool → Dep → Met → Option α) (k0 : Dep → Met → Option α) (d : Dep) (hk : d.1.n ≤ 900) (hn : d.2.2.1.n ≤ 900) (rf rt : Option α) (hkr : ∀ d m, kr false d m = rf) (hk0 : ∀ m, k0 d m = rt) : ∀ (c j N : Nat) (m : Met) (pre : List Par), j + c = d.2.2.1.n → c < N → MetOk m pre →
    carry_Fit_l0_run keyed_Effects keyed_Fit keyed_Find carry_mark kr k0 N d.2.2.1 (d.2.2.1.n : Int) (j : Int) d m = cond (parFrom (toL d.1) pre j ((toL d.2.2.1).drop j)) rt rf := by
  intro c
  induction c with
  | zero =>
    intro j N m pre hj hN hm
    obtain ⟨N, rfl⟩ : ∃ M, N = M + 1 := ⟨N - 1, by omega⟩
    have h3 : ¬ ((j : Int) < (d.2.2.1.n : Int)) := by omega
    simp only [carry_Fit_l0_run, carry_Fit_l0_step, ltF h3, cond_false, toL_end d.2.2.1 (show d.2.2.1.n ≤ j by omega), parFrom, cond_true, hk0]
  | succ c ih =>
    intro j N m pre hj hN hm
    obtain ⟨N, rfl⟩ : ∃ M, N = M + 1 := ⟨N - 1, by omega⟩
    have h3 : (j : Int) < (d.2.2.1.n : Int) := by omega
    have h4 := ih (j + 1) N _ _ (by omega) (by omega) (hm.put (d.2.2.1.g j))
    simp only [carry_Fit_l0_run, carry_Fit_l0_step, ltT h3, nn, Bool.and_self, toNatC, cond_true, wrap_succ (show j < 9223372036854775807 by omega), find_is d.1 hk, mark_is, hm (d.2.2.1.g j).2.1 (d.2.2.1.g j).2.2.1, hkr, Bool.not_not]
    rw [toL_drop d.2.2.1 (show j < d.2.2.1.n by omega)]
    simp only [parFrom, bne, Bool.not_not]
    rw [h4]
    cases ((d.2.2.1.g j).1 == ((j + 1 : Nat) : Int)) <;> cases (findK (toL d.1) (d.2.2.1.g j).2.1 (d.2.2.1.g j).2.2.1).2 <;> cases ((findK (toL d.1) (d.2.2.1.g j).2.1 (d.2.2.1.g j).2.2.1).1.2.2.1 == markP (d.2.2.1.g j)) <;> cases hasP pre (d.2.2.1.g j).2.1 (d.2.2.1.g j).2.2.1 <;> rfl
theorem depFit_is (d : Dep) (hk : d.1.n ≤ 900) (hn : d.2.2.1.n ≤ 900) (k : Bool → Option α) : carry_Fit d k = k (depB d) := by
  simp only [carry_Fit, carry_Fit_g, effects_is d.1 hk, keyedFit_is d.1 hk, depB]
  cases hf : fitK d.1 with
  | false => rfl
  | true =>
  by_cases h1 : d.2.1 < 1
  · have : idB d.2.1 = false := by simp [idB]; omega
    simp only [decide_eq_true h1, this, Bool.not_true, Bool.not_false, cond_true, cond_false, Bool.false_and, Bool.and_false]
  by_cases h2 : d.2.1 > 1099511627776
  · have : idB d.2.1 = false := by simp [idB]; omega
    simp only [decide_eq_false h1, decide_eq_true h2, this, Bool.not_true, Bool.not_false, cond_true, cond_false, Bool.false_and, Bool.and_false]
  have : idB d.2.1 = true := by simp [idB]; omega
  simp only [decide_eq_false h1, decide_eq_false h2, this, Bool.not_true, Bool.not_false, cond_true, cond_false, Bool.true_and, bne]
  cases hs : (sumT (toL d.1) == (d.2.2.1.n : Int)) with
  | false => rfl
  | true =>
    have h := depFit_loop (α := α) (fun x13 x14 m15 => (k x13)) (fun x16 m17 => (k true)) d hk hn (k false) (k true) (fun _ _ => rfl) (fun _ => rfl) d.2.2.1.n 0 1000 [] [] (by omega) (by omega) MetOk.nil
    rw [List.drop_zero] at h
    simp only [Bool.not_true, cond_false, Bool.true_and]
    refine Eq.trans h ?_
    cases parFrom (toL d.1) [] 0 (toL d.2.2.1) <;> rfl
def outL (l : List Par) : Nat := l.countP fun p => !p.2.2.2.1
theorem out_loop (k0 : Int → Option α) (s : Pars) (hn : s.n ≤ 900) : ∀ (c j N e : Nat), j + c = s.n → c < N → e ≤ j →
    carry_count_l0_run carry_Out_1 k0 N (e : Int) s (s.n : Int) (j : Int) = k0 ((e + outL ((toL s).drop j) : Nat) : Int) := by
  intro c
  induction c with
  | zero =>
    intro j N e hj hN he
    obtain ⟨N, rfl⟩ : ∃ M, N = M + 1 := ⟨N - 1, by omega⟩
    have h3 : ¬ ((j : Int) < (s.n : Int)) := by omega
    simp only [carry_count_l0_run, carry_count_l0_step, ltF h3, cond_false, toL_end s (show s.n ≤ j by omega), outL, List.countP_nil, Nat.add_zero]
  | succ c ih =>
    intro j N e hj hN he
    obtain ⟨N, rfl⟩ : ∃ M, N = M + 1 := ⟨N - 1, by omega⟩
    have h3 : (j : Int) < (s.n : Int) := by omega
    have i1 := ih (j + 1) N (e + 1) (by omega) (by omega) (by omega)
    have i2 := ih (j + 1) N e (by omega) (by omega) (by omega)
    simp only [carry_count_l0_run, carry_count_l0_step, ltT h3, nn, Bool.and_self, toNatC, cond_true, wrap_succ (show j < 9223372036854775807 by omega), wrap_succ (show e < 9223372036854775807 by omega), carry_Out_1, i1, i2]
    rw [toL_drop s (show j < s.n by omega)]
    simp only [outL, List.countP_cons]
    cases (s.g j).2.2.2.1 <;> simp only [Bool.not_true, Bool.not_false, cond_true, cond_false, if_true, Bool.false_eq_true, if_false, Nat.add_zero] <;> (congr 2; omega)
theorem out_is (d : Dep) (hn : d.2.2.1.n ≤ 900) (k : Int → Option α) : carry_Out d k = k ((outL (toL d.2.2.1) : Nat) : Int) := by
  have h := out_loop (α := α) (fun x7 => (k x7)) d.2.2.1 hn d.2.2.1.n 0 1000 0 (by omega) (by omega) (by omega)
  rw [List.drop_zero, Nat.zero_add] at h
  exact h
def eqP (a b : Par) : Bool := ((a.1 == b.1) && ((a.2.1 == b.2.1) && ((a.2.2.1 == b.2.2.1) && ((a.2.2.2.1 == b.2.2.2.1) && true))))
theorem eqP_is (a b : Par) : eqP a b = decide (a = b) := by
  obtain ⟨a1, a2, a3, a4, ⟨⟩⟩ := a
  obtain ⟨b1, b2, b3, b4, ⟨⟩⟩ := b
  rw [Bool.eq_iff_iff]
  simp only [eqP, Bool.and_eq_true, beq_iff_eq, decide_eq_true_eq, Prod.mk.injEq, and_true]
theorem ne_of_nP {s t : Pars} (h : s.n ≠ t.n) : toL s ≠ toL t := fun e => h (by rw [← toL_length s, ← toL_length t, e])
noncomputable def sameD (a b : Dep) : Bool := (a.2.1 == b.2.1) && (decide (toL a.1 = toL b.1) && decide (toL a.2.2.1 = toL b.2.2.1))
def takeP (x : Ent) (p : Par) : Par := cond (p.2.1 == x.2.1 && p.2.2.1 == x.2.2.1) (p.1, p.2.1, p.2.2.1, true, ()) p
def tookL (l : List Par) (x : Ent) : List Par := cond x.2.2.2.1 (l.map (takeP x)) (l ++ [(((l.length + 1 : Nat) : Int), x.2.1, x.2.2.1, false, ())])
theorem cloneP_is (s : Pars) (hs : Nil0P s) (hn : s.n ≤ 1000000) : ∃ r : Pars, (∀ k : Pars → Option α, slices_Clone_carry_Parcel_carry_Parcel s k = k r) ∧ toL r = toL s ∧ Nil0P r := by
  cases h : s.nl with
  | true =>
    refine ⟨⟨true, 0, (fun _ => zP)⟩, fun k => by simp only [slices_Clone_carry_Parcel_carry_Parcel, h, cond_true]; rfl, ?_, fun _ => rfl⟩
    have := hs h
    exact (List.length_eq_zero_iff.1 (by rw [toL_length, this])).symm
  | false =>
    refine ⟨⟨false, (0 + s.n), (tApp 0 (tSel [] zP) s.g)⟩, fun k => ?_, ?_, fun h => by cases h⟩
    · have e : decide (((0 + s.n)) * 32 ≤ 140737488355328) = true := decide_eq_true (by omega)
      simp only [slices_Clone_carry_Parcel_carry_Parcel, h, cond_false, e, cond_true]
      rfl
    · rw [toL_app false true s.nl 0 s.n]
      rfl
theorem took_loop (l : Pars) (x : Ent) (hn : l.n ≤ 900) (q8 : Pars) : ∀ (c j N : Nat) (q : Pars), j + c = l.n → c < N → q.n = l.n → q.nl = false → (∀ i, i < l.n → q.g i = if i < j then takeP x (l.g i) else l.g i) →
    ∃ r : Pars, (∀ k0 : Ent → Pars → Pars → Option α, carry_took_l0_run slices_Concat_carry_Parcel_carry_Parcel k0 N l (l.n : Int) (j : Int) x q8 q = k0 x q8 r) ∧ toL r = (toL l).map (takeP x) ∧ r.nl = false := by
  intro c
  induction c with
  | zero =>
    intro j N q hj hN hq hnl hg
    obtain ⟨N, rfl⟩ : ∃ M, N = M + 1 := ⟨N - 1, by omega⟩
    have h3 : ¬ ((j : Int) < (l.n : Int)) := by omega
    refine ⟨q, fun k0 => by simp only [carry_took_l0_run, carry_took_l0_step, ltF h3, cond_false], ?_, hnl⟩
    refine toL_ext (by simp [toL_length, hq]) fun i hi => ?_
    rw [List.length_map, toL_length] at hi
    rw [hg i hi, if_pos (by omega)]
    simp [toL]
  | succ c ih =>
    intro j N q hj hN hq hnl hg
    obtain ⟨N, rfl⟩ : ∃ M, N = M + 1 := ⟨N - 1, by omega⟩
    have h3 : (j : Int) < (l.n : Int) := by omega
    have h5 : (j : Int) < (q.n : Int) := by omega
    have h4 : Nat.blt j q.n = true := by rw [Nat.blt_eq]; omega
    have hgj : q.g j = l.g j := by rw [hg j (by omega), if_neg (by omega)]
    have upd : ∀ b : Bool, takeP x (l.g j) = ((q.g j).1, (q.g j).2.1, (q.g j).2.2.1, b, ()) →
        ∃ r : Pars, (∀ k0 : Ent → Pars → Pars → Option α, carry_took_l0_run slices_Concat_carry_Parcel_carry_Parcel k0 N l (l.n : Int) ((j + 1 : Nat) : Int) x q8 (⟨q.nl, q.n, (fun i => cond (Nat.beq i j) ((q.g i).1, (q.g i).2.1, (q.g i).2.2.1, b, ()) (q.g i))⟩ : Pars) = k0 x q8 r) ∧ toL r = (toL l).map (takeP x) ∧ r.nl = false := by
      intro b hb
      refine ih (j + 1) N _ (by omega) (by omega) hq hnl fun i hi => ?_
      simp only
      by_cases e : i = j
      · subst e
        rw [Nat.beq_refl, if_pos (by omega), hb]; rfl
      · have : Nat.beq i j = false := by
          cases hh : Nat.beq i j with
          | false => rfl
          | true => exact absurd (Nat.eq_of_beq_eq_true hh) e
        rw [this, cond_false, hg i hi]
        by_cases h6 : i < j
        · rw [if_pos h6, if_pos (by omega)]
        · rw [if_neg h6, if_neg (by omega)]
    have eta : ∀ b, (l.g j).2.2.2.1 = b → ((q.g j).1, (q.g j).2.1, (q.g j).2.2.1, b, ()) = l.g j := fun b hb => by rw [hgj, ← hb]
    cases hbk : (l.g j).2.2.2.1 with
    | true =>
      obtain ⟨r, g1, g2⟩ := upd true (by
        unfold takeP
        rw [hgj]
        cases ((l.g j).2.1 == x.2.1 && (l.g j).2.2.1 == x.2.2.1) with
        | true => rfl
        | false => rw [cond_false, ← hbk])
      refine ⟨r, fun k0 => ?_, g2⟩
      simp only [carry_took_l0_run, carry_took_l0_step, ltT h3, ltT h5, nn, Bool.and_self, toNatC, h4, hbk, Bool.not_true, cond_true, cond_false, wrap_succ (show j < 9223372036854775807 by omega)]
      exact g1 k0
    | false =>
      cases hsg : ((l.g j).2.1 == x.2.1) with
      | true =>
        obtain ⟨r, g1, g2⟩ := upd ((l.g j).2.2.1 == x.2.2.1) (by
          unfold takeP
          rw [hgj, hsg, Bool.true_and]
          cases hst : ((l.g j).2.2.1 == x.2.2.1) with
          | true => rfl
          | false => rw [cond_false, ← hbk])
        refine ⟨r, fun k0 => ?_, g2⟩
        simp only [carry_took_l0_run, carry_took_l0_step, ltT h3, ltT h5, nn, Bool.and_self, toNatC, h4, hbk, hsg, Bool.not_false, cond_true, wrap_succ (show j < 9223372036854775807 by omega)]
        exact g1 k0
      | false =>
        obtain ⟨r, g1, g2⟩ := upd false (by
          unfold takeP
          rw [hgj, hsg, Bool.false_and, cond_false, ← hbk])
        refine ⟨r, fun k0 => ?_, g2⟩
        simp only [carry_took_l0_run, carry_took_l0_step, ltT h3, ltT h5, nn, Bool.and_self, toNatC, h4, hbk, hsg, Bool.not_false, cond_true, cond_false, wrap_succ (show j < 9223372036854775807 by omega)]
        exact g1 k0
theorem took_is (l : Pars) (x : Ent) (hn : l.n ≤ 900) : ∃ r : Pars, (∀ k : Pars → Option α, carry_took l x k = k r) ∧ toL r = tookL (toL l) x ∧ Nil0P r := by
  unfold tookL
  cases hb : x.2.2.2.1 with
  | false =>
    have hw : IntKind.i64.wrap ((l.n : Int) + 1) = ((l.n + 1 : Nat) : Int) := wrap_succ (by omega)
    obtain ⟨c, hc1, hc2, hc3⟩ := concat_isP (α := α) (⟨false, 2, (tSel [(l, ()), ((⟨false, 1, (fun _ => (((l.n + 1 : Nat) : Int), x.2.1, x.2.2.1, false, ()))⟩ : Pars), ())] ((⟨true, 0, fun _ => zP⟩ : Pars), ()))⟩ : Seq (Pars × Unit)) (by show (2 : Nat) ≤ 900; omega) (by
      show totP [(l, ()), ((⟨false, 1, (fun _ => (((l.n + 1 : Nat) : Int), x.2.1, x.2.2.1, false, ()))⟩ : Pars), ())] ≤ 1000000
      simp only [totP, List.map_cons, List.map_nil, List.sum_cons, List.sum_nil]; omega)
    refine ⟨c, fun k => ?_, ?_, hc3⟩
    · simp only [carry_took, carry_took_g, hb, Bool.not_false, cond_true, hw]
      exact hc1 k
    · rw [hc2]
      show flatP [(l, ()), ((⟨false, 1, (fun _ => (((l.n + 1 : Nat) : Int), x.2.1, x.2.2.1, false, ()))⟩ : Pars), ())] = _
      simp only [flatP, List.flatMap_cons, List.flatMap_nil, List.append_nil, toL_one, toL_length, cond_false]
  | true =>
    have e1 : decide ((l.n : Int) ≤ (l.n : Int)) = true := decide_eq_true (by omega)
    have e2 : decide (((32 : Int) * (l.n : Int)) ≤ 140737488355328) = true := decide_eq_true (by omega)
    obtain ⟨r, h1, h2, h3⟩ := took_loop (α := α) l x hn (⟨true, 0, (fun _ => zP)⟩ : Pars) l.n 0 1000 (⟨false, (l.n : Int).toNat, (tApp (min l.n (l.n : Int).toNat) l.g (tShift (min l.n (l.n : Int).toNat) (fun _ => zP)))⟩ : Pars) (by omega) (by omega) (by simp) rfl (fun i hi => by
      simp only [toNatC, Nat.min_self]
      rw [if_neg (by omega)]
      have : Nat.blt i l.n = true := by rw [Nat.blt_eq]; exact hi
      simp [tApp, this])
    refine ⟨r, fun k => ?_, h2, fun h => by rw [h3] at h; cases h⟩
    simp only [carry_took, carry_took_g, hb, Bool.not_true, cond_false, nn, e1, e2, Bool.and_self, cond_true]
    exact h1 _
def comeE33 (d : Dep) (x : Ent) (v : Int) : Int := cond (depB d) (cond (svc x.2.2.2.2.1 == 2) (cond (comeE d.1 x v == 0) (cond (d.2.1 == 1099511627776) 5 0) (comeE d.1 x v)) 1) 12
abbrev Rep := Int × Int × Int × Int × Bool × Int × Int × Unit
def repA (d : Dep) (x : Ent) (v : Int) : Rep := cond (comeE33 d x v == 0) (2, d.2.1, x.2.1, x.2.2.1, x.2.2.2.1, x.1, (comeA d.1 x v).2.1, ()) (0, 0, 0, 0, false, 0, 0, ())
def depA (d : Dep) (x : Ent) (v : Int) : List Key × Int × List Par := cond (comeE33 d x v == 0) ((comeA d.1 x v).1, d.2.1 + 1, cond (comeA d.1 x v).2.2 (tookL (toL d.2.2.1) x) (toL d.2.2.1)) ([], 0, [])
def absD (d : Dep) : List Key × Int × List Par := (toL d.1, d.2.1, toL d.2.2.1)
def zD : Dep := ((⟨true, 0, (fun _ => zK)⟩ : Keys), 0, (⟨true, 0, (fun _ => zP)⟩ : Pars), ())
theorem next_of {d : Dep} (h : depB d = true) : 1 ≤ d.2.1 ∧ d.2.1 ≤ 1099511627776 := by
  simp only [depB, Bool.and_eq_true] at h
  exact le_of_id h.2.1
theorem come33_is (d : Dep) (h0 : Nil0 d.1) (h0p : Nil0P d.2.2.1) (hk : d.1.n ≤ 700) (hn : d.2.2.1.n ≤ 900) (x : Ent) (v : Int) : ∃ r : Dep, (∀ k : Dep → Rep → Int → Option α, carry_Come d x v k = k r (repA d x v) (comeE33 d x v)) ∧ absD r = depA d x v ∧ Nil0 r.1 ∧ Nil0P r.2.2.1 := by
  obtain ⟨rk, a1, a2, a3⟩ := come_is (α := α) d.1 h0 hk x v
  have zz : Nil0 zD.1 ∧ Nil0P zD.2.2.1 := ⟨fun _ => rfl, fun _ => rfl⟩
  obtain ⟨rc, b1, b2, b3⟩ := cloneP_is (α := α) d.2.2.1 h0p (by omega)
  obtain ⟨rt, c1, c2, c3⟩ := took_is (α := α) d.2.2.1 x hn
  unfold repA depA comeE33
  cases hf : depB d with
  | false => exact ⟨zD, fun k => by simp only [carry_Come, carry_Come_g, depFit_is d (by omega) hn, hf, Bool.not_false, cond_true]; rfl, rfl, zz⟩
  | true =>
  cases hs : (svc x.2.2.2.2.1 == 2) with
  | false => exact ⟨zD, fun k => by simp only [carry_Come, carry_Come_g, depFit_is d (by omega) hn, hf, Service_is, bne, hs, Bool.not_false, Bool.not_true, cond_true, cond_false]; rfl, rfl, zz⟩
  | true =>
  cases he : (comeE d.1 x v == 0) with
  | false =>
    refine ⟨zD, fun k => ?_, (by simp only [cond_true, cond_false, he]; rfl), zz⟩
    simp only [carry_Come, carry_Come_g, depFit_is d (by omega) hn, hf, Service_is, bne, hs, a1, he, Bool.not_false, Bool.not_true, cond_true, cond_false]
    rfl
  | true =>
  cases hm : (d.2.1 == 1099511627776) with
  | true =>
    refine ⟨zD, fun k => ?_, rfl, zz⟩
    simp only [carry_Come, carry_Come_g, depFit_is d (by omega) hn, hf, Service_is, bne, hs, a1, he, hm, Bool.not_false, Bool.not_true, cond_true, cond_false]
    rfl
  | false =>
    have hnx := next_of hf
    have hw : IntKind.i64.wrap (d.2.1 + 1) = d.2.1 + 1 := wrap64 (by omega) (by omega)
    cases hd : (comeA d.1 x v).2.2 with
    | true =>
      refine ⟨(rk, d.2.1 + 1, rt, ()), fun k => ?_, ?_, a3, c3⟩
      · simp only [carry_Come, carry_Come_g, depFit_is d (by omega) hn, hf, Service_is, bne, hs, a1, he, hm, hd, b1, c1, hw, Bool.not_false, Bool.not_true, cond_true, cond_false]
        rfl
      · simp only [absD, a2, c2, cond_true, cond_false]
        rfl
    | false =>
      refine ⟨(rk, d.2.1 + 1, rc, ()), fun k => ?_, ?_, a3, b3⟩
      · simp only [carry_Come, carry_Come_g, depFit_is d (by omega) hn, hf, Service_is, bne, hs, a1, he, hm, hd, b1, hw, Bool.not_false, Bool.not_true, cond_true, cond_false]
        rfl
      · simp only [absD, a2, b2, cond_true, cond_false]
        rfl
def stepP (did : Bool) (x : Ent) (p : Par) : Par := cond (did && x.2.2.2.1) (takeP x p) p
theorem stepP_none (x : Ent) (did : Bool) (h : (did && x.2.2.2.1) = false) (l : List Par) : l.map (stepP did x) = l := by
  have : stepP did x = id := by funext p; unfold stepP; rw [h]; rfl
  rw [this, List.map_id]
theorem awake33_is (k : Bool → Option α) : draymanlaw33_awake k = k true := by kernel_rfl
theorem sameD_of {a b : Dep} (h : absD a = absD b) : sameD a b = true := by
  simp only [absD, Prod.mk.injEq] at h
  simp [sameD, h.1, h.2.1, h.2.2]
theorem dep_n {d r : Dep} {x : Ent} {v : Int} (hk : d.1.n ≤ 30) (hn : d.2.2.1.n ≤ 30) (h : absD r = depA d x v) : r.1.n ≤ 900 ∧ r.2.2.1.n ≤ 900 := by
  have h1 := congrArg (fun p => p.1.length) h
  have h2 := congrArg (fun p => p.2.2.length) h
  simp only [absD, toL_length, depA] at h1 h2
  have hc := come_n d.1 x v (by omega)
  cases he : (comeE33 d x v == 0) with
  | false => rw [he] at h1 h2; simp only [cond_false, List.length_nil] at h1 h2; omega
  | true =>
    rw [he] at h1 h2
    simp only [cond_true] at h1 h2
    refine ⟨by omega, ?_⟩
    cases hd : (comeA d.1 x v).2.2 <;> cases hb : x.2.2.2.1 <;> (simp only [hd, hb, tookL, cond_true, cond_false, List.length_map, List.length_append, List.length_cons, List.length_nil, toL_length] at h2; omega)
/-- What the same depot with copied parcels tells. -/
theorem copy_same {d c : Dep} (h1 : c.1 = d.1) (h2 : c.2.1 = d.2.1) (h3 : toL c.2.2.1 = toL d.2.2.1) : depB c = depB d ∧ absD c = absD d ∧ ∀ x v, comeE33 c x v = comeE33 d x v ∧ repA c x v = repA d x v ∧ depA c x v = depA d x v := by
  have hn : c.2.2.1.n = d.2.2.1.n := by
    have := congrArg List.length h3
    simpa only [toL_length] using this
  have hB : depB c = depB d := by simp only [depB, h1, h2, h3, hn]
  have hE : ∀ x v, comeE33 c x v = comeE33 d x v := fun x v => by simp only [comeE33, hB, h1, h2]
  exact ⟨hB, by simp only [absD, h1, h2, h3], fun x v => ⟨hE x v, by simp only [repA, hE, h1, h2], by simp only [depA, hE, h1, h2, h3]⟩⟩
theorem fitFrom_of : ∀ (l : List Key) (p : Option Key), (∀ x ∈ l, oneK x = true ∧ ∀ q, p = some q → ltK q x = true) → l.Pairwise (fun a b => ltK a b = true) → fitFrom p l = true
  | [], _, _, _ => rfl
  | y :: l, p, h, hp => by
    obtain ⟨h1, h2⟩ := h y List.mem_cons_self
    obtain ⟨h3, h4⟩ := List.pairwise_cons.1 hp
    have h5 := fitFrom_of l (some y) (fun x hx => ⟨(h x (List.mem_cons_of_mem _ hx)).1, fun q hq => by cases hq; exact h3 x hx⟩) h4
    simp only [fitFrom, h1, h5, Bool.and_true, Bool.true_and]
    cases p with
    | none => rfl
    | some q => exact h2 q rfl
theorem fitK_iff (s : Keys) : fitK s = true ↔ (∀ x ∈ toL s, oneK x = true) ∧ (toL s).Pairwise (fun a b => ltK a b = true) := by
  refine ⟨fun h => ⟨fun x hx => ((fitFrom_all _ _ h).1 x hx).1, (fitFrom_all _ _ h).2⟩, fun h => fitFrom_of _ _ (fun x hx => ⟨h.1 x hx, fun q hq => by cases hq⟩) h.2⟩
theorem fitL_put {l : List Key} {z : Key} (h1 : ∀ x ∈ l, oneK x = true) (h2 : l.Pairwise (fun a b => ltK a b = true)) (hz : oneK z = true) : (∀ x ∈ putL l z, oneK x = true) ∧ (putL l z).Pairwise (fun a b => ltK a b = true) := by
  unfold putL
  refine ⟨fun x hx => ?_, List.pairwise_append.2 ⟨h2.sublist List.filter_sublist, List.pairwise_cons.2 ⟨fun x hx => (List.mem_filter.1 hx).2, h2.sublist List.filter_sublist⟩, fun a ha b hb => ?_⟩⟩
  · simp only [List.mem_append, List.mem_cons, List.mem_filter] at hx
    rcases hx with hx | rfl | hx
    · exact h1 x hx.1
    · exact hz
    · exact h1 x hx.1
  · have h3 := (List.mem_filter.1 ha).2
    rcases List.mem_cons.1 hb with rfl | hb
    · exact h3
    · exact ltK_trans h3 (List.mem_filter.1 hb).2
theorem find_put (l : List Key) (z : Key) : findK (putL l z) z.1 z.2.1 = (z, true) := by
  unfold findK putL
  have h1 : (l.filter (fun y => ltK y z)).find? (isAt z.1 z.2.1) = none := by
    rw [List.find?_eq_none]
    intro y hy hh
    have h2 := (List.mem_filter.1 hy).2
    simp only [isAt, Bool.and_eq_true, beq_iff_eq] at hh
    rw [ltK_iff] at h2
    omega
  have h3 : isAt z.1 z.2.1 z = true := by simp [isAt]
  rw [List.find?_append, h1, List.find?_cons, h3]
  rfl
theorem find_mem {l : List Key} {a b : Int} (h : (findK l a b).2 = true) : (findK l a b).1 ∈ l ∧ (findK l a b).1.1 = a ∧ (findK l a b).1.2.1 = b := by
  unfold findK at h ⊢
  cases hf : l.find? (isAt a b) with
  | none => rw [hf] at h; cases h
  | some y =>
    have h1 := List.mem_of_find?_eq_some hf
    have h2 := List.find?_some hf
    simp only [isAt, Bool.and_eq_true, beq_iff_eq] at h2
    exact ⟨h1, h2⟩
theorem oneB_is {x : Ent} (h : oneB x = true) : idB x.2.1 = true ∧ decide (0 ≤ x.2.2.1) = true ∧ decide (x.2.2.1 < 6) = true ∧ fitN x.2.2.2.2.2.1 = true := by
  simp only [oneB, Bool.and_eq_true] at h
  exact ⟨h.2.1, h.2.2.1, h.2.2.2.1, h.2.2.2.2.2⟩
/-- What may come of a request. -/
inductive Came (l : List Key) (x : Ent) (v : Int) : List Key → Int → Bool → Prop
  | again : Came l x v l 2 false
  | backDone (y : Key) (h : findK l x.2.1 x.2.2.1 = (y, true)) (hb : x.2.2.2.1 = true) (hm : (y.2.2.1 == 2) = false) : Came l x v l 1 false
  | back (y : Key) (h : findK l x.2.1 x.2.2.1 = (y, true)) (hb : x.2.2.2.1 = true) (hm : (y.2.2.1 == 2) = true) : Came l x v (putL l (y.1, y.2.1, 4, y.2.2.2.1, 1, y.2.2.2.2.2.1, ())) 1 true
  | backNone (h : (findK l x.2.1 x.2.2.1).2 = false) (hb : x.2.2.2.1 = true) : Came l x v (putL l (x.2.1, x.2.2.1, 3, 0, 0, x.2.2.2.2.2.1, ())) 1 false
  | thereDone (y : Key) (h : findK l x.2.1 x.2.2.1 = (y, true)) (hb : x.2.2.2.1 = false) (hm : (y.2.2.1 == 2) = true) : Came l x v l 1 false
  | thereNever (y : Key) (h : findK l x.2.1 x.2.2.1 = (y, true)) (hb : x.2.2.2.1 = false) (hm : (y.2.2.1 == 2) = false) : Came l x v l 3 false
  | there (h : (findK l x.2.1 x.2.2.1).2 = false) (hb : x.2.2.2.1 = false) : Came l x v (putL l (x.2.1, x.2.2.1, 2, 1, 0, x.2.2.2.2.2.1, ())) 1 true
  | never (h : (findK l x.2.1 x.2.2.1).2 = false) (hb : x.2.2.2.1 = false) : Came l x v (putL l (x.2.1, x.2.2.1, 5, 0, 0, x.2.2.2.2.2.1, ())) 3 false
theorem comeL_came (l : List Key) (x : Ent) (v : Int) : Came l x v (comeL l x v).1 (comeL l x v).2.1 (comeL l x v).2.2 := by
  unfold comeL
  cases hi : (findK l x.2.1 x.2.2.1).2 with
  | true =>
    have hf : findK l x.2.1 x.2.2.1 = ((findK l x.2.1 x.2.2.1).1, true) := by rw [← hi]
    cases hb : x.2.2.2.1 with
    | true =>
      cases hm : ((findK l x.2.1 x.2.2.1).1.2.2.1 == 2) with
      | false => simp only [comeF, backL, hm, cond_true, cond_false]; exact .backDone _ hf hb hm
      | true =>
        cases hv : (v == 1) with
        | false => simp only [comeF, backL, hm, hv, cond_true, cond_false]; exact .again
        | true => simp only [comeF, backL, hm, hv, cond_true, cond_false]; exact .back _ hf hb hm
    | false =>
      cases hm : ((findK l x.2.1 x.2.2.1).1.2.2.1 == 2) with
      | true => simp only [comeF, thereL', hm, cond_true, cond_false]; exact .thereDone _ hf hb hm
      | false => simp only [comeF, thereL', hm, cond_true, cond_false]; exact .thereNever _ hf hb hm
  | false =>
    cases hb : x.2.2.2.1 with
    | true =>
      cases hv : (v == 1) with
      | false => simp only [comeF, backL, hv, cond_true, cond_false]; exact .again
      | true => simp only [comeF, backL, hv, cond_true, cond_false]; exact .backNone hi hb
    | false =>
      cases hv : (v == 1) with
      | true => simp only [comeF, thereL', hv, cond_true, cond_false]; exact .there hi hb
      | false =>
        cases hv3 : (v == 3) with
        | false => simp only [comeF, thereL', hv, hv3, cond_true, cond_false]; exact .again
        | true =>
          cases ha : x.2.2.2.2.2.2.1 with
          | true => simp only [comeF, thereL', hv, hv3, ha, cond_true, cond_false]; exact .again
          | false => simp only [comeF, thereL', hv, hv3, ha, cond_true, cond_false]; exact .never hi hb
theorem came_fit {l l' : List Key} {x : Ent} {v t : Int} {d : Bool} (h : Came l x v l' t d) (ho : oneB x = true) (h1 : ∀ x ∈ l, oneK x = true) (h2 : l.Pairwise (fun a b => ltK a b = true)) : (∀ x ∈ l', oneK x = true) ∧ l'.Pairwise (fun a b => ltK a b = true) := by
  obtain ⟨o1, o2, o3, o4⟩ := oneB_is ho
  cases h with
  | again => exact ⟨h1, h2⟩
  | backDone => exact ⟨h1, h2⟩
  | thereDone => exact ⟨h1, h2⟩
  | thereNever => exact ⟨h1, h2⟩
  | back y hf hb hm =>
    have hy : y ∈ l := by have := (find_mem (l := l) (a := x.2.1) (b := x.2.2.1) (by rw [hf])).1; rw [hf] at this; exact this
    have h3 := h1 y hy
    refine fitL_put h1 h2 ?_
    simp only [oneK, Bool.and_eq_true] at h3 ⊢
    obtain ⟨a1, a2, a3, a4, a5⟩ := h3
    refine ⟨a1, a2, a3, a4, ?_⟩
    have hm' : y.2.2.1 = 2 := by simpa using hm
    simp only [markB, hm', if_true, Bool.and_eq_true, beq_iff_eq] at a5
    simp [markB, a5.1]
  | backNone => refine fitL_put h1 h2 ?_; simp only [oneK, o1, o2, o3, o4, Bool.true_and]; rfl
  | there => refine fitL_put h1 h2 ?_; simp only [oneK, o1, o2, o3, o4, Bool.true_and]; rfl
  | never => refine fitL_put h1 h2 ?_; simp only [oneK, o1, o2, o3, o4, Bool.true_and]; rfl
/-- Once more. -/
theorem came_again {l l' : List Key} {x : Ent} {v t : Int} {d : Bool} (h : Came l x v l' t d) (w : Int) : (t = 2 ∧ l' = l) ∨ comeL l' x w = (l', t, false) := by
  cases h with
  | again => exact .inl ⟨rfl, rfl⟩
  | backDone y hf hb hm =>
    refine .inr ?_
    unfold comeL
    rw [hf, hb]
    simp only [comeF, backL, hm, cond_true, cond_false]
  | back y hf hb hm =>
    refine .inr ?_
    have hk : y.1 = x.2.1 ∧ y.2.1 = x.2.2.1 := by have := (find_mem (l := l) (a := x.2.1) (b := x.2.2.1) (by rw [hf])).2; rw [hf] at this; exact this
    have h3 := find_put l (y.1, y.2.1, 4, y.2.2.2.1, 1, y.2.2.2.2.2.1, ())
    simp only [hk.1, hk.2] at h3
    unfold comeL
    simp only [hk.1, hk.2]
    rw [h3, hb]
    rfl
  | backNone hf hb =>
    refine .inr ?_
    have h3 := find_put l (x.2.1, x.2.2.1, 3, 0, 0, x.2.2.2.2.2.1, ())
    unfold comeL
    rw [h3, hb]
    rfl
  | thereDone y hf hb hm =>
    refine .inr ?_
    unfold comeL
    rw [hf, hb]
    simp only [comeF, thereL', hm, cond_true, cond_false]
  | thereNever y hf hb hm =>
    refine .inr ?_
    unfold comeL
    rw [hf, hb]
    simp only [comeF, thereL', hm, cond_true, cond_false]
  | there hf hb =>
    refine .inr ?_
    have h3 := find_put l (x.2.1, x.2.2.1, 2, 1, 0, x.2.2.2.2.2.1, ())
    unfold comeL
    rw [h3, hb]
    rfl
  | never hf hb =>
    refine .inr ?_
    have h3 := find_put l (x.2.1, x.2.2.1, 5, 0, 0, x.2.2.2.2.2.1, ())
    unfold comeL
    rw [h3, hb]
    rfl
theorem came_two {l l' : List Key} {x : Ent} {v t : Int} {d : Bool} (h : Came l x v l' t d) (ht : t = 2) : l' = l := by
  cases h with
  | again => rfl
  | _ => cases ht
abbrev Ents := Seq Ent
/-! ### Keys, apart -/
theorem lt_asym {a b : Key} (h : ltK a b = true) : ltK b a = false ∧ sameK a b = false ∧ sameK b a = false := by
  rw [ltK_iff] at h
  refine ⟨?_, ?_, ?_⟩
  · cases hb : ltK b a with
    | false => rfl
    | true => rw [ltK_iff] at hb; omega
  · cases hb : sameK a b with
    | false => rfl
    | true => rw [sameK_iff] at hb; omega
  · cases hb : sameK b a with
    | false => rfl
    | true => rw [sameK_iff] at hb; omega
theorem same_lt {a b c : Key} (h : sameK a b = true) (h2 : ltK a c = true) : ltK b c = true ∧ ltK c b = false ∧ sameK c b = false := by
  have h3 : ltK b c = true := by rw [ltK_iff] at *; rw [sameK_iff] at h; omega
  exact ⟨h3, (lt_asym h3).1, (lt_asym h3).2.2⟩
theorem tri (a b : Key) : ltK a b = true ∨ sameK a b = true ∨ ltK b a = true := by
  rw [ltK_iff, ltK_iff, sameK_iff]; omega
theorem split_at (z : Key) : ∀ (l : List Key), l.Pairwise (fun a b => ltK a b = true) → l = l.filter (fun y => ltK y z) ++ (l.filter (fun y => sameK y z) ++ l.filter (fun y => ltK z y))
  | [], _ => rfl
  | h :: t, hp => by
    obtain ⟨h1, h2⟩ := List.pairwise_cons.1 hp
    rcases tri h z with hc | hc | hc
    · obtain ⟨c1, c2, c3⟩ := lt_asym hc
      have ih := split_at z t h2
      rw [List.filter_cons, List.filter_cons, List.filter_cons, hc, c1, c2]
      simp only [if_true, Bool.false_eq_true, if_false, List.cons_append]
      rw [← ih]
    · have g : ∀ x ∈ t, ltK z x = true ∧ ltK x z = false ∧ sameK x z = false := fun x hx => same_lt hc (h1 x hx)
      have e1 : t.filter (fun y => ltK y z) = [] := List.filter_eq_nil_iff.2 fun x hx => by rw [(g x hx).2.1]; simp
      have e2 : t.filter (fun y => sameK y z) = [] := List.filter_eq_nil_iff.2 fun x hx => by rw [(g x hx).2.2]; simp
      have e3 : t.filter (fun y => ltK z y) = t := List.filter_eq_self.2 fun x hx => (g x hx).1
      have c1 : ltK h z = false := by
        cases hb : ltK h z with
        | false => rfl
        | true => rw [ltK_iff] at hb; rw [sameK_iff] at hc; omega
      have c2 : ltK z h = false := by
        cases hb : ltK z h with
        | false => rfl
        | true => rw [ltK_iff] at hb; rw [sameK_iff] at hc; omega
      rw [List.filter_cons, List.filter_cons, List.filter_cons, hc, c1, c2, e1, e2, e3]
      simp
    · have g : ∀ x ∈ t, ltK z x = true := fun x hx => ltK_trans hc (h1 x hx)
      have e1 : t.filter (fun y => ltK y z) = [] := List.filter_eq_nil_iff.2 fun x hx => by rw [(lt_asym (g x hx)).1]; simp
      have e2 : t.filter (fun y => sameK y z) = [] := List.filter_eq_nil_iff.2 fun x hx => by rw [(lt_asym (g x hx)).2.2]; simp
      have e3 : t.filter (fun y => ltK z y) = t := List.filter_eq_self.2 g
      obtain ⟨c1, c2, c3⟩ := lt_asym hc
      rw [List.filter_cons, List.filter_cons, List.filter_cons, hc, c1, c3, e1, e2, e3]
      simp
theorem mid_one {z y : Key} : ∀ (l : List Key), l.Pairwise (fun a b => ltK a b = true) → y ∈ l → sameK y z = true → l.filter (fun x => sameK x z) = [y]
  | [], _, h, _ => by cases h
  | h :: t, hp, hy, hs => by
    obtain ⟨h1, h2⟩ := List.pairwise_cons.1 hp
    rcases List.mem_cons.1 hy with rfl | hy
    · have e2 : t.filter (fun x => sameK x z) = [] := List.filter_eq_nil_iff.2 fun x hx => by rw [(same_lt hs (h1 x hx)).2.2]; simp
      rw [List.filter_cons, hs, e2]; simp
    · have hn : sameK h z = false := by
        cases hb : sameK h z with
        | false => rfl
        | true =>
          have := h1 y hy
          rw [ltK_iff] at this; rw [sameK_iff] at hb hs; omega
      rw [List.filter_cons, hn]
      simp only [Bool.false_eq_true, if_false]
      exact mid_one t h2 hy hs
theorem isAt_same (x z : Key) : isAt z.1 z.2.1 x = sameK x z := rfl
theorem find_none {l : List Key} {z : Key} (h : (findK l z.1 z.2.1).2 = false) : l.filter (fun x => sameK x z) = [] := by
  unfold findK at h
  cases hf : l.find? (isAt z.1 z.2.1) with
  | some y => rw [hf] at h; cases h
  | none =>
    rw [List.find?_eq_none] at hf
    exact List.filter_eq_nil_iff.2 fun x hx => by rw [← isAt_same]; exact hf x hx
theorem find_put_ne {l : List Key} (hp : l.Pairwise (fun a b => ltK a b = true)) (z : Key) {a b : Int} (hne : ¬ (z.1 = a ∧ z.2.1 = b)) : findK (putL l z) a b = findK l a b := by
  have hz : isAt a b z = false := by
    cases hh : isAt a b z with
    | false => rfl
    | true => simp only [isAt, Bool.and_eq_true, beq_iff_eq] at hh; exact absurd hh hne
  have hm : (l.filter (fun y => sameK y z)).find? (isAt a b) = none := by
    rw [List.find?_eq_none]
    intro y hy hh
    have h2 := (List.mem_filter.1 hy).2
    rw [sameK_iff] at h2
    simp only [isAt, Bool.and_eq_true, beq_iff_eq] at hh
    exact hne ⟨by omega, by omega⟩
  unfold findK
  have e : (putL l z).find? (isAt a b) = l.find? (isAt a b) := by
    conv => rhs; rw [split_at z l hp]
    unfold putL
    rw [List.find?_append, List.find?_append, List.find?_append, hm, List.find?_cons, hz]
    simp
  rw [e]
theorem put_len {l : List Key} (hp : l.Pairwise (fun a b => ltK a b = true)) (z : Key) : (putL l z).length ≤ l.length + 1 := by
  have := congrArg List.length (split_at z l hp)
  simp only [List.length_append] at this
  unfold putL
  simp only [List.length_append, List.length_cons]
  omega
theorem sumT_append (a b : List Key) : sumT (a ++ b) = sumT a + sumT b := by simp [sumT]
theorem sumB_append (a b : List Key) : sumB (a ++ b) = sumB a + sumB b := by simp [sumB]
theorem sumT_cons (a : Key) (b : List Key) : sumT (a :: b) = a.2.2.2.1 + sumT b := by simp [sumT]
theorem sumB_cons (a : Key) (b : List Key) : sumB (a :: b) = a.2.2.2.2.1 + sumB b := by simp [sumB]
theorem sum_put {l : List Key} (hp : l.Pairwise (fun a b => ltK a b = true)) (z : Key) :
    sumT (putL l z) = sumT l - sumT (l.filter (fun y => sameK y z)) + z.2.2.2.1 ∧ sumB (putL l z) = sumB l - sumB (l.filter (fun y => sameK y z)) + z.2.2.2.2.1 := by
  have h1 := congrArg sumT (split_at z l hp)
  have h2 := congrArg sumB (split_at z l hp)
  rw [sumT_append, sumT_append] at h1
  rw [sumB_append, sumB_append] at h2
  unfold putL
  rw [sumT_append, sumB_append, sumT_cons, sumB_cons]
  omega
def isT (a b : Int) (y : Ent) : Bool := y.2.1 == a && (y.2.2.1 == b && !y.2.2.2.1)
def isB (a b : Int) (y : Ent) : Bool := y.2.1 == a && (y.2.2.1 == b && y.2.2.2.1)
def isU (a b : Int) (y : Ent) : Bool := y.2.1 == a && y.2.2.1 == b
def thereOf (l : List Key) (a b : Int) : Int := cond (findK l a b).2 (findK l a b).1.2.2.2.1 0
def backOf (l : List Key) (a b : Int) : Int := cond (findK l a b).2 (findK l a b).1.2.2.2.2.1 0
theorem one_mark2 {y : Key} (h : oneK y = true) (hm : (y.2.2.1 == 2) = true) : y.2.2.2.1 = 1 ∧ y.2.2.2.2.1 = 0 := by
  simp only [oneK, Bool.and_eq_true] at h
  have hm' : y.2.2.1 = 2 := by simpa using hm
  have h5 := h.2.2.2.2
  simp only [markB, hm', if_true, Bool.and_eq_true, beq_iff_eq] at h5
  exact h5
theorem came_len {l l' : List Key} {x : Ent} {v t : Int} {d : Bool} (h : Came l x v l' t d) (hp : l.Pairwise (fun a b => ltK a b = true)) : l'.length ≤ l.length + 1 := by
  cases h <;> first | exact put_len hp _ | omega
end Go.Rv.Try
