/- The plain law of NetDoes: the program's net does what the document's does. No condition. -/
import Derived.Test.YtkcdjgmialniiaaE5
import Derived.Test.YtkcdjgmialniiaaRvT
set_option linter.unusedVariables false
set_option linter.unusedSimpArgs false
namespace Go.Rv.Try
open Go Go.Rv Go.RowKit
variable {α : Type}

abbrev Ent := Int × Int × Int × Bool × Int × Int × Bool × Unit
abbrev Rep := Int × Int × Int × Int × Bool × Int × Int × Unit
abbrev Env1 := Int × Bool × Int × Int × Int × Int × Bool × Int × Int × Bool × Rep
abbrev Net := Int × (Seq Env1) × Unit

noncomputable instance envDec : DecidableEq Env1 := fun _ _ => Classical.propDecidable _
def fitN (n : Int) : Bool := decide (0 ≤ n) && decide (n ≤ 1099511627776)
def idB (n : Int) : Bool := decide (1 ≤ n) && decide (n ≤ 1099511627776)
def svc (op : Int) : Int := if op = 2 then 1 else if op = 6 then 1 else if op = 4 then 2 else 0
theorem Service_is (op : Int) (k : Int → Option α) : outbox_Service op k = k (svc op) := by
  unfold outbox_Service svc
  by_cases h1 : op = 2
  · subst h1; rfl
  by_cases h2 : op = 6
  · subst h2; rfl
  by_cases h3 : op = 4
  · subst h3; rfl
  have e1 : (op == 2) = false := by simpa using h1
  have e2 : (op == 6) = false := by simpa using h2
  have e3 : (op == 4) = false := by simpa using h3
  simp only [e1, e2, e3, cond_false, if_neg h1, if_neg h2, if_neg h3]
theorem refService_is (op : Int) (k : Int → Option α) : draymanref17_Service op k = k (svc op) := Service_is op k
theorem id_is (n : Int) (k : Bool → Option α) : outbox_id n k = k (idB n) := by
  unfold outbox_id idB
  cases decide (1 ≤ n) <;> rfl
theorem Fit_is (n : Int) (k : Bool → Option α) : num_Fit n k = k (fitN n) := by
  unfold num_Fit fitN
  by_cases h : 0 ≤ n <;> simp [h]
theorem refFit_is (n : Int) (k : Bool → Option α) : draymanref01_Fit n k = k (fitN n) := Fit_is n k
def oneB (x : Ent) : Bool := idB x.1 && (idB x.2.1 && (decide (0 ≤ x.2.2.1) && (decide (x.2.2.1 < 6) && (svc x.2.2.2.2.1 != 0 && fitN x.2.2.2.2.2.1))))
theorem one_is (x : Ent) (k : Bool → Option α) : outbox_one x k = k (oneB x) := by
  simp only [outbox_one, outbox_one_g, id_is, Service_is, Fit_is, oneB]
  cases idB x.1 <;> cases idB x.2.1 <;> cases decide ((0 : Int) ≤ x.2.2.1) <;> cases decide (x.2.2.1 < 6) <;> cases (svc x.2.2.2.2.1 != 0) <;> rfl
theorem refOne_is (x : Ent) (k : Bool → Option α) : draymanref17_One x k = k (oneB x) := by
  simp only [draymanref17_One, draymanref17_One_g, refService_is, refFit_is, oneB, idB]
  have e1 : decide (x.1 ≥ 1) = decide (1 ≤ x.1) := rfl
  have e2 : decide (x.2.1 ≥ 1) = decide (1 ≤ x.2.1) := rfl
  have e3 : decide (x.2.2.1 ≥ 0) = decide (0 ≤ x.2.2.1) := rfl
  rw [e1, e2, e3]
  cases decide ((1 : Int) ≤ x.1) <;> cases decide (x.1 ≤ 1099511627776) <;> cases decide ((1 : Int) ≤ x.2.1) <;> cases decide (x.2.1 ≤ 1099511627776) <;> cases decide ((0 : Int) ≤ x.2.2.1) <;> cases decide (x.2.2.1 < 6) <;> cases (svc x.2.2.2.2.1 != 0) <;> rfl
theorem le_of_id {n : Int} (h : idB n = true) : 1 ≤ n ∧ n ≤ 1099511627776 := by
  simpa [idB] using h
/-- One entry alone is fit if it is one. -/
theorem fit_one (e : Ent) (k : Bool → Option α) : outbox_Fit (⟨false, 1, fun _ => e⟩ : Seq Ent) k = k (oneB e) := by
  obtain ⟨M, e1⟩ : ∃ M, (1000 : Nat) = M + 1 + 1 := ⟨998, rfl⟩
  have h0 : decide ((0 : Int) < (((1 : Nat)) : Int)) = true := rfl
  have h1 : decide ((0 : Int) ≤ 0) = true := rfl
  have hw : IntKind.i64.wrap ((0 : Int) + 1) = 1 := rfl
  have h2 : decide ((1 : Int) < (((1 : Nat)) : Int)) = false := rfl
  have h3 : decide ((((1 : Nat)) : Int) ≤ 16) = true := rfl
  simp only [outbox_Fit, outbox_Fit_g]
  rw [e1]
  simp only [outbox_Fit_l0_run, outbox_Fit_l0_step, h0, h1, Bool.and_self, cond_true, one_is, hw, h2, cond_false, h3]
  cases h : oneB e with
  | false => rfl
  | true =>
    have : ¬ e.1 ≤ 0 := by
      simp only [oneB, Bool.and_eq_true] at h
      have := (le_of_id h.1).1
      omega
    simp only [decide_eq_false this, Bool.not_true, Bool.not_false, cond_true]
    rfl
/-- Numbers that may be. -/
theorem mid_loop (kr : Bool → Option α) (k0 : Option α) (s : Seq (Int × Unit)) (hn : s.n < 900) : ∀ (m j N : Nat), j + m = s.n → m < N →
    msg_id_l0_run kr k0 N s (s.n : Int) (j : Int) = cond (((toL s).drop j).all (fun x => idB x.1)) k0 (kr false) := by
  intro m
  induction m with
  | zero =>
    intro j N hj hN
    obtain ⟨N, rfl⟩ : ∃ M, N = M + 1 := ⟨N - 1, by omega⟩
    have h3 : ¬ ((j : Int) < (s.n : Int)) := by omega
    simp only [msg_id_l0_run, msg_id_l0_step, ltF h3, cond_false, toL_end s (by omega : s.n ≤ j), List.all_nil, cond_true]
  | succ m ih =>
    intro j N hj hN
    obtain ⟨N, rfl⟩ : ∃ M, N = M + 1 := ⟨N - 1, by omega⟩
    have h3 : (j : Int) < (s.n : Int) := by omega
    have h4 := ih (j + 1) N (by omega) (by omega)
    simp only [msg_id_l0_run, msg_id_l0_step, ltT h3, inb (show j < s.n by omega), toNatC, nn, Bool.and_self, cond_true, wrap_succ (show j < 9223372036854775807 by omega)]
    rw [toL_drop s (by omega), List.all_cons, h4]
    by_cases h5 : (s.g j).1 < 1
    · have : idB (s.g j).1 = false := by simp [idB]; omega
      simp only [decide_eq_true h5, this, Bool.not_true, cond_false, Bool.false_and, cond_false]
    · by_cases h6 : (s.g j).1 > 1099511627776
      · have : idB (s.g j).1 = false := by simp [idB]; omega
        simp only [decide_eq_false h5, decide_eq_true h6, this, Bool.not_false, cond_true, Bool.false_and, cond_false]
      · have : idB (s.g j).1 = true := by simp [idB]; omega
        simp only [decide_eq_false h5, decide_eq_false h6, this, Bool.not_false, cond_true, cond_false, Bool.true_and]
theorem mid_is (s : Seq (Int × Unit)) (hn : s.n < 900) (k : Bool → Option α) : msg_id s k = k ((toL s).all fun x => idB x.1) := by
  have := mid_loop (fun x => k x) (k true) s hn s.n 0 1000 (by omega) (by omega)
  rw [List.drop_zero] at this
  refine (this : msg_id s k = _).trans ?_
  cases (toL s).all fun x => idB x.1 <;> rfl
theorem mid1 (x : Int) (k : Bool → Option α) : msg_id (⟨false, 1, fun _ => (x, ())⟩ : Seq (Int × Unit)) k = k (idB x) := by
  rw [mid_is _ (by show (1 : Nat) < 900; omega)]; simp [toL]
theorem mid3 (x y z : Int) (k : Bool → Option α) : msg_id (⟨false, 3, tSel [(x, ()), (y, ()), (z, ())] (0, ())⟩ : Seq (Int × Unit)) k = k (idB x && (idB y && idB z)) := by
  rw [mid_is _ (by show (3 : Nat) < 900; omega)]
  have : toL (⟨false, 3, tSel [(x, ()), (y, ()), (z, ())] (0, ())⟩ : Seq (Int × Unit)) = [(x, ()), (y, ()), (z, ())] := rfl
  rw [this]; simp

def repB (r : Rep) : Bool := (r.1 == 1 || r.1 == 2) && ((idB r.2.1 && (idB r.2.2.1 && idB r.2.2.2.2.2.1)) && (decide (0 ≤ r.2.2.2.1) && (decide (r.2.2.2.1 < 6) && (decide (1 ≤ r.2.2.2.2.2.2.1) && decide (r.2.2.2.2.2.2.1 ≤ 3)))))
theorem FitReply_is (r : Rep) (k : Bool → Option α) : msg_FitReply r k = k (repB r) := by
  simp only [msg_FitReply, msg_FitReply_g, mid3, repB]
  cases (r.1 == 1) <;> cases (r.1 == 2) <;> cases (idB r.2.1 && (idB r.2.2.1 && idB r.2.2.2.2.2.1)) <;> cases decide ((0 : Int) ≤ r.2.2.2.1) <;> cases decide (r.2.2.2.1 < 6) <;> cases decide ((1 : Int) ≤ r.2.2.2.2.2.2.1) <;> rfl
theorem refFitReply_is (r : Rep) (k : Bool → Option α) : draymanref23_FitReply r k = k (repB r) := by
  simp only [draymanref23_FitReply, repB, idB]
  have e1 : decide (r.2.1 ≥ 1) = decide (1 ≤ r.2.1) := rfl
  have e2 : decide (r.2.2.1 ≥ 1) = decide (1 ≤ r.2.2.1) := rfl
  have e3 : decide (r.2.2.2.2.2.1 ≥ 1) = decide (1 ≤ r.2.2.2.2.2.1) := rfl
  have e4 : decide (r.2.2.2.1 ≥ 0) = decide (0 ≤ r.2.2.2.1) := rfl
  have e5 : decide (r.2.2.2.2.2.2.1 ≥ 1) = decide (1 ≤ r.2.2.2.2.2.2.1) := rfl
  rw [e1, e2, e3, e4, e5]
  cases (r.1 == 1) <;> cases (r.1 == 2) <;> cases decide ((1 : Int) ≤ r.2.1) <;> cases decide (r.2.1 ≤ 1099511627776) <;> cases decide ((1 : Int) ≤ r.2.2.1) <;> cases decide (r.2.2.1 ≤ 1099511627776) <;>
    cases decide ((1 : Int) ≤ r.2.2.2.2.2.1) <;> cases decide (r.2.2.2.2.2.1 ≤ 1099511627776) <;> first | rfl | (cases decide ((0 : Int) ≤ r.2.2.2.1) <;> cases decide (r.2.2.2.1 < 6) <;> cases decide ((1 : Int) ≤ r.2.2.2.2.2.2.1) <;> rfl)
def entOf (x : Env1) : Ent := (x.2.2.2.1, x.2.2.2.2.1, x.2.2.2.2.2.1, x.2.2.2.2.2.2.1, x.2.2.2.2.2.2.2.1, x.2.2.2.2.2.2.2.2.1, x.2.2.2.2.2.2.2.2.2.1, ())
def repOf (x : Env1) : Rep := x.2.2.2.2.2.2.2.2.2.2
def noRep (x : Env1) : Bool := ((x.2.2.2.2.2.2.2.2.2.2.1 == 0) && ((x.2.2.2.2.2.2.2.2.2.2.2.1 == 0) && ((x.2.2.2.2.2.2.2.2.2.2.2.2.1 == 0) && ((x.2.2.2.2.2.2.2.2.2.2.2.2.2.1 == 0) && ((x.2.2.2.2.2.2.2.2.2.2.2.2.2.2.1 == false) && ((x.2.2.2.2.2.2.2.2.2.2.2.2.2.2.2.1 == 0) && ((x.2.2.2.2.2.2.2.2.2.2.2.2.2.2.2.2.1 == 0) && true)))))))
def noEnt (x : Env1) : Bool := ((x.2.2.2.1 == 0) && ((x.2.2.2.2.1 == 0) && ((x.2.2.2.2.2.1 == 0) && ((x.2.2.2.2.2.2.1 == false) && ((x.2.2.2.2.2.2.2.1 == 0) && ((x.2.2.2.2.2.2.2.2.1 == 0) && ((x.2.2.2.2.2.2.2.2.2.1 == false) && true)))))))
def envB (x : Env1) : Bool := idB x.1 && cond x.2.1 (oneB (entOf x) && ((x.2.2.1 == svc x.2.2.2.2.2.2.2.1) && noRep x)) (repB (repOf x) && ((x.2.2.1 == x.2.2.2.2.2.2.2.2.2.2.1) && noEnt x))
theorem msgFit_is (x : Env1) (k : Bool → Option α) : msg_Fit x k = k (envB x) := by
  simp only [msg_Fit, msg_Fit_g, mid1, fit_one, Service_is, FitReply_is]
  show _ = k (idB x.1 && cond x.2.1 (oneB (entOf x) && ((x.2.2.1 == svc x.2.2.2.2.2.2.2.1) && noRep x)) (repB (repOf x) && ((x.2.2.1 == x.2.2.2.2.2.2.2.2.2.2.1) && noEnt x)))
  cases x.2.1 with
  | true =>
    show cond (idB x.1) (cond (oneB (entOf x)) (cond (x.2.2.1 == svc x.2.2.2.2.2.2.2.1) (k (noRep x)) (k false)) (k false)) (k false) = _
    cases idB x.1 <;> cases oneB (entOf x) <;> cases (x.2.2.1 == svc x.2.2.2.2.2.2.2.1) <;> rfl
  | false =>
    show cond (idB x.1) (cond (repB (repOf x)) (cond (x.2.2.1 == x.2.2.2.2.2.2.2.2.2.2.1) (k (noEnt x)) (k false)) (k false)) (k false) = _
    cases idB x.1 <;> cases repB (repOf x) <;> cases (x.2.2.1 == x.2.2.2.2.2.2.2.2.2.2.1) <;> rfl
theorem refMsgFit_is (x : Env1) (k : Bool → Option α) : draymanref23_Fit x k = k (envB x) := by
  simp only [draymanref23_Fit, draymanref23_Fit_g, refOne_is, refService_is, refFitReply_is]
  show cond (!(decide (x.1 < 1))) (cond (decide (x.1 > 1099511627776)) (k false) (cond x.2.1 (cond (oneB (entOf x)) (cond (x.2.2.1 == svc x.2.2.2.2.2.2.2.1) (k (noRep x)) (k false)) (k false)) (cond (repB (repOf x)) (cond (x.2.2.1 == x.2.2.2.2.2.2.2.2.2.2.1) (k (noEnt x)) (k false)) (k false)))) (k false) = _
  unfold envB
  by_cases h1 : x.1 < 1
  · have : idB x.1 = false := by simp [idB]; omega
    simp only [decide_eq_true h1, this, Bool.not_true, cond_false, Bool.false_and]
  by_cases h2 : x.1 > 1099511627776
  · have : idB x.1 = false := by simp [idB]; omega
    simp only [decide_eq_false h1, decide_eq_true h2, this, Bool.not_false, cond_true, Bool.false_and]
  have : idB x.1 = true := by simp [idB]; omega
  simp only [decide_eq_false h1, decide_eq_false h2, this, Bool.not_false, cond_true, cond_false, Bool.true_and]
  cases x.2.1 with
  | true => cases oneB (entOf x) <;> cases (x.2.2.1 == svc x.2.2.2.2.2.2.2.1) <;> rfl
  | false => cases repB (repOf x) <;> cases (x.2.2.1 == x.2.2.2.2.2.2.2.2.2.2.1) <;> rfl

/-! ### Nets that may be -/
def hasI (l : List Int) (x : Int) : Bool := l.any (· == x)
/-- From here on: what is on it may be, is below, and has numbers of its own. -/
def okFrom (next : Int) : List Int → List Env1 → Bool
  | _, [] => true
  | pre, x :: l => envB x && (!(decide (x.1 ≥ next)) && (!(hasI pre x.1) && okFrom next (pre ++ [x.1]) l))
theorem mGet_put {kt : Ty} {β : Type} (hr : ∀ x y : Tup kt, kt.beq x y = true ↔ x = y) (x y : Tup kt) (v : β) : ∀ m : List (Tup kt × β), mGet kt (mPut kt m x v) y = cond (kt.beq y x) (some v) (mGet kt m y)
  | [] => rfl
  | (k, u) :: m => by
    simp only [mPut]
    cases e : kt.beq x k with
    | true =>
      have hk := (hr x k).1 e
      subst hk
      simp only [cond_true, mGet]
      cases kt.beq y x <;> rfl
    | false =>
      simp only [cond_false, mGet, mGet_put hr x y v m]
      cases h : kt.beq y x with
      | true =>
        have := (hr y x).1 h
        subst this
        rw [e]; rfl
      | false => cases kt.beq y k <;> rfl
theorem beq_int (x y : Tup (.int .i64 .nil)) : Ty.beq (.int .i64 .nil) x y = true ↔ x = y := by
  obtain ⟨x, ⟨⟩⟩ := x
  obtain ⟨y, ⟨⟩⟩ := y
  simp only [Ty.beq, Bool.and_true, beq_iff_eq]
  exact ⟨fun h => by rw [h], fun h => congrArg Prod.fst h⟩
abbrev Met := List ((Int × Unit) × (Bool × Unit))
def MetOk (m : Met) (pre : List Int) : Prop := ∀ x : Int, (mGetD (.int .i64 .nil) (β := Bool × Unit) m (x, ()) (false, ())).1 = hasI pre x
theorem MetOk.nil : MetOk [] [] := fun x => rfl
theorem MetOk.put {m : Met} {pre : List Int} (h : MetOk m pre) (x : Int) : MetOk (mPut (.int .i64 .nil) (β := Bool × Unit) m (x, ()) (true, ())) (pre ++ [x]) := by
  intro y
  have hy := h y
  have hg := mGet_put (kt := .int .i64 .nil) (β := Bool × Unit) beq_int (x, ()) (y, ()) (true, ()) m
  refine (congrArg (fun o => (Option.getD o (false, ())).1) hg).trans ?_
  have hb : Ty.beq (.int .i64 .nil) (y, ()) (x, ()) = (y == x) := Bool.and_true _
  rw [hb]
  have : (x == y) = (y == x) := by rw [Bool.eq_iff_iff, beq_iff_eq, beq_iff_eq]; exact eq_comm
  simp only [hasI, List.any_append, List.any_cons, List.any_nil, Bool.or_false]
  rw [this]
  cases (y == x) with
  | true => simp
  | false => simp only [cond_false, Bool.or_false]; exact hy
def netB (n : Net) : Bool := idB n.1 && (decide (n.2.1.n ≤ 64) && okFrom n.1 [] (toL n.2.1))
theorem netFit_loop (kr : Bool → Net → Met → Option α) (k0 : Net → Met → Option α) (s : Seq Env1) (x5 : Net) (hn : s.n ≤ 900) (rf rt : Option α) (hkr : ∀ n m, kr false n m = rf) (hk0 : ∀ m, k0 x5 m = rt) : ∀ (d j N : Nat) (m : Met) (pre : List Int), j + d = s.n → d < N → MetOk m pre →
    net_Fit_l0_run msg_Fit kr k0 N s (s.n : Int) (j : Int) x5 m = cond (okFrom x5.1 pre ((toL s).drop j)) rt rf := by
  intro d
  induction d with
  | zero =>
    intro j N m pre hj hN hm
    obtain ⟨N, rfl⟩ : ∃ M, N = M + 1 := ⟨N - 1, by omega⟩
    have h3 : ¬ ((j : Int) < (s.n : Int)) := by omega
    simp only [net_Fit_l0_run, net_Fit_l0_step, ltF h3, cond_false, toL_end s (by omega : s.n ≤ j), okFrom, cond_true, hk0]
  | succ d ih =>
    intro j N m pre hj hN hm
    obtain ⟨N, rfl⟩ : ∃ M, N = M + 1 := ⟨N - 1, by omega⟩
    have h3 : (j : Int) < (s.n : Int) := by omega
    have h4 := ih (j + 1) N _ _ (by omega) (by omega) (hm.put (s.g j).1)
    simp only [net_Fit_l0_run, net_Fit_l0_step, ltT h3, inb (show j < s.n by omega), toNatC, nn, Bool.and_self, cond_true, wrap_succ (show j < 9223372036854775807 by omega), msgFit_is, hm (s.g j).1, hkr, Bool.not_not]
    rw [toL_drop s (by omega)]
    simp only [okFrom]
    rw [h4]
    cases envB (s.g j) <;> cases decide ((s.g j).1 ≥ x5.1) <;> cases hasI pre (s.g j).1 <;> rfl
theorem netFit_is (n : Net) (hn : n.2.1.n ≤ 900) (k : Bool → Option α) : net_Fit n k = k (netB n) := by
  have h := netFit_loop (α := α) (fun x8 x9 m10 => (k x8)) (fun x11 m12 => (cond (decide ((1 : Int) ≤ x11.1)) (cond (decide (x11.1 ≤ 1099511627776)) (k (decide ((x11.2.1.n : Int) ≤ 64))) (k false)) (k false))) n.2.1 n hn (k false)
    (k (idB n.1 && decide (n.2.1.n ≤ 64))) (fun _ _ => rfl) (fun m => by
      have : decide ((n.2.1.n : Int) ≤ 64) = decide (n.2.1.n ≤ 64) := decide_eq_decide.2 (by omega)
      simp only [this, idB]
      cases decide ((1 : Int) ≤ n.1) <;> cases decide (n.1 ≤ 1099511627776) <;> rfl) n.2.1.n 0 1000 [] [] (by omega) (by omega) MetOk.nil
  rw [List.drop_zero] at h
  refine (h : net_Fit n k = _).trans ?_
  unfold netB
  cases okFrom n.1 [] (toL n.2.1) <;> cases idB n.1 <;> cases decide (n.2.1.n ≤ 64) <;> rfl
theorem refFit_in (kr : Bool → Net → Option α) (k2 : Int → Net → Option α) (n : Net) (hn : n.2.1.n ≤ 900) (i : Nat) (hi : i < n.2.1.n) : ∀ (d j N : Nat), j + d = i → d < N →
    draymanref34_Fit_l0_run draymanref23_Fit kr k2 N (i : Int) (j : Int) n = cond ((((toL n.2.1).take i).drop j).any (fun y => y.1 == (n.2.1.g i).1)) (kr false n) (k2 (i : Int) n) := by
  intro d
  induction d with
  | zero =>
    intro j N hj hN
    obtain ⟨N, rfl⟩ : ∃ M, N = M + 1 := ⟨N - 1, by omega⟩
    have h3 : ¬ ((j : Int) < (i : Int)) := by omega
    have h4 : ((toL n.2.1).take i).drop j = [] := List.drop_of_length_le (by simp [toL_length]; omega)
    simp only [draymanref34_Fit_l0_run, draymanref34_Fit_l0_step, ltF h3, cond_false, h4, List.any_nil, cond_false]
  | succ d ih =>
    intro j N hj hN
    obtain ⟨N, rfl⟩ : ∃ M, N = M + 1 := ⟨N - 1, by omega⟩
    have h3 : (j : Int) < (i : Int) := by omega
    have h4 := ih (j + 1) N (by omega) (by omega)
    have h5 : ((toL n.2.1).take i).drop j = n.2.1.g j :: ((toL n.2.1).take i).drop (j + 1) := by
      rw [List.drop_take, toL_drop n.2.1 (by omega), List.drop_take]
      have : i - j = (i - (j + 1)) + 1 := by omega
      rw [this, List.take_succ_cons]
    simp only [draymanref34_Fit_l0_run, draymanref34_Fit_l0_step, ltT h3, ltT (show (j : Int) < (n.2.1.n : Int) by omega), ltT (show (i : Int) < (n.2.1.n : Int) by omega), toNatC, nn, Bool.and_self, cond_true, wrap_succ (show j < 9223372036854775807 by omega)]
    rw [h5, List.any_cons, h4]
    cases ((n.2.1.g j).1 == (n.2.1.g i).1) <;> rfl
theorem refFit_loop (kr : Bool → Net → Option α) (k0 : Net → Option α) (n : Net) (hn : n.2.1.n ≤ 900) (h64 : n.2.1.n ≤ 64) : ∀ (d j N : Nat), j + d = n.2.1.n → d < N →
    draymanref34_Fit_l1_run draymanref23_Fit kr k0 N (j : Int) n = cond (okFrom n.1 (((toL n.2.1).take j).map (·.1)) ((toL n.2.1).drop j)) (k0 n) (kr false n) := by
  intro d
  induction d with
  | zero =>
    intro j N hj hN
    obtain ⟨N, rfl⟩ : ∃ M, N = M + 1 := ⟨N - 1, by omega⟩
    have h3 : ¬ ((j : Int) < (n.2.1.n : Int)) := by omega
    simp only [draymanref34_Fit_l1_run, draymanref34_Fit_l1_step, ltF h3, cond_false, toL_end n.2.1 (by omega : n.2.1.n ≤ j), okFrom, cond_true]
  | succ d ih =>
    intro j N hj hN
    obtain ⟨N, rfl⟩ : ∃ M, N = M + 1 := ⟨N - 1, by omega⟩
    have hj' : j < n.2.1.n := by omega
    have h3 : (j : Int) < (n.2.1.n : Int) := by omega
    have h4 := ih (j + 1) N (by omega) (by omega)
    have h5 := refFit_in (α := α) (fun x8 x9 => (kr x8 x9)) (fun x10 x11 => (draymanref34_Fit_l1_run draymanref23_Fit kr k0 N (IntKind.i64.wrap (x10 + 1)) x11)) n hn j hj' j 0 1000 (by omega) (by omega)
    rw [List.drop_zero] at h5
    simp only [Int.natCast_zero] at h5
    have h5' := h5
    simp only [draymanref34_Fit_l1_run, draymanref34_Fit_l1_step, ltT h3, inb hj', toNatC, nn, Bool.and_self, cond_true, refMsgFit_is, Bool.not_not]
    rw [toL_drop n.2.1 hj']
    simp only [okFrom]
    have e1 : hasI (((toL n.2.1).take j).map (·.1)) (n.2.1.g j).1 = ((toL n.2.1).take j).any (fun y => y.1 == (n.2.1.g j).1) := by
      simp only [hasI, List.any_map]; rfl
    have e2 : ((toL n.2.1).take j).map (·.1) ++ [(n.2.1.g j).1] = ((toL n.2.1).take (j + 1)).map (·.1) := by
      have hl : j < (toL n.2.1).length := by rw [toL_length]; exact hj'
      rw [List.take_succ_eq_append_getElem hl, List.map_append]
      have : (toL n.2.1)[j] = n.2.1.g j := by simp [toL]
      rw [this]; rfl
    rw [e1, e2]
    cases envB (n.2.1.g j) with
    | false => rfl
    | true =>
      cases decide ((n.2.1.g j).1 ≥ n.1) with
      | true => rfl
      | false =>
        simp only [cond_true, cond_false, Bool.not_false, Bool.true_and]
        refine Eq.trans h5' ?_
        simp only [wrap_succ (show j < 9223372036854775807 by omega), h4]
        cases ((toL n.2.1).take j).any (fun y => y.1 == (n.2.1.g j).1) <;> rfl
theorem refNetFit_is (n : Net) (hn : n.2.1.n ≤ 900) (k : Bool → Option α) : draymanref34_Fit n k = k (netB n) := by
  simp only [draymanref34_Fit, draymanref34_Fit_g, netB]
  by_cases h1 : n.1 < 1
  · have : idB n.1 = false := by simp [idB]; omega
    simp only [decide_eq_true h1, this, Bool.not_true, cond_false, Bool.false_and]
  by_cases h2 : n.1 > 1099511627776
  · have : idB n.1 = false := by simp [idB]; omega
    simp only [decide_eq_false h1, decide_eq_true h2, this, Bool.not_false, Bool.not_true, cond_true, cond_false, Bool.false_and]
  have : idB n.1 = true := by simp [idB]; omega
  by_cases h3 : (n.2.1.n : Int) > 64
  · have h4 : ¬ n.2.1.n ≤ 64 := by omega
    simp only [decide_eq_false h1, decide_eq_false h2, decide_eq_true h3, decide_eq_false h4, this, Bool.not_false, cond_true, Bool.true_and, Bool.false_and]
  · have h4 : n.2.1.n ≤ 64 := by omega
    have h5 := refFit_loop (α := α) (fun x12 x13 => (k x12)) (fun x14 => (k true)) n hn h4 n.2.1.n 0 1000 (by omega) (by omega)
    rw [List.drop_zero] at h5
    simp only [decide_eq_false h1, decide_eq_false h2, decide_eq_false h3, decide_eq_true h4, this, Bool.not_false, cond_true, cond_false, Bool.true_and]
    refine Eq.trans h5 ?_
    show cond (okFrom n.1 [] (toL n.2.1)) _ _ = _
    cases okFrom n.1 [] (toL n.2.1) <;> rfl

/-! ### What is done to them -/
abbrev Envs := Seq Env1
def zE : Env1 := (0, false, 0, 0, 0, 0, false, 0, 0, false, 0, 0, 0, 0, false, 0, 0, ())
def zN : Net := (0, (⟨true, 0, (fun _ => zE)⟩ : Envs), ())
def lookA (n : Net) (i : Int) : Env1 × Bool := if i < 0 then (zE, false) else if i ≥ (n.2.1.n : Int) then (zE, false) else (n.2.1.g i.toNat, true)
theorem look_is (n : Net) (i : Int) (k : Env1 → Bool → Option α) : net_Look n i k = k (lookA n i).1 (lookA n i).2 := by
  unfold net_Look lookA
  by_cases h1 : i < 0
  · simp only [decide_eq_true h1, Bool.not_true, cond_false, if_pos h1]; rfl
  by_cases h2 : i ≥ (n.2.1.n : Int)
  · simp only [decide_eq_false h1, decide_eq_true h2, Bool.not_false, cond_true, if_neg h1, if_pos h2]; rfl
  have h3 : (0 : Int) ≤ i := by omega
  have h4 : i < (n.2.1.n : Int) := by omega
  simp only [decide_eq_false h1, decide_eq_false h2, decide_eq_true h3, decide_eq_true h4, Bool.and_self, Bool.not_false, cond_true, cond_false, if_neg h1, if_neg h2]
theorem refLook_is (n : Net) (i : Int) (k : Env1 → Bool → Option α) : draymanref34_Look n i k = k (lookA n i).1 (lookA n i).2 := look_is n i k
theorem look_in {n : Net} {i : Int} (h : (lookA n i).2 = true) : 0 ≤ i ∧ i < (n.2.1.n : Int) := by
  unfold lookA at h
  split at h
  · cases h
  · split at h
    · cases h
    · omega
def tot (l : List (Envs × Unit)) : Nat := (l.map (·.1.n)).sum
def flat (l : List (Envs × Unit)) : List Env1 := l.flatMap fun x => toL x.1
def Nil0 (s : Envs) : Prop := s.nl = true → s.n = 0
theorem concat_sum (k0 : Seq (Envs × Unit) → Int → Envs → Option α) (a : Seq (Envs × Unit)) (q : Envs) (hn : a.n < 4611686018427387904) : ∀ (m j N : Nat) (z : Nat), j + m = a.n → m < N → z + tot ((toL a).drop j) < 4611686018427387904 →
    slices_Concat_api_Envelope_api_Envelope_l0_run k0 N a (z : Int) a (a.n : Int) (j : Int) q = k0 a ((z + tot ((toL a).drop j) : Nat) : Int) q := by
  intro m
  induction m with
  | zero =>
    intro j N z hj hN hz
    obtain ⟨N, rfl⟩ : ∃ M, N = M + 1 := ⟨N - 1, by omega⟩
    have : ¬ ((j : Int) < (a.n : Int)) := by omega
    simp only [slices_Concat_api_Envelope_api_Envelope_l0_run, slices_Concat_api_Envelope_api_Envelope_l0_step, ltF this, cond_false, toL_end a (show a.n ≤ j by omega), tot, List.map_nil, List.sum_nil, Nat.add_zero]
  | succ m ih =>
    intro j N z hj hN hz
    obtain ⟨N, rfl⟩ : ∃ M, N = M + 1 := ⟨N - 1, by omega⟩
    have h1 : (j : Int) < (a.n : Int) := by omega
    rw [toL_drop a (show j < a.n by omega)] at hz ⊢
    simp only [tot, List.map_cons, List.sum_cons] at hz ⊢
    have hw : IntKind.i64.wrap ((z : Int) + (((a.g j).1.n : Nat) : Int)) = ((z + (a.g j).1.n : Nat) : Int) := by
      rw [wrap64 (by omega) (by omega)]; omega
    have hneg : ¬ (((z + (a.g j).1.n : Nat) : Int) < 0) := by omega
    simp only [slices_Concat_api_Envelope_api_Envelope_l0_run, slices_Concat_api_Envelope_api_Envelope_l0_step, ltT h1, nn, Bool.and_self, cond_true, toNatC, hw, ltF hneg, cond_false, wrap_succ (show j < 9223372036854775807 by omega)]
    rw [ih (j + 1) N _ (by omega) (by omega) (by simp only [tot]; omega)]
    simp only [tot, Nat.add_assoc]
def app1 (q : Envs) (x : Envs × Unit) : Envs := ⟨(q.nl && (Nat.beq x.1.n 0)), (q.n + x.1.n), (tApp q.n q.g x.1.g)⟩
theorem app1_toL (q : Envs) (x : Envs × Unit) : toL (app1 q x) = toL q ++ toL x.1 := by
  exact toL_app _ q.nl x.1.nl q.n x.1.n q.g x.1.g
theorem app1_ntoL {q : Envs} (hq : Nil0 q) (x : Envs × Unit) : Nil0 (app1 q x) := fun h => by
  simp only [app1, Bool.and_eq_true, Nat.beq_eq] at h
  have := hq h.1
  simp only [app1]
  omega
theorem foldl_toL : ∀ (l : List (Envs × Unit)) (q : Envs), toL (l.foldl app1 q) = toL q ++ flat l
  | [], q => by simp [flat]
  | x :: l, q => by simp only [List.foldl_cons, foldl_toL l, app1_toL, flat, List.flatMap_cons, List.append_assoc]
theorem foldl_ntoL : ∀ (l : List (Envs × Unit)) (q : Envs), Nil0 q → Nil0 (l.foldl app1 q)
  | [], q, h => h
  | x :: l, q, h => foldl_ntoL l _ (app1_ntoL h x)
theorem concat_put (k2 : Envs → Envs → Envs → Option α) (a : Seq (Envs × Unit)) (q4 q5 : Envs) (hn : a.n < 4611686018427387904) : ∀ (m j N : Nat) (q : Envs), j + m = a.n → m < N → q.n + tot ((toL a).drop j) ≤ 1000000 →
    slices_Concat_api_Envelope_api_Envelope_l1_run k2 N a (a.n : Int) (j : Int) q4 q5 q = k2 q4 q5 (((toL a).drop j).foldl app1 q) := by
  intro m
  induction m with
  | zero =>
    intro j N q hj hN hz
    obtain ⟨N, rfl⟩ : ∃ M, N = M + 1 := ⟨N - 1, by omega⟩
    have : ¬ ((j : Int) < (a.n : Int)) := by omega
    simp only [slices_Concat_api_Envelope_api_Envelope_l1_run, slices_Concat_api_Envelope_api_Envelope_l1_step, ltF this, cond_false, toL_end a (show a.n ≤ j by omega), List.foldl_nil]
  | succ m ih =>
    intro j N q hj hN hz
    obtain ⟨N, rfl⟩ : ∃ M, N = M + 1 := ⟨N - 1, by omega⟩
    have h1 : (j : Int) < (a.n : Int) := by omega
    rw [toL_drop a (show j < a.n by omega)] at hz ⊢
    simp only [tot, List.map_cons, List.sum_cons] at hz
    have hle : decide (((q.n + (a.g j).1.n)) * 136 ≤ 140737488355328) = true := decide_eq_true (by omega)
    simp only [slices_Concat_api_Envelope_api_Envelope_l1_run, slices_Concat_api_Envelope_api_Envelope_l1_step, ltT h1, nn, Bool.and_self, cond_true, toNatC, hle, wrap_succ (show j < 9223372036854775807 by omega), List.foldl_cons]
    exact ih (j + 1) N (app1 q (a.g j)) (by omega) (by omega) (by simp only [app1, tot]; omega)
theorem concat_is (a : Seq (Envs × Unit)) (hn : a.n ≤ 900) (ht : tot (toL a) ≤ 1000000) : ∃ r, (∀ k : Envs → Option α, slices_Concat_api_Envelope_api_Envelope a k = k r) ∧ toL r = flat (toL a) ∧ Nil0 r := by
  have h3 : ¬ (((0 + tot (toL a) : Nat) : Int) < 0) := by omega
  have hw : IntKind.i64.wrap (((0 + tot (toL a) : Nat) : Int) - 0) = ((tot (toL a) : Nat) : Int) := by
    rw [wrap64 (by omega) (by omega)]; omega
  have hsum : ∀ (k0 : Seq (Envs × Unit) → Int → Envs → Option α) q, slices_Concat_api_Envelope_api_Envelope_l0_run k0 1000 a 0 a (a.n : Int) 0 q = k0 a ((0 + tot (toL a) : Nat) : Int) q := by
    intro k0 q
    have := concat_sum k0 a q (by omega) a.n 0 1000 0 (by omega) (by omega) (by simp; omega)
    simpa using this
  have hput : ∀ (k2 : Envs → Envs → Envs → Option α) q4 q5 (q : Envs), q.n = 0 → slices_Concat_api_Envelope_api_Envelope_l1_run k2 1000 a (a.n : Int) 0 q4 q5 q = k2 q4 q5 ((toL a).foldl app1 q) := by
    intro k2 q4 q5 q hq
    have := concat_put k2 a q4 q5 (by omega) a.n 0 1000 q (by omega) (by omega) (by simp; omega)
    simpa using this
  by_cases hz : ((tot (toL a) : Nat) : Int) > 0
  · refine ⟨(toL a).foldl app1 ⟨(Nat.beq (((tot (toL a) : Nat) : Int)).toNat 0), 0, (tApp 0 (fun _ => zE) (fun _ => zE))⟩, fun k => ?_, by rw [foldl_toL]; rfl, foldl_ntoL _ _ fun _ => rfl⟩
    unfold slices_Concat_api_Envelope_api_Envelope
    rw [hsum]
    have e1 : decide (((tot (toL a) : Nat) : Int) * 136 ≤ 140737488355328) = true := decide_eq_true (by omega)
    have e2 : decide ((0 + ((tot (toL a) : Nat) : Int).toNat) * 136 ≤ 140737488355328) = true := decide_eq_true (by omega)
    have e3 : decide ((0 : Int) ≤ (((0 + ((tot (toL a) : Nat) : Int).toNat) : Nat) : Int)) = true := decide_eq_true (by omega)
    simp only [ltF h3, cond_false, hw, decide_eq_true hz, cond_true, nn, e1, e2, e3, Bool.and_self]
    exact hput _ _ _ _ rfl
  · refine ⟨(toL a).foldl app1 ⟨true, 0, (fun _ => zE)⟩, fun k => ?_, by rw [foldl_toL]; rfl, foldl_ntoL _ _ fun _ => rfl⟩
    unfold slices_Concat_api_Envelope_api_Envelope
    rw [hsum]
    simp only [ltF h3, cond_false, hw, decide_eq_false hz]
    exact hput _ _ _ _ rfl

/-- What a net tells. -/
def absN (n : Net) : Int × List Env1 := (n.1, toL n.2.1)
def takeE (n : Net) (i : Int) : Int := cond (netB n) (cond (lookA n i).2 0 2) 12
def takeX (n : Net) (i : Int) : Env1 := cond (netB n) (cond (lookA n i).2 (lookA n i).1 zE) zE
def takeN (n : Net) (i : Int) : Int × List Env1 := cond (netB n) (cond (lookA n i).2 (n.1, (toL n.2.1).take i.toNat ++ (toL n.2.1).drop (i.toNat + 1)) (0, [])) (0, [])
theorem found_is (n : Net) (hn : n.2.1.n ≤ 900) (i : Int) (k : Env1 → Int → Option α) : net_found n i k = k (takeX n i) (takeE n i) := by
  simp only [net_found, net_found_g, look_is, netFit_is n hn, takeX, takeE]
  cases netB n <;> cases (lookA n i).2 <;> rfl
theorem takeE_ok {n : Net} {i : Int} (h : takeE n i = 0) : netB n = true ∧ (lookA n i).2 = true := by
  unfold takeE at h
  cases h1 : netB n with
  | false => rw [h1] at h; cases h
  | true =>
    cases h2 : (lookA n i).2 with
    | false => rw [h1, h2] at h; cases h
    | true => exact ⟨rfl, rfl⟩
theorem take_is (n : Net) (hn : n.2.1.n ≤ 900) (i : Int) : ∃ r : Net, (∀ k : Net → Env1 → Int → Option α, net_Take n i k = k r (takeX n i) (takeE n i)) ∧ absN r = takeN n i := by
  by_cases h : takeE n i = 0
  · obtain ⟨hb, hl⟩ := takeE_ok h
    obtain ⟨h1, h2⟩ := look_in hl
    obtain ⟨i, rfl⟩ : ∃ m : Nat, i = (m : Int) := ⟨i.toNat, by omega⟩
    have h2' : i < n.2.1.n := by omega
    have hw : IntKind.i64.wrap ((i : Int) + 1) = ((i + 1 : Nat) : Int) := wrap_succ (by omega)
    let A : Seq (Envs × Unit) := ⟨false, 2, (tSel [((⟨n.2.1.nl, (i : Int).toNat, n.2.1.g⟩ : Envs), ()), ((⟨n.2.1.nl, (n.2.1.n - ((i + 1 : Nat) : Int).toNat), (tShift ((i + 1 : Nat) : Int).toNat n.2.1.g)⟩ : Envs), ())] ((⟨true, 0, fun _ => (0, false, 0, 0, 0, 0, false, 0, 0, false, 0, 0, 0, 0, false, 0, 0, ())⟩ : Envs), ()))⟩
    have hA : toL A = [((⟨n.2.1.nl, i, n.2.1.g⟩ : Envs), ()), ((⟨n.2.1.nl, (n.2.1.n - (i + 1)), (tShift (i + 1) n.2.1.g)⟩ : Envs), ())] := rfl
    obtain ⟨c, hc1, hc2, hc3⟩ := concat_is (α := α) A (by show (2 : Nat) ≤ 900; omega) (by rw [hA]; simp only [tot, List.map_cons, List.map_nil, List.sum_cons, List.sum_nil]; omega)
    refine ⟨(n.1, c, ()), fun k => ?_, ?_⟩
    · have e1 : decide ((i : Int) ≤ (n.2.1.n : Int)) = true := decide_eq_true (by omega)
      have e2 : decide ((((i + 1 : Nat)) : Int) ≤ (n.2.1.n : Int)) = true := decide_eq_true (by omega)
      have e3 : ((0 : Int) != 0) = false := rfl
      simp only [net_Take, net_Take_g, found_is n hn, h, e3, cond_false, nn, e1, e2, hw, Bool.and_self, cond_true]
      exact hc1 _
    · simp only [absN, takeN, hb, hl, cond_true, hc2, hA, flat, List.flatMap_cons, List.flatMap_nil, List.append_nil, toNatC]
      rw [toL_take n.2.1.nl n.2.1.nl n.2.1.n i n.2.1.g (by omega), toL_shift n.2.1.nl n.2.1.nl n.2.1.n (i + 1) n.2.1.g]
  · have e3 : (takeE n i != 0) = true := by simpa using h
    refine ⟨zN, fun k => ?_, ?_⟩
    · simp only [net_Take, net_Take_g, found_is n hn, e3, cond_true]
      unfold takeX takeE
      unfold takeE at h
      cases hb : netB n with
      | false => rfl
      | true =>
        cases hl : (lookA n i).2 with
        | false => rfl
        | true => rw [hb, hl] at h; exact absurd rfl h
    · unfold takeN
      unfold takeE at h
      cases hb : netB n with
      | false => rfl
      | true =>
        cases hl : (lookA n i).2 with
        | false => rfl
        | true => rw [hb, hl] at h; exact absurd rfl h
theorem refTake_loop (n : Net) (hn : n.2.1.n ≤ 900) (i : Nat) (x9 : Int) (x10 x11 : Env1) (x12 : Int) (q13 : Envs) : ∀ (d j N : Nat) (q : Envs), j + d = n.2.1.n → d < N → q.n ≤ j → toL q = ((toL n.2.1).take j).eraseIdx i →
    ∃ r : Envs, (∀ k0 : Net → Int → Env1 → Env1 → Int → Envs → Envs → Option α, draymanref34_Take_l0_run draymanref34_Fit draymanref34_Look k0 N (i : Int) (j : Int) n x9 x10 x11 x12 q13 q = k0 n x9 x10 x11 x12 q13 r) ∧ toL r = (toL n.2.1).eraseIdx i := by
  intro d
  induction d with
  | zero =>
    intro j N q hj hN hq hl
    obtain ⟨N, rfl⟩ : ∃ M, N = M + 1 := ⟨N - 1, by omega⟩
    have h3 : ¬ ((j : Int) < (n.2.1.n : Int)) := by omega
    refine ⟨q, fun k0 => by simp only [draymanref34_Take_l0_run, draymanref34_Take_l0_step, ltF h3, cond_false], ?_⟩
    rw [hl, List.take_of_length_le (by rw [toL_length]; omega)]
  | succ d ih =>
    intro j N q hj hN hq hl
    obtain ⟨N, rfl⟩ : ∃ M, N = M + 1 := ⟨N - 1, by omega⟩
    have h3 : (j : Int) < (n.2.1.n : Int) := by omega
    have hlen : j < (toL n.2.1).length := by rw [toL_length]; omega
    have hget : (toL n.2.1)[j] = n.2.1.g j := by simp [toL]
    have htk : (toL n.2.1).take (j + 1) = (toL n.2.1).take j ++ [n.2.1.g j] := by rw [List.take_succ_eq_append_getElem hlen, hget]
    have htl : ((toL n.2.1).take j).length = j := by simp [toL_length]; omega
    have hsz : decide (((q.n + 1)) * 136 ≤ 140737488355328) = true := decide_eq_true (by omega)
    by_cases hji : j = i
    · subst hji
      obtain ⟨r, h5, h6⟩ := ih (j + 1) N q (by omega) (by omega) (by omega) (by
        rw [hl, htk, List.eraseIdx_append_of_length_le (by omega), htl, List.eraseIdx_of_length_le (by omega)]; simp)
      refine ⟨r, fun k0 => ?_, h6⟩
      have e : ((j : Int) != (j : Int)) = false := by simp
      simp only [draymanref34_Take_l0_run, draymanref34_Take_l0_step, ltT h3, e, cond_true, cond_false, wrap_succ (show j < 9223372036854775807 by omega)]
      exact h5 k0
    · obtain ⟨r, h5, h6⟩ := ih (j + 1) N (⟨(q.nl && false), (q.n + 1), (tApp q.n q.g (fun _ => (n.2.1.g j)))⟩ : Envs) (by omega) (by omega) (by simp only; omega) (by
        rw [toL_app _ q.nl false, toL_one]
        show toL q ++ _ = _
        rw [hl, htk]
        by_cases hlt : i < j
        · rw [List.eraseIdx_append_of_lt_length (by omega)]
        · rw [List.eraseIdx_of_length_le (by omega), List.eraseIdx_of_length_le (by simp [toL_length]; omega)])
      refine ⟨r, fun k0 => ?_, h6⟩
      have e : ((j : Int) != (i : Int)) = true := by simp; omega
      simp only [draymanref34_Take_l0_run, draymanref34_Take_l0_step, ltT h3, e, nn, Bool.and_self, toNatC, hsz, cond_true, wrap_succ (show j < 9223372036854775807 by omega)]
      exact h5 k0
theorem refTake_is (n : Net) (hn : n.2.1.n ≤ 900) (i : Int) : ∃ r : Net, (∀ k : Net → Env1 → Int → Option α, draymanref34_Take n i k = k r (takeX n i) (takeE n i)) ∧ absN r = takeN n i := by
  unfold takeX takeE takeN
  cases hf : netB n with
  | false => exact ⟨zN, fun k => by simp only [draymanref34_Take, draymanref34_Take_g, refNetFit_is n hn, hf, Bool.not_false, cond_true]; rfl, rfl⟩
  | true =>
  cases hl : (lookA n i).2 with
  | false => exact ⟨zN, fun k => by simp only [draymanref34_Take, draymanref34_Take_g, refNetFit_is n hn, refLook_is, hf, hl, Bool.not_true, Bool.not_false, cond_false, cond_true]; rfl, rfl⟩
  | true =>
    obtain ⟨h1, h2⟩ := look_in hl
    obtain ⟨i, rfl⟩ : ∃ m : Nat, i = (m : Int) := ⟨i.toNat, by omega⟩
    obtain ⟨r, h5, h6⟩ := refTake_loop (α := α) n hn i 0 zE (lookA n (i : Int)).1 n.1 (⟨true, 0, (fun _ => zE)⟩ : Envs) n.2.1.n 0 1000 (⟨true, 0, (fun _ => zE)⟩ : Envs) (by omega) (by omega) (by simp) rfl
    refine ⟨(n.1, r, ()), fun k => ?_, ?_⟩
    · simp only [draymanref34_Take, draymanref34_Take_g, refNetFit_is n hn, refLook_is, hf, hl, Bool.not_true, cond_false, cond_true]
      exact h5 _
    · simp only [absN, cond_true, h6, toNatC, List.eraseIdx_eq_take_drop_succ]

/-! ### Nets that are one -/
def eqE (a b : Env1) : Bool := ((a.1 == b.1) && ((a.2.1 == b.2.1) && ((a.2.2.1 == b.2.2.1) && (((a.2.2.2.1 == b.2.2.2.1) && ((a.2.2.2.2.1 == b.2.2.2.2.1) && ((a.2.2.2.2.2.1 == b.2.2.2.2.2.1) && ((a.2.2.2.2.2.2.1 == b.2.2.2.2.2.2.1) && ((a.2.2.2.2.2.2.2.1 == b.2.2.2.2.2.2.2.1) && ((a.2.2.2.2.2.2.2.2.1 == b.2.2.2.2.2.2.2.2.1) && ((a.2.2.2.2.2.2.2.2.2.1 == b.2.2.2.2.2.2.2.2.2.1) && true))))))) && (((a.2.2.2.2.2.2.2.2.2.2.1 == b.2.2.2.2.2.2.2.2.2.2.1) && ((a.2.2.2.2.2.2.2.2.2.2.2.1 == b.2.2.2.2.2.2.2.2.2.2.2.1) && ((a.2.2.2.2.2.2.2.2.2.2.2.2.1 == b.2.2.2.2.2.2.2.2.2.2.2.2.1) && ((a.2.2.2.2.2.2.2.2.2.2.2.2.2.1 == b.2.2.2.2.2.2.2.2.2.2.2.2.2.1) && ((a.2.2.2.2.2.2.2.2.2.2.2.2.2.2.1 == b.2.2.2.2.2.2.2.2.2.2.2.2.2.2.1) && ((a.2.2.2.2.2.2.2.2.2.2.2.2.2.2.2.1 == b.2.2.2.2.2.2.2.2.2.2.2.2.2.2.2.1) && ((a.2.2.2.2.2.2.2.2.2.2.2.2.2.2.2.2.1 == b.2.2.2.2.2.2.2.2.2.2.2.2.2.2.2.2.1) && true))))))) && true)))))
theorem eqE_is (a b : Env1) : eqE a b = decide (a = b) := by
  obtain ⟨a1, a2, a3, a4, a5, a6, a7, a8, a9, a10, a11, a12, a13, a14, a15, a16, a17, ⟨⟩⟩ := a
  obtain ⟨b1, b2, b3, b4, b5, b6, b7, b8, b9, b10, b11, b12, b13, b14, b15, b16, b17, ⟨⟩⟩ := b
  rw [Bool.eq_iff_iff]
  simp only [eqE, Bool.and_eq_true, beq_iff_eq, decide_eq_true_eq, Prod.mk.injEq, and_true, and_assoc]
theorem same_loop (kr : Bool → Net → Net → Option α) (k0 : Net → Net → Option α) (a b : Net) (hst : a.2.1.n = b.2.1.n) (hn : a.2.1.n ≤ 900) : ∀ (m j N : Nat), j + m = a.2.1.n → m < N →
    draymanref34_Same_l0_run kr k0 N (j : Int) a b = cond (decide ((toL a.2.1).drop j = (toL b.2.1).drop j)) (k0 a b) (kr false a b) := by
  intro m
  induction m with
  | zero =>
    intro j N hj hN
    obtain ⟨N, rfl⟩ : ∃ M, N = M + 1 := ⟨N - 1, by omega⟩
    have : ¬ ((j : Int) < (a.2.1.n : Int)) := by omega
    simp only [draymanref34_Same_l0_run, draymanref34_Same_l0_step, ltF this, cond_false, toL_end a.2.1 (show a.2.1.n ≤ j by omega), toL_end b.2.1 (show b.2.1.n ≤ j by omega), decide_true, cond_true]
  | succ m ih =>
    intro j N hj hN
    obtain ⟨N, rfl⟩ : ∃ M, N = M + 1 := ⟨N - 1, by omega⟩
    have h1 : (j : Int) < (a.2.1.n : Int) := by omega
    have h2 : (j : Int) < (b.2.1.n : Int) := by omega
    simp only [draymanref34_Same_l0_run, draymanref34_Same_l0_step, ltT h1, ltT h2, nn, Bool.and_self, cond_true, toNatC, wrap_succ (show j < 9223372036854775807 by omega), ih (j + 1) N (by omega) (by omega)]
    show cond (!(eqE (a.2.1.g j) (b.2.1.g j))) _ _ = _
    rw [toL_drop a.2.1 (show j < a.2.1.n by omega), toL_drop b.2.1 (show j < b.2.1.n by omega), eqE_is]
    by_cases h : a.2.1.g j = b.2.1.g j
    · simp [h]
    · simp [h]
theorem equal_loop (kr : Bool → Option α) (k0 : Option α) (s t : Envs) (hst : s.n = t.n) (hn : s.n ≤ 900) : ∀ (m j N : Nat), j + m = s.n → m < N →
    slices_Equal_api_Envelope_api_Envelope_l0_run kr k0 N s t (s.n : Int) (j : Int) = cond (decide ((toL s).drop j = (toL t).drop j)) k0 (kr false) := by
  intro m
  induction m with
  | zero =>
    intro j N hj hN
    obtain ⟨N, rfl⟩ : ∃ M, N = M + 1 := ⟨N - 1, by omega⟩
    have : ¬ ((j : Int) < (s.n : Int)) := by omega
    simp only [slices_Equal_api_Envelope_api_Envelope_l0_run, slices_Equal_api_Envelope_api_Envelope_l0_step, ltF this, cond_false, toL_end s (show s.n ≤ j by omega), toL_end t (show t.n ≤ j by omega), decide_true, cond_true]
  | succ m ih =>
    intro j N hj hN
    obtain ⟨N, rfl⟩ : ∃ M, N = M + 1 := ⟨N - 1, by omega⟩
    have h1 : (j : Int) < (s.n : Int) := by omega
    have h2 : (j : Int) < (t.n : Int) := by omega
    simp only [slices_Equal_api_Envelope_api_Envelope_l0_run, slices_Equal_api_Envelope_api_Envelope_l0_step, ltT h1, ltT h2, nn, Bool.and_self, cond_true, toNatC, wrap_succ (show j < 9223372036854775807 by omega), ih (j + 1) N (by omega) (by omega)]
    show cond (!(eqE (s.g j) (t.g j))) _ _ = _
    rw [toL_drop s (show j < s.n by omega), toL_drop t (show j < t.n by omega), eqE_is]
    by_cases h : s.g j = t.g j
    · simp [h]
    · simp [h]
noncomputable def sameN (a b : Net) : Bool := (a.1 == b.1) && decide (toL a.2.1 = toL b.2.1)
theorem ne_of_n {s t : Envs} (h : s.n ≠ t.n) : toL s ≠ toL t := fun e => h (by rw [← toL_length s, ← toL_length t, e])
theorem refSame_is (a b : Net) (hn : a.2.1.n ≤ 900) (k : Bool → Option α) : draymanref34_Same a b k = k (sameN a b) := by
  unfold draymanref34_Same sameN
  by_cases h0 : a.1 = b.1
  · have e0 : (a.1 != b.1) = false := by simp [h0]
    have e1 : (a.1 == b.1) = true := by simp [h0]
    rw [e0, e1]
    by_cases h : a.2.1.n = b.2.1.n
    · have h2 := same_loop (α := α) (fun x6 x7 x8 => (k x6)) (fun x9 x10 => (k true)) a b h hn a.2.1.n 0 1000 (by omega) (by omega)
      rw [List.drop_zero, List.drop_zero] at h2
      have e : ((a.2.1.n : Int) != (b.2.1.n : Int)) = false := by simp [h]
      rw [e]
      refine Eq.trans h2 ?_
      cases decide (toL a.2.1 = toL b.2.1) <;> rfl
    · have e : ((a.2.1.n : Int) != (b.2.1.n : Int)) = true := by simp; omega
      rw [e, decide_eq_false (ne_of_n h)]
      rfl
  · have e0 : (a.1 != b.1) = true := by simpa using h0
    have e1 : (a.1 == b.1) = false := by simpa using h0
    rw [e0, e1]; rfl
theorem equal_is (s t : Envs) (hn : s.n ≤ 900) (k : Bool → Option α) : slices_Equal_api_Envelope_api_Envelope s t k = k (decide (toL s = toL t)) := by
  unfold slices_Equal_api_Envelope_api_Envelope
  by_cases h : s.n = t.n
  · have h2 := equal_loop (α := α) (fun x3 => k x3) (k true) s t h hn s.n 0 1000 (by omega) (by omega)
    rw [List.drop_zero, List.drop_zero] at h2
    have e : ((s.n : Int) != (t.n : Int)) = false := by simp [h]
    rw [e]
    refine Eq.trans h2 ?_
    cases decide (toL s = toL t) <;> rfl
  · have e : ((s.n : Int) != (t.n : Int)) = true := by simp; omega
    rw [e, decide_eq_false (ne_of_n h)]
    rfl
theorem netSame_is (a b : Net) (hn : a.2.1.n ≤ 900) (k : Bool → Option α) : net_Same a b k = k (sameN a b) := by
  simp only [net_Same, net_Same_g, equal_is _ _ hn, sameN]
  cases (a.1 == b.1) <;> rfl
theorem same_is (a b : Net) (hn : a.2.1.n ≤ 900) (k : Bool → Option α) : draymanlaw34_same a b k = k (sameN a b) := by
  simp only [draymanlaw34_same, draymanlaw34_same_g, refSame_is a b hn]
theorem sameN_of {a b : Net} (h : absN a = absN b) : sameN a b = true := by
  simp only [absN, Prod.mk.injEq] at h
  simp [sameN, h.1, h.2]

/-! ### What is put on them -/
def putN (n : Net) (x : Env1) : Int × List Env1 := cond (netB n) (cond (n.1 == 1099511627776) (absN n) (cond (envB x) (n.1 + 1, cond (decide (n.2.1.n < 64)) (toL n.2.1 ++ [x]) (toL n.2.1)) (absN n))) (absN n)
theorem next_of {n : Net} (h : netB n = true) : 1 ≤ n.1 ∧ n.1 ≤ 1099511627776 := by
  simp only [netB, Bool.and_eq_true] at h
  exact le_of_id h.1
theorem put_is (n : Net) (hn : n.2.1.n ≤ 900) (x : Env1) (K : Net → Option α) : ∃ r : Net, absN r = putN n x ∧
    (∀ K : Net → Option α, cond (!(!(netB n))) (cond (!(n.1 == 1099511627776)) (cond (!(envB x)) (K n) (cond (decide ((n.2.1.n : Int) < 64))
      (cond (((decide ((0 : Int) ≤ (n.2.1.n : Int))) && (decide ((n.2.1.n : Int) ≤ (n.2.1.n : Int)))) && (decide ((n.2.1.n : Int) = (n.2.1.n : Int))))
        (cond (decide ((((n.2.1.n : Int).toNat + 1)) * 136 ≤ 140737488355328))
          (K ((IntKind.i64.wrap (n.1 + 1)), (⟨(n.2.1.nl && false), ((n.2.1.n : Int).toNat + 1), (tApp (n.2.1.n : Int).toNat n.2.1.g (fun _ => x))⟩ : Envs), ())) none) none)
      (K ((IntKind.i64.wrap (n.1 + 1)), n.2.1, ())))) (K n)) (K n) = K r) := by
  unfold putN
  cases hb : netB n with
  | false => exact ⟨n, rfl, fun K => rfl⟩
  | true =>
    have hnx := next_of hb
    cases hm : (n.1 == 1099511627776) with
    | true => exact ⟨n, rfl, fun K => rfl⟩
    | false =>
      cases he : envB x with
      | false => exact ⟨n, rfl, fun K => rfl⟩
      | true =>
        have hw : IntKind.i64.wrap (n.1 + 1) = n.1 + 1 := wrap64 (by omega) (by omega)
        by_cases h : n.2.1.n < 64
        · have h' : (n.2.1.n : Int) < 64 := by omega
          have e1 : decide ((((n.2.1.n : Int).toNat + 1)) * 136 ≤ 140737488355328) = true := decide_eq_true (by omega)
          have e2 : decide ((n.2.1.n : Int) ≤ (n.2.1.n : Int)) = true := decide_eq_true (by omega)
          refine ⟨(n.1 + 1, (⟨(n.2.1.nl && false), ((n.2.1.n : Int).toNat + 1), (tApp (n.2.1.n : Int).toNat n.2.1.g (fun _ => x))⟩ : Envs), ()), ?_, fun K => ?_⟩
          rotate_left
          · rw [decide_eq_true h', e1, nn, e2, hw]
            simp only [decide_true, Bool.and_self, Bool.not_true, Bool.not_false, cond_true, cond_false]
          · simp only [absN, cond_true, cond_false, decide_eq_true h, toNatC]
            rw [toL_app _ n.2.1.nl false, toL_one]
        · have h' : ¬ (n.2.1.n : Int) < 64 := by omega
          refine ⟨(n.1 + 1, n.2.1, ()), ?_, fun K => ?_⟩
          rotate_left
          · rw [decide_eq_false h', hw]
            simp only [Bool.not_true, Bool.not_false, cond_true, cond_false]
          · simp only [absN, cond_true, cond_false, decide_eq_false h]
def numbered (n : Net) (x : Env1) : Env1 := (n.1, x.2)
theorem refPut_is (n : Net) (hn : n.2.1.n ≤ 900) (x : Env1) : ∃ r : Net, (∀ k : Net → Option α, draymanref34_put n x k = k r) ∧ absN r = putN n (numbered n x) := by
  unfold putN
  have e0 : ∀ k : Net → Option α, draymanref34_put n x k = cond (!(!(netB n))) (cond (n.1 == 1099511627776) (k n) (cond (!(envB (numbered n x))) (k n) (cond (decide (((0 + n.2.1.n)) * 136 ≤ 140737488355328)) (cond (decide ((n.2.1.n : Int) < 64))
        (cond (decide ((((0 + n.2.1.n) + 1)) * 136 ≤ 140737488355328))
          (k ((IntKind.i64.wrap (n.1 + 1)), (⟨((Nat.beq n.2.1.n 0) && false), ((0 + n.2.1.n) + 1), (tApp (0 + n.2.1.n) (tApp 0 (fun _ => zE) n.2.1.g) (fun _ => numbered n x))⟩ : Envs), ())) none)
        (k ((IntKind.i64.wrap (n.1 + 1)), (⟨(Nat.beq n.2.1.n 0), (0 + n.2.1.n), (tApp 0 (fun _ => zE) n.2.1.g)⟩ : Envs), ()))) none))) (k n) := by
    intro k
    simp only [draymanref34_put, draymanref34_put_g, refNetFit_is n hn, refMsgFit_is]
    rfl
  cases hb : netB n with
  | false => exact ⟨n, fun k => by rw [e0, hb]; rfl, rfl⟩
  | true =>
    have hnx := next_of hb
    cases hm : (n.1 == 1099511627776) with
    | true => exact ⟨n, fun k => by rw [e0, hb, hm]; rfl, rfl⟩
    | false =>
      cases he : envB (numbered n x) with
      | false => exact ⟨n, fun k => by rw [e0, hb, hm, he]; rfl, rfl⟩
      | true =>
        have hw : IntKind.i64.wrap (n.1 + 1) = n.1 + 1 := wrap64 (by omega) (by omega)
        have e1 : decide ((((0 + n.2.1.n) + 1)) * 136 ≤ 140737488355328) = true := decide_eq_true (by omega)
        have e2 : decide (((0 + n.2.1.n)) * 136 ≤ 140737488355328) = true := decide_eq_true (by omega)
        have hcp : ∀ nl, toL (⟨nl, 0 + n.2.1.n, tApp 0 (fun _ => zE) n.2.1.g⟩ : Envs) = toL n.2.1 := fun nl => by
          rw [toL_app nl true n.2.1.nl, toL_zero]; rfl
        by_cases h : n.2.1.n < 64
        · have h' : (n.2.1.n : Int) < 64 := by omega
          refine ⟨(n.1 + 1, (⟨((Nat.beq n.2.1.n 0) && false), ((0 + n.2.1.n) + 1), (tApp (0 + n.2.1.n) (tApp 0 (fun _ => zE) n.2.1.g) (fun _ => numbered n x))⟩ : Envs), ()), fun k => ?_, ?_⟩
          · rw [e0, hb, hm, he, decide_eq_true h', e1, e2, hw]
            simp only [Bool.not_true, Bool.not_false, cond_true, cond_false]
          · simp only [absN, cond_true, cond_false, decide_eq_true h]
            rw [toL_app _ true false, toL_one, hcp]
        · have h' : ¬ (n.2.1.n : Int) < 64 := by omega
          refine ⟨(n.1 + 1, (⟨(Nat.beq n.2.1.n 0), (0 + n.2.1.n), (tApp 0 (fun _ => zE) n.2.1.g)⟩ : Envs), ()), fun k => ?_, ?_⟩
          · rw [e0, hb, hm, he, decide_eq_false h', e2, hw]
            simp only [Bool.not_true, Bool.not_false, cond_true, cond_false]
          · simp only [absN, cond_true, cond_false, decide_eq_false h, hcp]

def askX (n : Net) (x : Ent) : Env1 := (n.1, true, svc x.2.2.2.2.1, x.1, x.2.1, x.2.2.1, x.2.2.2.1, x.2.2.2.2.1, x.2.2.2.2.2.1, x.2.2.2.2.2.2.1, 0, 0, 0, 0, false, 0, 0, ())
def tellX (n : Net) (r : Rep) : Env1 := (n.1, false, r.1, 0, 0, 0, false, 0, 0, false, r)
theorem ask_is (n : Net) (hn : n.2.1.n ≤ 900) (x : Ent) : ∃ r : Net, (∀ k : Net → Option α, net_Ask n x k = k r) ∧ absN r = putN n (askX n x) := by
  obtain ⟨r, h1, h2⟩ := put_is (α := α) n hn (askX n x) (fun _ => none)
  refine ⟨r, fun k => ?_, h1⟩
  have h3 := h2 k
  simp only [decide_true] at h3
  simp only [net_Ask, net_Ask_g, Service_is, netFit_is n hn, msgFit_is, decide_true]
  exact h3
theorem tell_is (n : Net) (hn : n.2.1.n ≤ 900) (x : Rep) : ∃ r : Net, (∀ k : Net → Option α, net_Tell n x k = k r) ∧ absN r = putN n (tellX n x) := by
  obtain ⟨r, h1, h2⟩ := put_is (α := α) n hn (tellX n x) (fun _ => none)
  refine ⟨r, fun k => ?_, h1⟩
  have h3 := h2 k
  simp only [decide_true] at h3
  simp only [net_Tell, net_Tell_g, netFit_is n hn, msgFit_is, decide_true]
  exact h3
theorem refAsk_is (n : Net) (hn : n.2.1.n ≤ 900) (x : Ent) : ∃ r : Net, (∀ k : Net → Option α, draymanref34_Ask n x k = k r) ∧ absN r = putN n (askX n x) := by
  obtain ⟨r, h1, h2⟩ := refPut_is (α := α) n hn (0, true, svc x.2.2.2.2.1, x.1, x.2.1, x.2.2.1, x.2.2.2.1, x.2.2.2.2.1, x.2.2.2.2.2.1, x.2.2.2.2.2.2.1, 0, 0, 0, 0, false, 0, 0, ())
  exact ⟨r, fun k => by simp only [draymanref34_Ask, draymanref34_Ask_g, refService_is]; exact h1 k, h2⟩
theorem refTell_is (n : Net) (hn : n.2.1.n ≤ 900) (x : Rep) : ∃ r : Net, (∀ k : Net → Option α, draymanref34_Tell n x k = k r) ∧ absN r = putN n (tellX n x) := by
  obtain ⟨r, h1, h2⟩ := refPut_is (α := α) n hn (0, false, x.1, 0, 0, 0, false, 0, 0, false, x)
  exact ⟨r, fun k => by simp only [draymanref34_Tell, draymanref34_Tell_g]; exact h1 k, h2⟩

def copyE (n : Net) (i : Int) : Int := cond (takeE n i == 0) (cond (n.1 == 1099511627776) 5 (cond (decide (n.2.1.n = 64)) 4 0)) (takeE n i)
def copyN (n : Net) (i : Int) : Int × List Env1 := cond (copyE n i == 0) (putN n (numbered n (lookA n i).1)) (0, [])
theorem copy_is (n : Net) (hn : n.2.1.n ≤ 900) (i : Int) : ∃ r : Net, (∀ k : Net → Int → Option α, net_Copy n i k = k r (copyE n i)) ∧ absN r = copyN n i := by
  unfold copyN copyE
  cases he : (takeE n i == 0) with
  | false =>
    have e3 : (takeE n i != 0) = true := by simp only [bne, he, Bool.not_false]
    refine ⟨zN, fun k => ?_, by simp only [cond_false, he]; rfl⟩
    simp only [net_Copy, net_Copy_g, found_is n hn, e3, cond_true, cond_false]
    rfl
  | true =>
    have e3 : (takeE n i != 0) = false := by simp only [bne, he, Bool.not_true]
    obtain ⟨hb, hl⟩ := takeE_ok (by simpa using he)
    have hx : takeX n i = (lookA n i).1 := by unfold takeX; rw [hb, hl]; rfl
    cases hm : (n.1 == 1099511627776) with
    | true =>
      refine ⟨zN, fun k => ?_, rfl⟩
      simp only [net_Copy, net_Copy_g, found_is n hn, e3, hm, cond_true, cond_false]
      rfl
    | false =>
      by_cases h : n.2.1.n = 64
      · refine ⟨zN, fun k => ?_, by simp only [cond_true, cond_false, decide_eq_true h]; rfl⟩
        have e4 : ((n.2.1.n : Int) == 64) = true := by simp [h]
        simp only [net_Copy, net_Copy_g, found_is n hn, e3, hm, e4, cond_true, cond_false, decide_eq_true h]
        rfl
      · have e4 : ((n.2.1.n : Int) == 64) = false := by rw [beq_eq_false_iff_ne]; omega
        obtain ⟨r, h1, h2⟩ := put_is (α := α) n hn (numbered n (lookA n i).1) (fun _ => none)
        refine ⟨r, fun k => ?_, by simp only [cond_true, cond_false, decide_eq_false h, h1]; rfl⟩
        simp only [net_Copy, net_Copy_g, found_is n hn, e3, hm, e4, cond_true, cond_false, decide_eq_false h, hx, netFit_is n hn, msgFit_is, decide_true]
        have h3 := h2 (fun r => k r 0)
        simp only [hm, decide_true] at h3
        exact h3
theorem refCopy_is (n : Net) (hn : n.2.1.n ≤ 900) (i : Int) : ∃ r : Net, (∀ k : Net → Int → Option α, draymanref34_Copy n i k = k r (copyE n i)) ∧ absN r = copyN n i := by
  unfold copyN copyE takeE
  cases hb : netB n with
  | false =>
    refine ⟨zN, fun k => ?_, rfl⟩
    simp only [draymanref34_Copy, draymanref34_Copy_g, refNetFit_is n hn, hb, Bool.not_false, cond_true]
    rfl
  | true =>
  cases hl : (lookA n i).2 with
  | false =>
    refine ⟨zN, fun k => ?_, rfl⟩
    simp only [draymanref34_Copy, draymanref34_Copy_g, refNetFit_is n hn, refLook_is, hb, hl, Bool.not_false, Bool.not_true, cond_true, cond_false]
    rfl
  | true =>
    cases hm : (n.1 == 1099511627776) with
    | true =>
      refine ⟨zN, fun k => ?_, rfl⟩
      simp only [draymanref34_Copy, draymanref34_Copy_g, refNetFit_is n hn, refLook_is, hb, hl, hm, Bool.not_true, cond_true, cond_false]
      rfl
    | false =>
      by_cases h : n.2.1.n = 64
      · refine ⟨zN, fun k => ?_, by simp only [cond_true, cond_false, decide_eq_true h]; rfl⟩
        have e4 : ((n.2.1.n : Int) == 64) = true := by simp [h]
        simp only [draymanref34_Copy, draymanref34_Copy_g, refNetFit_is n hn, refLook_is, hb, hl, hm, e4, Bool.not_true, cond_true, cond_false, decide_eq_true h]
        rfl
      · have e4 : ((n.2.1.n : Int) == 64) = false := by rw [beq_eq_false_iff_ne]; omega
        obtain ⟨r, h1, h2⟩ := refPut_is (α := α) n hn (lookA n i).1
        refine ⟨r, fun k => ?_, by simp only [cond_true, cond_false, decide_eq_false h, h2]; rfl⟩
        simp only [draymanref34_Copy, draymanref34_Copy_g, refNetFit_is n hn, refLook_is, hb, hl, hm, e4, h1, Bool.not_true, cond_true, cond_false, decide_eq_false h]
        rfl
theorem awake34_is (k : Bool → Option α) : draymanlaw34_awake k = k true := by kernel_rfl
theorem of_is (n : Net) (k : Net → Option α) : draymanlaw34_of n k = k n := rfl

theorem absN_n {a b : Net} (h : absN a = absN b) : a.2.1.n = b.2.1.n := by
  have := congrArg (fun p => p.2.length) h
  simpa only [absN, toL_length] using this
theorem take_n {n r : Net} {i : Int} (hn : n.2.1.n ≤ 70) (h : absN r = takeN n i) : r.2.1.n ≤ 900 := by
  have h1 := congrArg (fun p => p.2.length) h
  simp only [absN, toL_length, takeN] at h1
  cases hb : netB n <;> cases hl : (lookA n i).2 <;> (simp only [hb, hl, cond_true, cond_false, List.length_nil, List.length_append, List.length_take, List.length_drop, toL_length] at h1; omega)
theorem put_n {n r : Net} {x : Env1} (hn : n.2.1.n ≤ 70) (h : absN r = putN n x) : r.2.1.n ≤ 71 := by
  have h1 := congrArg (fun p => p.2.length) h
  simp only [absN, toL_length, putN] at h1
  cases hb : netB n <;> cases hl : (n.1 == 1099511627776) <;> cases he : envB x <;> cases hd : decide (n.2.1.n < 64) <;> (simp only [hb, hl, he, hd, cond_true, cond_false, List.length_append, List.length_cons, List.length_nil, toL_length] at h1; omega)
theorem copy_n {n r : Net} {i : Int} (hn : n.2.1.n ≤ 70) (h : absN r = copyN n i) : r.2.1.n ≤ 900 := by
  unfold copyN at h
  cases hb : (copyE n i == 0) with
  | true => rw [hb] at h; have := put_n hn h; omega
  | false =>
    rw [hb] at h
    have h1 := congrArg (fun p => p.2.length) h
    simp only [absN, toL_length, cond_false, List.length_nil] at h1
    omega
theorem NetDoes_is (x0 x1 : Net) (x2 : Env1) (x3 : Int) (k : Bool → Option α) : draymanlaw34_NetDoes x0 x1 x2 x3 k = k true := by
  simp only [draymanlaw34_NetDoes, draymanlaw34_NetDoes_g, awake34_is, of_is]
  by_cases h0 : (x0.2.1.n : Int) > 70
  · simp only [decide_eq_true h0, Bool.not_true, cond_false]
  by_cases h1 : (x1.2.1.n : Int) > 70
  · simp only [decide_eq_false h0, decide_eq_true h1, Bool.not_false, cond_true]
  have hn : x0.2.1.n ≤ 70 := by omega
  have hn9 : x0.2.1.n ≤ 900 := by omega
  obtain ⟨a, a1, a2⟩ := take_is (α := α) x0 hn9 x3
  obtain ⟨b, b1, b2⟩ := refTake_is (α := α) x0 hn9 x3
  obtain ⟨c, c1, c2⟩ := copy_is (α := α) x0 hn9 x3
  obtain ⟨d, d1, d2⟩ := refCopy_is (α := α) x0 hn9 x3
  obtain ⟨e, e1, e2⟩ := ask_is (α := α) x0 hn9 (entOf x2)
  obtain ⟨f, f1, f2⟩ := refAsk_is (α := α) x0 hn9 (entOf x2)
  obtain ⟨g, g1, g2⟩ := tell_is (α := α) x0 hn9 (repOf x2)
  obtain ⟨h, h1', h2'⟩ := refTell_is (α := α) x0 hn9 (repOf x2)
  have s1 := sameN_of (a2.trans b2.symm)
  have s2 := sameN_of (c2.trans d2.symm)
  have s3 := sameN_of (e2.trans f2.symm)
  have s4 := sameN_of (g2.trans h2'.symm)
  have i1 : ∀ k : Net → Option α, net_Ask x0 (x2.2.2.2.1, x2.2.2.2.2.1, x2.2.2.2.2.2.1, x2.2.2.2.2.2.2.1, x2.2.2.2.2.2.2.2.1, x2.2.2.2.2.2.2.2.2.1, x2.2.2.2.2.2.2.2.2.2.1, ()) k = k e := e1
  have i2 : ∀ k : Net → Option α, draymanref34_Ask x0 (x2.2.2.2.1, x2.2.2.2.2.1, x2.2.2.2.2.2.1, x2.2.2.2.2.2.2.1, x2.2.2.2.2.2.2.2.1, x2.2.2.2.2.2.2.2.2.1, x2.2.2.2.2.2.2.2.2.2.1, ()) k = k f := f1
  have i3 : ∀ k : Net → Option α, net_Tell x0 x2.2.2.2.2.2.2.2.2.2.2 k = k g := g1
  have i4 : ∀ k : Net → Option α, draymanref34_Tell x0 x2.2.2.2.2.2.2.2.2.2.2 k = k h := h1'
  have j1 := take_n hn a2
  have j2 := copy_n hn c2
  have j3 := put_n hn e2
  have j4 := put_n hn g2
  have hne : ∀ x : Int, (x != x) = false := fun x => by simp
  have hE : ∀ x : Env1, eqE x x = true := fun x => by rw [eqE_is]; simp
  simp only [decide_eq_false h0, decide_eq_false h1, Bool.not_false, cond_true, cond_false, a1, b1, c1, d1, look_is, refLook_is]
  simp only [same_is a b j1, s1, Bool.not_true, Bool.not_false, cond_true, hne, same_is c d j2, s2, i1, i2, i3, i4, same_is e f (by omega), s3, same_is g h (by omega), s4, netFit_is x0 hn9, refNetFit_is x0 hn9, netSame_is x0 x1 hn9, refSame_is x0 x1 hn9, beq_self_eq_true, Bool.and_self, cond_false]
  simp only [net_New, draymanref34_New]
  rw [same_is _ _ (by simp)]
  simp [sameN]
theorem NetDoes_true (x0 : Tup (.int .i64 (.sl (.int .i64 (.bool (.int .i64 (.int .i64 (.int .i64 (.int .i64 (.bool (.int .i64 (.int .i64 (.bool (.int .i64 (.int .i64 (.int .i64 (.int .i64 (.bool (.int .i64 (.int .i64 (.nil)))))))))))))))))) (.nil)))) (x1 : Tup (.int .i64 (.sl (.int .i64 (.bool (.int .i64 (.int .i64 (.int .i64 (.int .i64 (.bool (.int .i64 (.int .i64 (.bool (.int .i64 (.int .i64 (.int .i64 (.int .i64 (.bool (.int .i64 (.int .i64 (.nil)))))))))))))))))) (.nil)))) (x2 : Tup (.int .i64 (.bool (.int .i64 (.int .i64 (.int .i64 (.int .i64 (.bool (.int .i64 (.int .i64 (.bool (.int .i64 (.int .i64 (.int .i64 (.int .i64 (.bool (.int .i64 (.int .i64 (.nil))))))))))))))))))) (x3 : Tup (.int .i64 (.nil))) (o0 : OkT (.int .i64 (.sl (.int .i64 (.bool (.int .i64 (.int .i64 (.int .i64 (.int .i64 (.bool (.int .i64 (.int .i64 (.bool (.int .i64 (.int .i64 (.int .i64 (.int .i64 (.bool (.int .i64 (.int .i64 (.nil)))))))))))))))))) (.nil))) x0) (o1 : OkT (.int .i64 (.sl (.int .i64 (.bool (.int .i64 (.int .i64 (.int .i64 (.int .i64 (.bool (.int .i64 (.int .i64 (.bool (.int .i64 (.int .i64 (.int .i64 (.int .i64 (.bool (.int .i64 (.int .i64 (.nil)))))))))))))))))) (.nil))) x1) (o2 : OkT (.int .i64 (.bool (.int .i64 (.int .i64 (.int .i64 (.int .i64 (.bool (.int .i64 (.int .i64 (.bool (.int .i64 (.int .i64 (.int .i64 (.int .i64 (.bool (.int .i64 (.int .i64 (.nil)))))))))))))))))) x2) (o3 : OkT (.int .i64 (.nil)) x3) (k : Bool → Option Unit) : draymanlaw34_NetDoes x0 x1 x2 x3.1 k = k true :=
  NetDoes_is (α := Unit) x0 x1 x2 x3.1 k

end Go.Rv.Try
