/- Holds, second part: rows put together, looked through, compared. -/
import Derived.Test.YtmoeohjaafpmgaaDoorE3
import Derived.Test.YtmoeohjaafpmgaaDoorPureHoldLib
set_option linter.unusedVariables false
set_option linter.unusedSimpArgs false
namespace Go.Rv.Tryd
open Go Go.Rv
variable {α : Type}
def Nil0 {β : Type} (s : Seq β) : Prop := s.nl = true → s.n = 0
abbrev zL : Ln := (ByteArray.empty, 0, ())
abbrev zH : Hd := (0, (⟨true, 0, fun _ => (ByteArray.empty, 0, ())⟩ : Seq Ln), 0, ())
abbrev zHs : Seq Hd := (⟨true, 0, (fun _ => zH)⟩ : Seq Hd)
def hc_tot (l : List ((Seq Hd) × Unit)) : Nat := (l.map (·.1.n)).sum
def hc_flat (l : List ((Seq Hd) × Unit)) : List Hd := l.flatMap fun x => toL x.1
theorem hc_concat_sum (k0 : Seq ((Seq Hd) × Unit) → Int → (Seq Hd) → Option α) (a : Seq ((Seq Hd) × Unit)) (q : (Seq Hd)) (hn : a.n < 4611686018427387904) : ∀ (m j N : Nat) (z : Nat), j + m = a.n → m < N → z + hc_tot ((toL a).drop j) < 4611686018427387904 →
    slices_Concat_api_Hold_api_Hold_l0_run k0 N a (z : Int) a (a.n : Int) (j : Int) q = k0 a ((z + hc_tot ((toL a).drop j) : Nat) : Int) q := by
  intro m
  induction m with
  | zero =>
    intro j N z hj hN hz
    obtain ⟨N, rfl⟩ : ∃ M, N = M + 1 := ⟨N - 1, by omega⟩
    have : ¬ ((j : Int) < (a.n : Int)) := by omega
    simp only [slices_Concat_api_Hold_api_Hold_l0_run, slices_Concat_api_Hold_api_Hold_l0_step, ltF this, cond_false, toL_end a (show a.n ≤ j by omega), hc_tot, List.map_nil, List.sum_nil, Nat.add_zero]
  | succ m ih =>
    intro j N z hj hN hz
    obtain ⟨N, rfl⟩ : ∃ M, N = M + 1 := ⟨N - 1, by omega⟩
    have h1 : (j : Int) < (a.n : Int) := by omega
    rw [toL_drop a (show j < a.n by omega)] at hz ⊢
    simp only [hc_tot, List.map_cons, List.sum_cons] at hz ⊢
    have hw : IntKind.i64.wrap ((z : Int) + (((a.g j).1.n : Nat) : Int)) = ((z + (a.g j).1.n : Nat) : Int) := by
      rw [wrap64 (by omega) (by omega)]; omega
    have hneg : ¬ (((z + (a.g j).1.n : Nat) : Int) < 0) := by omega
    simp only [slices_Concat_api_Hold_api_Hold_l0_run, slices_Concat_api_Hold_api_Hold_l0_step, ltT h1, nn, Bool.and_self, cond_true, toNatC, hw, ltF hneg, cond_false, wrap_succ (show j < 9223372036854775807 by omega)]
    rw [ih (j + 1) N _ (by omega) (by omega) (by simp only [hc_tot]; omega)]
    simp only [hc_tot, Nat.add_assoc]
def hc_app1 (q : (Seq Hd)) (x : (Seq Hd) × Unit) : (Seq Hd) := ⟨(q.nl && (Nat.beq x.1.n 0)), (q.n + x.1.n), (tApp q.n q.g x.1.g)⟩
theorem hc_app1_toL (q : (Seq Hd)) (x : (Seq Hd) × Unit) : toL (hc_app1 q x) = toL q ++ toL x.1 := by
  exact toL_app _ q.nl x.1.nl q.n x.1.n q.g x.1.g
theorem hc_app1_ntoL {q : (Seq Hd)} (hq : Nil0 q) (x : (Seq Hd) × Unit) : Nil0 (hc_app1 q x) := fun h => by
  simp only [hc_app1, Bool.and_eq_true, Nat.beq_eq] at h
  have := hq h.1
  simp only [hc_app1]
  omega
theorem hc_foldl_toL : ∀ (l : List ((Seq Hd) × Unit)) (q : (Seq Hd)), toL (l.foldl hc_app1 q) = toL q ++ hc_flat l
  | [], q => by simp [hc_flat]
  | x :: l, q => by simp only [List.foldl_cons, hc_foldl_toL l, hc_app1_toL, hc_flat, List.flatMap_cons, List.append_assoc]
theorem hc_foldl_ntoL : ∀ (l : List ((Seq Hd) × Unit)) (q : (Seq Hd)), Nil0 q → Nil0 (l.foldl hc_app1 q)
  | [], q, h => h
  | x :: l, q, h => hc_foldl_ntoL l _ (hc_app1_ntoL h x)
theorem hc_concat_put (k2 : (Seq Hd) → (Seq Hd) → (Seq Hd) → Option α) (a : Seq ((Seq Hd) × Unit)) (q4 q5 : (Seq Hd)) (hn : a.n < 4611686018427387904) : ∀ (m j N : Nat) (q : (Seq Hd)), j + m = a.n → m < N → q.n + hc_tot ((toL a).drop j) ≤ 1000000 →
    slices_Concat_api_Hold_api_Hold_l1_run k2 N a (a.n : Int) (j : Int) q4 q5 q = k2 q4 q5 (((toL a).drop j).foldl hc_app1 q) := by
  intro m
  induction m with
  | zero =>
    intro j N q hj hN hz
    obtain ⟨N, rfl⟩ : ∃ M, N = M + 1 := ⟨N - 1, by omega⟩
    have : ¬ ((j : Int) < (a.n : Int)) := by omega
    simp only [slices_Concat_api_Hold_api_Hold_l1_run, slices_Concat_api_Hold_api_Hold_l1_step, ltF this, cond_false, toL_end a (show a.n ≤ j by omega), List.foldl_nil]
  | succ m ih =>
    intro j N q hj hN hz
    obtain ⟨N, rfl⟩ : ∃ M, N = M + 1 := ⟨N - 1, by omega⟩
    have h1 : (j : Int) < (a.n : Int) := by omega
    rw [toL_drop a (show j < a.n by omega)] at hz ⊢
    simp only [hc_tot, List.map_cons, List.sum_cons] at hz
    have hle : decide (((q.n + (a.g j).1.n)) * 40 ≤ 140737488355328) = true := decide_eq_true (by omega)
    simp only [slices_Concat_api_Hold_api_Hold_l1_run, slices_Concat_api_Hold_api_Hold_l1_step, ltT h1, nn, Bool.and_self, cond_true, toNatC, hle, wrap_succ (show j < 9223372036854775807 by omega), List.foldl_cons]
    exact ih (j + 1) N (hc_app1 q (a.g j)) (by omega) (by omega) (by simp only [hc_app1, hc_tot]; omega)
theorem hc_concat_is (a : Seq ((Seq Hd) × Unit)) (hn : a.n ≤ 900) (ht : hc_tot (toL a) ≤ 1000000) : ∃ r, (∀ k : (Seq Hd) → Option α, slices_Concat_api_Hold_api_Hold a k = k r) ∧ toL r = hc_flat (toL a) ∧ Nil0 r := by
  have h3 : ¬ (((0 + hc_tot (toL a) : Nat) : Int) < 0) := by omega
  have hw : IntKind.i64.wrap (((0 + hc_tot (toL a) : Nat) : Int) - 0) = ((hc_tot (toL a) : Nat) : Int) := by
    rw [wrap64 (by omega) (by omega)]; omega
  have hsum : ∀ (k0 : Seq ((Seq Hd) × Unit) → Int → (Seq Hd) → Option α) q, slices_Concat_api_Hold_api_Hold_l0_run k0 1000 a 0 a (a.n : Int) 0 q = k0 a ((0 + hc_tot (toL a) : Nat) : Int) q := by
    intro k0 q
    have := hc_concat_sum k0 a q (by omega) a.n 0 1000 0 (by omega) (by omega) (by simp; omega)
    simpa using this
  have hput : ∀ (k2 : (Seq Hd) → (Seq Hd) → (Seq Hd) → Option α) q4 q5 (q : (Seq Hd)), q.n = 0 → slices_Concat_api_Hold_api_Hold_l1_run k2 1000 a (a.n : Int) 0 q4 q5 q = k2 q4 q5 ((toL a).foldl hc_app1 q) := by
    intro k2 q4 q5 q hq
    have := hc_concat_put k2 a q4 q5 (by omega) a.n 0 1000 q (by omega) (by omega) (by simp; omega)
    simpa using this
  by_cases hz : ((hc_tot (toL a) : Nat) : Int) > 0
  · refine ⟨(toL a).foldl hc_app1 ⟨(Nat.beq (((hc_tot (toL a) : Nat) : Int)).toNat 0), 0, (tApp 0 (fun _ => zH) (fun _ => zH))⟩, fun k => ?_, by rw [hc_foldl_toL]; rfl, hc_foldl_ntoL _ _ fun _ => rfl⟩
    unfold slices_Concat_api_Hold_api_Hold
    rw [hsum]
    have e1 : decide (((hc_tot (toL a) : Nat) : Int) * 40 ≤ 140737488355328) = true := decide_eq_true (by omega)
    have e2 : decide ((0 + ((hc_tot (toL a) : Nat) : Int).toNat) * 40 ≤ 140737488355328) = true := decide_eq_true (by omega)
    have e3 : decide ((0 : Int) ≤ (((0 + ((hc_tot (toL a) : Nat) : Int).toNat) : Nat) : Int)) = true := decide_eq_true (by omega)
    simp only [ltF h3, cond_false, hw, decide_eq_true hz, cond_true, nn, e1, e2, e3, Bool.and_self]
    exact hput _ _ _ _ rfl
  · refine ⟨(toL a).foldl hc_app1 ⟨true, 0, (fun _ => zH)⟩, fun k => ?_, by rw [hc_foldl_toL]; rfl, hc_foldl_ntoL _ _ fun _ => rfl⟩
    unfold slices_Concat_api_Hold_api_Hold
    rw [hsum]
    simp only [ltF h3, cond_false, hw, decide_eq_false hz]
    exact hput _ _ _ _ rfl

theorem hc_clone_is (s : (Seq Ln)) (hs : Nil0 s) (hn : s.n ≤ 1000000) : ∃ r : (Seq Ln), (∀ k : (Seq Ln) → Option α, slices_Clone_api_Line_api_Line s k = k r) ∧ toL r = toL s ∧ Nil0 r := by
  cases h : s.nl with
  | true =>
    refine ⟨⟨true, 0, (fun _ => zL)⟩, fun k => by simp only [slices_Clone_api_Line_api_Line, h, cond_true], ?_, fun _ => rfl⟩
    have := hs h
    exact (List.length_eq_zero_iff.1 (by rw [toL_length, this])).symm
  | false =>
    refine ⟨⟨false, (0 + s.n), (tApp 0 (tSel [] zL) s.g)⟩, fun k => ?_, ?_, fun h => by cases h⟩
    · have e : decide (((0 + s.n)) * 24 ≤ 140737488355328) = true := decide_eq_true (by omega)
      simp only [slices_Clone_api_Line_api_Line, h, cond_false, e, cond_true]
    · rw [toL_app false true s.nl 0 s.n]
      rfl


theorem own_is {h : Hd} (h0 : Nil0 h.2.1) (hs : SmL (toL h.2.1)) : ∃ r : Seq Ln, (∀ k : Int → Int → Seq Ln → Option α, holds_own h k = k h.1 h.2.2.1 r) ∧ toL r = toL h.2.1 ∧ Nil0 r := by
  obtain ⟨r, h1, h2, h3⟩ := hc_clone_is (α := α) h.2.1 h0 (by have := (SmL_mem hs).1; omega)
  exact ⟨r, fun k => h1 _, h2, h3⟩
/-! ### Looked through -/
/-- The place of the first that answers, or less than nothing. -/
def idxFrom {β : Type} (p : β → Bool) (i : Nat) (l : List β) : Int := if l.any p then ((i + (l.takeWhile fun x => !p x).length : Nat) : Int) else -1
theorem idxFrom_nil {β : Type} (p : β → Bool) (i : Nat) : idxFrom p i [] = -1 := rfl
theorem idxFrom_T {β : Type} {p : β → Bool} {i : Nat} {x : β} {l : List β} (h : p x = true) : idxFrom p i (x :: l) = (i : Int) := by
  simp [idxFrom, h, List.takeWhile]
theorem idxFrom_F {β : Type} {p : β → Bool} {i : Nat} {x : β} {l : List β} (h : p x = false) : idxFrom p i (x :: l) = idxFrom p (i + 1) l := by
  simp [idxFrom, h, List.takeWhile]
  by_cases h2 : ∃ x, x ∈ l ∧ p x = true
  · rw [if_pos h2, if_pos h2]; omega
  · rw [if_neg h2, if_neg h2]
theorem index_id_loop (k : Int → Int → Option α) (q : Seq Hd) (x : Int) (hn : q.n < 900) : ∀ (n i : Nat), q.n - i < n →
    slices_IndexFunc_api_Hold_api_Hold_l0_run holds_of_1 (fun x9 x10 => k x9 x10) (fun x11 => k (-1) x11) n q (q.n : Int) (i : Int) x = k (idxFrom (fun h : Hm => h.1 == x) i ((mHs q).drop i)) x := by
  intro n
  induction n with
  | zero => intro i hi; omega
  | succ n ih =>
    intro i hi
    unfold slices_IndexFunc_api_Hold_api_Hold_l0_run slices_IndexFunc_api_Hold_api_Hold_l0_step
    by_cases hl : i < q.n
    · rw [cT (by omega), inb hl, cond_true, toNatC, mHs_drop q hl]
      by_cases h : (q.g i).1 = x
      · rw [idxFrom_T (p := fun h : Hm => h.1 == x) (beqT h)]
        exact cbT h
      · rw [idxFrom_F (p := fun h : Hm => h.1 == x) (beqF h), wrap_succ (by omega)]
        exact (cbF h).trans (ih (i + 1) (by omega))
    · rw [cF (by omega), mHs_end q (by omega)]; rfl
theorem index_id_is (q : Seq Hd) (x : Int) (hn : q.n < 900) (k : Int → Int → Option α) : slices_IndexFunc_api_Hold_api_Hold q x k = k (idxFrom (fun h : Hm => h.1 == x) 0 (mHs q)) x :=
  index_id_loop k q x hn 1000 0 (by omega)
theorem index_gt_loop (k : Int → Hd → Option α) (q : Seq Hd) (x : Hd) (hn : q.n < 900) : ∀ (n i : Nat), q.n - i < n →
    slices_IndexFunc_api_Hold_api_Hold_s1_l0_run holds_Put_1 (fun x9 x10 => k x9 x10) (fun x11 => k (-1) x11) n q (q.n : Int) (i : Int) x = k (idxFrom (fun h : Hm => decide (h.1 > x.1)) i ((mHs q).drop i)) x := by
  intro n
  induction n with
  | zero => intro i hi; omega
  | succ n ih =>
    intro i hi
    unfold slices_IndexFunc_api_Hold_api_Hold_s1_l0_run slices_IndexFunc_api_Hold_api_Hold_s1_l0_step
    by_cases hl : i < q.n
    · rw [cT (by omega), inb hl, cond_true, toNatC, mHs_drop q hl]
      by_cases h : (q.g i).1 > x.1
      · rw [idxFrom_T (p := fun h : Hm => decide (h.1 > x.1)) (decide_eq_true h)]
        exact cT h
      · rw [idxFrom_F (p := fun h : Hm => decide (h.1 > x.1)) (decide_eq_false h), wrap_succ (by omega)]
        exact (cF h).trans (ih (i + 1) (by omega))
    · rw [cF (by omega), mHs_end q (by omega)]; rfl
theorem index_gt_is (q : Seq Hd) (x : Hd) (hn : q.n < 900) (k : Int → Hd → Option α) : slices_IndexFunc_api_Hold_api_Hold_s1 q x k = k (idxFrom (fun h : Hm => decide (h.1 > x.1)) 0 (mHs q)) x :=
  index_gt_loop k q x hn 1000 0 (by omega)
theorem idxFrom_neg {β : Type} {p : β → Bool} {i : Nat} {l : List β} : idxFrom p i l < 0 ↔ l.any p = false := by
  unfold idxFrom
  cases h : l.any p with
  | true => simp; omega
  | false => simp
theorem idx_pos {β : Type} {p : β → Bool} {l : List β} (h : l.any p = true) : ∃ j : Nat, idxFrom p 0 l = (j : Int) ∧ j < l.length ∧ l.take j = l.takeWhile (fun x => !p x) ∧ l.drop j = l.dropWhile (fun x => !p x) := by
  refine ⟨(l.takeWhile fun x => !p x).length, by unfold idxFrom; rw [h, if_pos rfl, Nat.zero_add], ?_, ?_, ?_⟩
  · induction l with
    | nil => cases h
    | cons x l ih =>
      rw [List.takeWhile_cons]
      cases hp : p x with
      | true => simp
      | false =>
        rw [List.any_cons, hp, Bool.false_or] at h
        have := ih h
        simp only [Bool.not_false, if_true, List.length_cons]; omega
  · have := List.takeWhile_append_dropWhile (p := fun x => !p x) (l := l)
    exact (congrArg (List.take _) this.symm).trans (List.take_left' rfl)
  · have := List.takeWhile_append_dropWhile (p := fun x => !p x) (l := l)
    exact (congrArg (List.drop _) this.symm).trans (List.drop_left' rfl)
theorem tw_all {β : Type} {p : β → Bool} : ∀ {l : List β}, (∀ x ∈ l, p x = true) → l.takeWhile p = l
  | [], _ => rfl
  | x :: l, h => by rw [List.takeWhile_cons, h x (List.mem_cons_self ..), if_pos rfl, tw_all fun y hy => h y (List.mem_cons_of_mem _ hy)]
theorem dw_all {β : Type} {p : β → Bool} : ∀ {l : List β}, (∀ x ∈ l, p x = true) → l.dropWhile p = []
  | [], _ => rfl
  | x :: l, h => by rw [List.dropWhile_cons, h x (List.mem_cons_self ..), if_pos rfl, dw_all fun y hy => h y (List.mem_cons_of_mem _ hy)]
theorem ref13_Find_loop (k : Hd → Bool → Option α) (q : Seq Hd) (x : Int) (hn : q.n < 900) : ∀ (n i : Nat), q.n - i < n →
    draymanref13_Find_l0_run (fun x7 x8 => k x8 x7) (fun x9 => k zH false) n q x (i : Int) zH = (match ((toL q).drop i).find? (fun h => h.1 == x) with | some h => k h true | none => k zH false) := by
  intro n
  induction n with
  | zero => intro i hi; omega
  | succ n ih =>
    intro i hi
    unfold draymanref13_Find_l0_run draymanref13_Find_l0_step
    by_cases hl : i < q.n
    · rw [cT (by omega), inb hl, cond_true, toNatC, toL_drop q hl]
      by_cases h : (q.g i).1 = x
      · rw [cbT h, cond_true, List.find?_cons_of_pos (by rw [beqT h])]
      · rw [cbF h, wrap_succ (by omega), List.find?_cons_of_neg (by rw [beqF h]; decide)]
        exact ih (i + 1) (by omega)
    · rw [cF (by omega), toL_end q (by omega)]; rfl
theorem ref13_Find_is (q : Seq Hd) (x : Int) (hn : q.n < 900) (k : Hd → Bool → Option α) : draymanref13_Find q x k = (match (toL q).find? (fun h => h.1 == x) with | some h => k h true | none => k zH false) :=
  ref13_Find_loop k q x hn 1000 0 (by omega)
theorem find_mem {q : Seq Hd} {p : Hd → Bool} {h : Hd} (e : (toL q).find? p = some h) : ∃ i, i < q.n ∧ q.g i = h := by
  have := List.mem_of_find?_eq_some e
  obtain ⟨i, hi, e⟩ := List.mem_iff_getElem.1 this
  rw [toL_length] at hi
  have g := toL_get q hi
  rw [List.getElem?_eq_getElem (by rw [toL_length]; exact hi), e] at g
  exact ⟨i, hi, (Option.some.inj g).symm⟩
/-! ### One put in, one dropped -/
def putS (l : List Hm) (h : Hm) : Int × List Hm :=
  if holdsFit l = false then (12, []) else if holdOk h = false then (1, []) else if l.any (fun x => x.1 == h.1) then (3, []) else if l.length = 16 then (4, []) else (0, (l.takeWhile fun x => !decide (x.1 > h.1)) ++ h :: (l.dropWhile fun x => !decide (x.1 > h.1)))
def dropS (l : List Hm) (id : Int) : Int × List Hm :=
  if holdsFit l = false then (12, []) else if l.any (fun x => x.1 == id) = false then (2, []) else (0, (l.takeWhile fun x => !(x.1 == id)) ++ (l.dropWhile fun x => !(x.1 == id)).drop 1)
def N0 (q : Seq Hd) : Prop := ∀ i, i < q.n → Nil0 (q.g i).2.1
theorem mHs_take (nl : Bool) (q : Seq Hd) (j : Nat) (h : j ≤ q.n) : mHs (⟨nl, j, q.g⟩ : Seq Hd) = (mHs q).take j := by
  unfold mHs; rw [← List.map_take, toL_take nl q.nl q.n j q.g h]
theorem mHs_shift (nl : Bool) (q : Seq Hd) (j : Nat) : mHs (⟨nl, q.n - j, tShift j q.g⟩ : Seq Hd) = (mHs q).drop j := by
  unfold mHs; rw [← List.map_drop, toL_shift nl q.nl q.n j q.g]
theorem flat_map (l : List ((Seq Hd) × Unit)) : (hc_flat l).map mH = l.flatMap fun x => mHs x.1 := by
  induction l with
  | nil => rfl
  | cons x l ih =>
    unfold hc_flat at ih ⊢
    rw [List.flatMap_cons, List.map_append, ih, List.flatMap_cons]; rfl
theorem concat3 (q : Seq Hd) (j : Nat) (h : Hd) (hj : j ≤ q.n) (hn : q.n ≤ 800) : ∃ r : Seq Hd, (∀ k : Seq Hd → Option α, slices_Concat_api_Hold_api_Hold (⟨false, 3, (tSel [((⟨q.nl, j, q.g⟩ : Seq Hd), ()), ((⟨false, 1, (fun _ => h)⟩ : Seq Hd), ()), ((⟨q.nl, (q.n - j), (tShift j q.g)⟩ : Seq Hd), ())] ((⟨true, 0, fun _ => zH⟩ : Seq Hd), ()))⟩ : Seq ((Seq Hd) × Unit)) k = k r) ∧ mHs r = (mHs q).take j ++ mH h :: (mHs q).drop j := by
  obtain ⟨r, h1, h2, _⟩ := hc_concat_is (α := α) (⟨false, 3, (tSel [((⟨q.nl, j, q.g⟩ : Seq Hd), ()), ((⟨false, 1, (fun _ => h)⟩ : Seq Hd), ()), ((⟨q.nl, (q.n - j), (tShift j q.g)⟩ : Seq Hd), ())] ((⟨true, 0, fun _ => zH⟩ : Seq Hd), ()))⟩ : Seq ((Seq Hd) × Unit)) (by show (3 : Nat) ≤ 900; omega) (by
      show hc_tot [((⟨q.nl, j, q.g⟩ : Seq Hd), ()), ((⟨false, 1, (fun _ => h)⟩ : Seq Hd), ()), ((⟨q.nl, (q.n - j), (tShift j q.g)⟩ : Seq Hd), ())] ≤ 1000000
      simp only [hc_tot, List.map_cons, List.map_nil, List.sum_cons, List.sum_nil]; omega)
  refine ⟨r, h1, ?_⟩
  rw [mHs, h2]
  show (hc_flat [((⟨q.nl, j, q.g⟩ : Seq Hd), ()), ((⟨false, 1, (fun _ => h)⟩ : Seq Hd), ()), ((⟨q.nl, (q.n - j), (tShift j q.g)⟩ : Seq Hd), ())]).map mH = _
  rw [flat_map]
  simp only [List.flatMap_cons, List.flatMap_nil, List.append_nil, mHs_take _ q j hj, mHs_shift]
  rfl
theorem concat2 (q : Seq Hd) (j i : Nat) (hj : j ≤ q.n) (hn : q.n ≤ 800) : ∃ r : Seq Hd, (∀ k : Seq Hd → Option α, slices_Concat_api_Hold_api_Hold (⟨false, 2, (tSel [((⟨q.nl, j, q.g⟩ : Seq Hd), ()), ((⟨q.nl, (q.n - i), (tShift i q.g)⟩ : Seq Hd), ())] ((⟨true, 0, fun _ => zH⟩ : Seq Hd), ()))⟩ : Seq ((Seq Hd) × Unit)) k = k r) ∧ mHs r = (mHs q).take j ++ (mHs q).drop i := by
  obtain ⟨r, h1, h2, _⟩ := hc_concat_is (α := α) (⟨false, 2, (tSel [((⟨q.nl, j, q.g⟩ : Seq Hd), ()), ((⟨q.nl, (q.n - i), (tShift i q.g)⟩ : Seq Hd), ())] ((⟨true, 0, fun _ => zH⟩ : Seq Hd), ()))⟩ : Seq ((Seq Hd) × Unit)) (by show (2 : Nat) ≤ 900; omega) (by
      show hc_tot [((⟨q.nl, j, q.g⟩ : Seq Hd), ()), ((⟨q.nl, (q.n - i), (tShift i q.g)⟩ : Seq Hd), ())] ≤ 1000000
      simp only [hc_tot, List.map_cons, List.map_nil, List.sum_cons, List.sum_nil]; omega)
  refine ⟨r, h1, ?_⟩
  rw [mHs, h2]
  show (hc_flat [((⟨q.nl, j, q.g⟩ : Seq Hd), ()), ((⟨q.nl, (q.n - i), (tShift i q.g)⟩ : Seq Hd), ())]).map mH = _
  rw [flat_map]
  simp only [List.flatMap_cons, List.flatMap_nil, List.append_nil, mHs_take _ q j hj, mHs_shift]
theorem Put_is {q : Seq Hd} {h : Hd} (hs : SmH (mHs q)) (hh : SmL (toL h.2.1)) (h0 : Nil0 h.2.1) : ∃ r : Seq Hd, (∀ k : Int → Seq Hd → Option α, holds_Put q h k = k (putS (mHs q) (mH h)).1 r) ∧ mHs r = (putS (mHs q) (mH h)).2 := by
  have hn := (SmH_mem hs).1
  unfold holds_Put holds_Put_g slices_ContainsFunc_api_Hold_api_Hold slices_ContainsFunc_api_Hold_api_Hold_g putS
  simp only [holds_Fit_is hs, holds_one_is hh, index_id_is q _ (by omega : q.n < 900), index_gt_is q _ (by omega : q.n < 900)]
  cases holdsFit (mHs q) with
  | false => exact ⟨zHs, fun k => rfl, rfl⟩
  | true =>
    cases holdOk (mH h) with
    | false => exact ⟨zHs, fun k => rfl, rfl⟩
    | true =>
      simp only [Bool.not_true, cond_false, Bool.true_eq_false, if_false]
      cases hany : (mHs q).any (fun x => x.1 == (mH h).1) with
      | true =>
        obtain ⟨j, hj, _⟩ := idx_pos (p := fun x : Hm => x.1 == (mH h).1) hany
        refine ⟨zHs, fun k => ?_, rfl⟩
        rw [show idxFrom (fun x : Hm => x.1 == h.1) 0 (mHs q) = (j : Int) from hj, cT (by omega)]; rfl
      | false =>
        have hneg := (idxFrom_neg (i := 0)).2 hany
        simp only [Bool.false_eq_true, if_false]
        by_cases h16 : q.n = 16
        · refine ⟨zHs, fun k => ?_, ?_⟩
          · rw [cF (show ¬ idxFrom (fun x : Hm => x.1 == h.1) 0 (mHs q) ≥ 0 by have : idxFrom (fun x : Hm => x.1 == h.1) 0 (mHs q) < 0 := hneg; omega), cbT (by omega), if_pos (by rw [mHs_length]; exact h16)]
          · rw [if_pos (by rw [mHs_length]; exact h16)]; rfl
        · obtain ⟨o, ho1, ho2, ho3⟩ := own_is (α := α) h0 hh
          have h16' : ¬ (mHs q).length = 16 := by rw [mHs_length]; exact h16
          rw [if_neg h16']
          cases hgt : (mHs q).any (fun x => decide (x.1 > h.1)) with
          | true =>
            obtain ⟨j, hj, hlt, htk, hdr⟩ := idx_pos (p := fun x : Hm => decide (x.1 > h.1)) hgt
            rw [mHs_length] at hlt
            obtain ⟨r, hr1, hr2⟩ := concat3 (α := α) q j (h.1, o, h.2.2.1, ()) (by omega) (by omega)
            refine ⟨r, fun k => ?_, ?_⟩
            · rw [cF (show ¬ idxFrom (fun x : Hm => x.1 == h.1) 0 (mHs q) ≥ 0 by have : idxFrom (fun x : Hm => x.1 == h.1) 0 (mHs q) < 0 := hneg; omega), cbF (by omega), hj, cF (by omega)]
              simp only [nn, decide_eq_true (show (j : Int) ≤ (q.n : Int) by omega), decide_true, Bool.and_self, cond_true, ho1, toNatC]
              exact hr1 _
            · rw [hr2, htk, hdr]
              show _ ++ (h.1, toL o, h.2.2.1) :: _ = _
              rw [ho2]; rfl
          | false =>
            obtain ⟨r, hr1, hr2⟩ := concat3 (α := α) q q.n (h.1, o, h.2.2.1, ()) (by omega) (by omega)
            have hg := (idxFrom_neg (i := 0)).2 hgt
            refine ⟨r, fun k => ?_, ?_⟩
            · rw [cF (show ¬ idxFrom (fun x : Hm => x.1 == h.1) 0 (mHs q) ≥ 0 by have : idxFrom (fun x : Hm => x.1 == h.1) 0 (mHs q) < 0 := hneg; omega), cbF (by omega), cT hg]
              simp only [nn, decide_eq_true (show (q.n : Int) ≤ (q.n : Int) by omega), decide_true, Bool.and_self, cond_true, ho1, toNatC]
              exact hr1 _
            · have ha : ∀ x ∈ mHs q, (!decide (x.1 > (mH h).1)) = true := by
                intro x hx
                rw [List.any_eq_false] at hgt
                have : ¬ x.1 > (mH h).1 := of_decide_eq_false (Bool.eq_false_iff.2 (hgt x hx))
                rw [decide_eq_false this]; rfl
              rw [hr2, List.take_of_length_le (by rw [mHs_length]; exact Nat.le_refl _), List.drop_of_length_le (by rw [mHs_length]; exact Nat.le_refl _), tw_all ha, dw_all ha]
              show _ ++ [(h.1, toL o, h.2.2.1)] = _
              rw [ho2]; rfl
theorem Drop_is {q : Seq Hd} {id : Int} (hs : SmH (mHs q)) : ∃ r : Seq Hd, (∀ k : Int → Seq Hd → Option α, holds_Drop q id k = k (dropS (mHs q) id).1 r) ∧ mHs r = (dropS (mHs q) id).2 := by
  have hn := (SmH_mem hs).1
  unfold holds_Drop holds_Drop_g dropS
  simp only [holds_Fit_is hs, index_id_is q _ (by omega : q.n < 900)]
  cases holdsFit (mHs q) with
  | false => exact ⟨zHs, fun k => rfl, rfl⟩
  | true =>
    simp only [Bool.not_true, cond_false, Bool.true_eq_false, if_false]
    cases hany : (mHs q).any (fun x => x.1 == id) with
    | false =>
      have hneg := (idxFrom_neg (i := 0)).2 hany
      exact ⟨zHs, fun k => by rw [cT hneg, if_pos rfl], by rw [if_pos rfl]; rfl⟩
    | true =>
      obtain ⟨j, hj, hlt, htk, hdr⟩ := idx_pos (p := fun x : Hm => x.1 == id) hany
      rw [mHs_length] at hlt
      obtain ⟨r, hr1, hr2⟩ := concat2 (α := α) q j (j + 1) (by omega) (by omega)
      rw [if_neg (by decide)]
      refine ⟨r, fun k => ?_, ?_⟩
      · rw [hj, cF (by omega), wrap_succ (by omega)]
        simp only [nn, decide_eq_true (show (j : Int) ≤ (q.n : Int) by omega), decide_eq_true (show ((j + 1 : Nat) : Int) ≤ (q.n : Int) by omega), decide_true, Bool.and_self, cond_true, toNatC]
        exact hr1 _
      · rw [hr2, htk, ← hdr, List.drop_drop]
end Go.Rv.Tryd
