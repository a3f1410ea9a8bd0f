/- The law PaySums, in plain words: true for every input. -/
import Derived.Test.YtmoeohjaafpmgaaE3
import Derived.Test.YtmoeohjaafpmgaaPurePayKeys
set_option linter.unusedVariables false
set_option linter.unusedSimpArgs false
namespace Go.Rv.Try
open Go Go.Rv Go.RowKit
variable {α : Type}
/-- What a key says is frozen, and taken. -/
def fz (y : Key) : Int := if y.2.2.1 = 2 then (if y.2.1 % 2 = 1 then -y.2.2.2.2.2.1 else y.2.2.2.2.2.1) else 0
def tk (y : Key) : Int := if y.2.2.1 = 2 then (if y.2.1 % 2 = 1 then y.2.2.2.2.2.1 else 0) else 0
def sumW (w : Key → Int) (l : List Key) : Int := (l.map w).sum
theorem sumW_nil (w : Key → Int) : sumW w [] = 0 := rfl
theorem sumW_cons (w : Key → Int) (x : Key) (l : List Key) : sumW w (x :: l) = w x + sumW w l := by simp [sumW]
theorem sumW_app (w : Key → Int) (a b : List Key) : sumW w (a ++ b) = sumW w a + sumW w b := by simp [sumW]
theorem sumW_put {l : List Key} (hp : l.Pairwise (fun a b => ltK a b = true)) (w : Key → Int) (z : Key) : sumW w (putL l z) = sumW w l - sumW w (l.filter (fun y => sameK y z)) + w z := by
  have h1 := congrArg (sumW w) (split_at z l hp)
  rw [sumW_app, sumW_app] at h1
  unfold putL
  rw [sumW_app, sumW_cons]
  omega
theorem one_b {y : Key} (h : oneK y = true) : (0 ≤ y.2.1 ∧ y.2.1 < 6) ∧ 0 ≤ y.2.2.2.2.2.1 ∧ y.2.2.2.2.2.1 ≤ 1099511627776 := by
  unfold oneK fitN at h
  simp only [Bool.and_eq_true, decide_eq_true_eq] at h
  exact ⟨⟨h.2.1, h.2.2.1⟩, h.2.2.2.1⟩
theorem fz_b {y : Key} (h : oneK y = true) : -1099511627776 ≤ fz y ∧ fz y ≤ 1099511627776 := by
  have := one_b h
  unfold fz
  split
  · split <;> omega
  · omega
theorem tk_b {y : Key} (h : oneK y = true) : 0 ≤ tk y ∧ tk y ≤ 1099511627776 := by
  have := one_b h
  unfold tk
  split
  · split <;> omega
  · omega
theorem sums_b {l : List Key} (h : ∀ x ∈ l, oneK x = true) : (-(1099511627776 * (l.length : Int)) ≤ sumW fz l ∧ sumW fz l ≤ 1099511627776 * (l.length : Int)) ∧ 0 ≤ sumW tk l ∧ sumW tk l ≤ 1099511627776 * (l.length : Int) := by
  induction l with
  | nil => simp [sumW]
  | cons x l ih =>
    have h1 := fz_b (h x (List.mem_cons_self ..))
    have h2 := tk_b (h x (List.mem_cons_self ..))
    have h3 := ih fun y hy => h y (List.mem_cons_of_mem _ hy)
    rw [sumW_cons, sumW_cons, List.length_cons]
    omega
theorem iand6 {s : Int} (h : 0 ≤ s ∧ s < 6) : iAnd .i64 s 1 = s % 2 := by
  rcases (by omega : s = 0 ∨ s = 1 ∨ s = 2 ∨ s = 3 ∨ s = 4 ∨ s = 5) with rfl | rfl | rfl | rfl | rfl | rfl <;> decide
/-- By which op a step is asked for. -/
def opOf (s : Int) : Int := if iAnd .i64 s 1 = 1 then 6 else 2
theorem movT_odd (a b n : Int) : movT a b 6 n = (IntKind.i64.wrap (a - n), IntKind.i64.wrap (b + n)) := rfl
theorem movT_even (a b n : Int) : movT a b 2 n = (IntKind.i64.wrap (a + n), b) := rfl
/-- The money after what came. -/
theorem came_money {l l' : List Key} {x : Ent} {v t : Int} {d : Bool} (h : Came l x v l' t d) (ho : oneB x = true) (h1 : ∀ x ∈ l, oneK x = true) (h2 : l.Pairwise (fun a b => ltK a b = true)) (hn : l.length ≤ 50) (hop : x.2.2.2.2.1 = opOf x.2.2.1) :
    (if d then movT (sumW fz l) (sumW tk l) x.2.2.2.2.1 (numS x (findK l' x.2.1 x.2.2.1).1) else (sumW fz l, sumW tk l)) = (sumW fz l', sumW tk l') ∧ l'.length ≤ l.length + 1 := by
  obtain ⟨o1, o2, o3, o4⟩ := oneB_is ho
  have hb := sums_b h1
  have nx : 0 ≤ x.2.2.2.2.2.1 ∧ x.2.2.2.2.2.1 ≤ 1099511627776 := by unfold fitN at o4; simp only [Bool.and_eq_true, decide_eq_true_eq] at o4; exact o4
  have sx : 0 ≤ x.2.2.1 ∧ x.2.2.1 < 6 := ⟨of_decide_eq_true o2, of_decide_eq_true o3⟩
  have hi := iand6 sx
  have gone : ∀ z : Key, z.1 = x.2.1 → z.2.1 = x.2.2.1 → z.2.2.1 ≠ 2 → (findK l x.2.1 x.2.2.1).2 = false → (sumW fz l, sumW tk l) = (sumW fz (putL l z), sumW tk (putL l z)) := by
    intro z z1 z2 z3 hf
    rw [← z1, ← z2] at hf
    rw [sumW_put h2, sumW_put h2, find_none hf]
    have e1 : fz z = 0 := if_neg z3
    have e2 : tk z = 0 := if_neg z3
    rw [e1, e2, sumW_nil, sumW_nil]
    simp
  cases h with
  | again => exact ⟨rfl, by omega⟩
  | backDone => exact ⟨rfl, by omega⟩
  | thereDone => exact ⟨rfl, by omega⟩
  | thereNever => exact ⟨rfl, by omega⟩
  | backNone hf hbk => exact ⟨gone _ rfl rfl (by show (3 : Int) ≠ 2; decide) hf, put_len h2 _⟩
  | never hf hbk => exact ⟨gone _ rfl rfl (by show (5 : Int) ≠ 2; decide) hf, put_len h2 _⟩
  | there hf hbk =>
    refine ⟨?_, put_len h2 _⟩
    rw [if_pos rfl, sumW_put h2, sumW_put h2, find_none (z := (x.2.1, x.2.2.1, 2, 1, 0, x.2.2.2.2.2.1, ())) hf, sumW_nil, sumW_nil]
    have e := find_put l (x.2.1, x.2.2.1, 2, 1, 0, x.2.2.2.2.2.1, ())
    simp only at e
    rw [e]
    have en : numS x (x.2.1, x.2.2.1, 2, 1, 0, x.2.2.2.2.2.1, ()) = x.2.2.2.2.2.1 := by unfold numS; rw [hbk]; rfl
    show movT _ _ _ (numS x (x.2.1, x.2.2.1, 2, 1, 0, x.2.2.2.2.2.1, ())) = _
    rw [en]
    by_cases hs : x.2.2.1 % 2 = 1
    · have hop6 : x.2.2.2.2.1 = 6 := by rw [hop]; unfold opOf; rw [hi, if_pos hs]
      have ez : fz (x.2.1, x.2.2.1, 2, 1, 0, x.2.2.2.2.2.1, ()) = -x.2.2.2.2.2.1 := (if_pos rfl).trans (if_pos hs)
      have et : tk (x.2.1, x.2.2.1, 2, 1, 0, x.2.2.2.2.2.1, ()) = x.2.2.2.2.2.1 := (if_pos rfl).trans (if_pos hs)
      rw [hop6, movT_odd, ez, et, wrap64 (by omega) (by omega), wrap64 (by omega) (by omega)]
      exact Prod.ext (by simp only; omega) (by simp only; omega)
    · have hop2 : x.2.2.2.2.1 = 2 := by rw [hop]; unfold opOf; rw [hi, if_neg hs]
      have ez : fz (x.2.1, x.2.2.1, 2, 1, 0, x.2.2.2.2.2.1, ()) = x.2.2.2.2.2.1 := (if_pos rfl).trans (if_neg hs)
      have et : tk (x.2.1, x.2.2.1, 2, 1, 0, x.2.2.2.2.2.1, ()) = 0 := (if_pos rfl).trans (if_neg hs)
      rw [hop2, movT_even, ez, et, wrap64 (by omega) (by omega)]
      exact Prod.ext (by simp only; omega) (by simp only; omega)
  | back y hf hbk hm =>
    refine ⟨?_, put_len h2 _⟩
    have hmem := find_mem (l := l) (a := x.2.1) (b := x.2.2.1) (by rw [hf])
    rw [hf] at hmem
    obtain ⟨hy, y1, y2⟩ := hmem
    simp only at hy y1 y2
    have hone := one_b (h1 y hy)
    have hm2 : y.2.2.1 = 2 := by simpa using hm
    have hfil := mid_one (z := (y.1, y.2.1, 4, y.2.2.2.1, 1, y.2.2.2.2.2.1, ())) l h2 hy (by unfold sameK; simp)
    rw [if_pos rfl, sumW_put h2, sumW_put h2, hfil, sumW_cons, sumW_cons, sumW_nil, sumW_nil]
    have e := find_put l (y.1, y.2.1, 4, y.2.2.2.1, 1, y.2.2.2.2.2.1, ())
    simp only at e
    rw [← y1, ← y2, e]
    have hf1 := fz_b (h1 y hy)
    have en : numS x (y.1, y.2.1, 4, y.2.2.2.1, 1, y.2.2.2.2.2.1, ()) = -y.2.2.2.2.2.1 := by
      unfold numS; rw [hbk, if_pos rfl, wrap64 (by simp only; omega) (by simp only; omega)]; simp only; omega
    have z1 : fz (y.1, y.2.1, 4, y.2.2.2.1, 1, y.2.2.2.2.2.1, ()) = 0 := if_neg (by show ¬ (4 : Int) = 2; decide)
    have z2 : tk (y.1, y.2.1, 4, y.2.2.2.1, 1, y.2.2.2.2.2.1, ()) = 0 := if_neg (by show ¬ (4 : Int) = 2; decide)
    show movT _ _ _ (numS x (y.1, y.2.1, 4, y.2.2.2.1, 1, y.2.2.2.2.2.1, ())) = _
    rw [en, z1, z2]
    rw [← y2] at hi hop
    by_cases hs : y.2.1 % 2 = 1
    · have hop6 : x.2.2.2.2.1 = 6 := by rw [hop]; unfold opOf; rw [hi, if_pos hs]
      have ez : fz y = -y.2.2.2.2.2.1 := (if_pos hm2).trans (if_pos hs)
      have et : tk y = y.2.2.2.2.2.1 := (if_pos hm2).trans (if_pos hs)
      rw [hop6, movT_odd, ez, et, wrap64 (by omega) (by omega), wrap64 (by omega) (by omega)]
      exact Prod.ext (by simp only; omega) (by simp only; omega)
    · have hop2 : x.2.2.2.2.1 = 2 := by rw [hop]; unfold opOf; rw [hi, if_neg hs]
      have ez : fz y = y.2.2.2.2.2.1 := (if_pos hm2).trans (if_neg hs)
      have et : tk y = 0 := (if_pos hm2).trans (if_neg hs)
      rw [hop2, movT_even, ez, et, wrap64 (by omega) (by omega)]
      exact Prod.ext (by simp only; omega) (by simp only; omega)
/-- What is so of the till all the while. -/
structure Till (t : Til) (n j : Nat) : Prop where
  one : ∀ x ∈ toL t.1, oneK x = true
  srt : (toL t.1).Pairwise (fun a b => ltK a b = true)
  nil : Nil0 t.1
  next : t.2.1 = (n : Int) + 1
  le : n ≤ j
  len : t.1.n ≤ j
  fr : t.2.2.1 = sumW fz (toL t.1)
  ta : t.2.2.2.1 = sumW tk (toL t.1)
theorem Till.fit {t : Til} {n j : Nat} (h : Till t n j) (hj : j ≤ 41) : fitT t = true := by
  have hb := sums_b h.one
  rw [toL_length] at hb
  have hl := h.len
  have hle := h.le
  unfold fitT w60
  rw [(fitK_iff t.1).2 ⟨h.one, h.srt⟩, h.next, h.fr, h.ta]
  simp only [Bool.true_and, Bool.and_eq_true, decide_eq_true_eq]
  omega
theorem step_is {t : Til} {n j : Nat} (h : Till t n j) (hj : j ≤ 40) (x : Ent) (v : Int) (hop : x.2.2.2.2.1 = opOf x.2.2.1) :
    (payC t x v).2.2 = 1 ∨ ∃ l' : List Key, ∃ told : Int, payC t x v = ((l', (n : Int) + 2, sumW fz l', sumW tk l'), repS t x told, 0) ∧ (∀ x ∈ l', oneK x = true) ∧ l'.Pairwise (fun a b => ltK a b = true) ∧ l'.length ≤ j + 1 := by
  unfold payC
  rw [h.fit (by omega), if_neg (by decide)]
  have hs : svc x.2.2.2.2.1 = 1 := by
    rw [hop]; unfold opOf; split <;> rfl
  rw [if_neg (by omega)]
  by_cases he : comeE t.1 x v = 0
  · rw [if_neg (by omega)]
    right
    obtain ⟨hk, ho, _, _⟩ := comeE_ok he
    have hA : comeA t.1 x v = comeL (toL t.1) x v := by unfold comeA; rw [he]; rfl
    have hc := comeL_came (toL t.1) x v
    rw [hA]
    have hlen := h.len
    obtain ⟨m1, m2⟩ := came_money hc ho h.one h.srt (by rw [toL_length]; omega) hop
    obtain ⟨c1, c2⟩ := came_fit hc ho h.one h.srt
    rw [toL_length] at m2
    rw [h.fr, h.ta, m1]
    have hb := sums_b c1
    have hle := h.le
    refine ⟨(comeL (toL t.1) x v).1, (comeL (toL t.1) x v).2.1, ?_, c1, c2, by omega⟩
    unfold endS
    rw [if_neg, h.next, wrap64 (by omega) (by omega), show (n : Int) + 1 + 1 = (n : Int) + 2 by omega]
    rw [h.next]
    unfold w60
    rw [decide_eq_true (by simp only; omega), decide_eq_true (by simp only; omega), decide_eq_true (by simp only; omega), decide_eq_true (by simp only; omega)]
    intro hh
    rcases hh with hh | hh
    · omega
    · cases hh
  · left
    rw [if_pos he]
    show comeE t.1 x v = 1
    unfold comeE at he ⊢
    rw [(fitK_iff t.1).2 ⟨h.one, h.srt⟩] at he ⊢
    cases ho : oneB x with
    | false => rfl
    | true =>
      rw [ho] at he
      simp only [cond_true] at he ⊢
      by_cases v1 : v < 1
      · rw [cT v1]
      · rw [cF v1] at he ⊢
        by_cases v3 : v > 3
        · rw [cT v3]
        · rw [cF v3] at he; exact absurd rfl he
/-! ### The walk over the keys -/
theorem sum_loop (k2 : Int → Int → Til → Option α) (t : Til) (h1 : ∀ x ∈ toL t.1, oneK x = true) (hn : t.1.n ≤ 50) : ∀ (n i : Nat) (a b : Int), t.1.n - i < n → (-(1099511627776 * (i : Int)) ≤ a ∧ a ≤ 1099511627776 * (i : Int)) → (0 ≤ b ∧ b ≤ 1099511627776 * (i : Int)) → i ≤ t.1.n →
    draymanlaw32_PaySums_l1_run draymanlaw32_awake pay_New pay_Come pay_Fit draymanref31_Fit k2 n a b (i : Int) t = k2 (a + sumW fz ((toL t.1).drop i)) (b + sumW tk ((toL t.1).drop i)) t := by
  intro n
  induction n with
  | zero => intro i a b hi; omega
  | succ n ih =>
    intro i a b hi ha hb hle
    unfold draymanlaw32_PaySums_l1_run draymanlaw32_PaySums_l1_step
    by_cases hl : i < t.1.n
    · have hy := h1 _ (List.mem_of_getElem? (toL_get t.1 hl))
      have hone := one_b hy
      have hi2 := iand6 hone.1
      have f1 := fz_b hy
      have f2 := tk_b hy
      rw [cT (by omega), inb hl, cond_true, toNatC, toL_drop t.1 hl, sumW_cons, sumW_cons, wrap_succ (by omega), hi2]
      have nxt : ∀ a' b', a' = a + fz (t.1.g i) → b' = b + tk (t.1.g i) → draymanlaw32_PaySums_l1_run draymanlaw32_awake pay_New pay_Come pay_Fit draymanref31_Fit k2 n a' b' ((i + 1 : Nat) : Int) t = k2 (a + (fz (t.1.g i) + sumW fz ((toL t.1).drop (i + 1)))) (b + (tk (t.1.g i) + sumW tk ((toL t.1).drop (i + 1)))) t := by
        intro a' b' ea eb
        subst ea; subst eb
        rw [ih (i + 1) _ _ (by omega) (by omega) (by omega) (by omega), Int.add_assoc, Int.add_assoc]
      generalize hg : t.1.g i = y at *
      by_cases hm : y.2.2.1 = 2
      · have ef : fz y = if y.2.1 % 2 = 1 then -y.2.2.2.2.2.1 else y.2.2.2.2.2.1 := if_pos hm
        have et : tk y = if y.2.1 % 2 = 1 then y.2.2.2.2.2.1 else 0 := if_pos hm
        rw [beqT hm]
        simp only [cond_true]
        by_cases hs : y.2.1 % 2 = 1
        · rw [if_pos hs] at ef et
          rw [cbF (by omega), cbT hs, wrap64 (by omega) (by omega), wrap64 (by omega) (by omega)]
          exact nxt _ _ (by omega) (by omega)
        · rw [if_neg hs] at ef et
          rw [cbT (by omega), cbF (by omega), wrap64 (by omega) (by omega)]
          exact nxt _ _ (by omega) (by omega)
      · have ef : fz y = 0 := if_neg hm
        have et : tk y = 0 := if_neg hm
        rw [beqF hm]
        simp only [cond_false]
        exact nxt _ _ (by omega) (by omega)
    · rw [cF (by omega), toL_end t.1 (by omega), sumW_nil, sumW_nil, Int.add_zero, Int.add_zero]
abbrev Asked := Int × Int × Int × Bool × Int × Int × Bool × Int × Unit
theorem asks_loop (kr : Bool → Til → Option α) (k0 : Til → Option α) (R : Option α) (hk0 : ∀ t n, Till t n 40 → k0 t = R) (q : Seq Asked) (hn : q.n ≤ 40) : ∀ (n i c : Nat) (t : Til), q.n - i < n → i ≤ q.n → Till t c i →
    draymanlaw32_PaySums_l0_run draymanlaw32_awake pay_New pay_Come pay_Fit draymanref31_Fit kr k0 n q (c : Int) (i : Int) t = R := by
  intro n
  induction n with
  | zero => intro i c t hi; omega
  | succ n ih =>
    intro i c t hi hiq hT
    unfold draymanlaw32_PaySums_l0_run draymanlaw32_PaySums_l0_step
    by_cases hl : i < q.n
    · rw [cT (by omega), inb hl, cond_true, cond_true, toNatC, cond_true, wrap_succ (by omega)]
      have mono : Till t c (i + 1) := ⟨hT.one, hT.srt, hT.nil, hT.next, by have := hT.le; omega, by have := hT.len; omega, hT.fr, hT.ta⟩
      have go : ∀ x : Ent, x.2.2.2.2.1 = opOf x.2.2.1 → x.1 = (q.g i).1 → x.2.1 = (q.g i).2.1 → x.2.2.1 = (q.g i).2.2.1 → x.2.2.2.1 = (q.g i).2.2.2.1 → ∀ v : Int,
          (pay_Come t x v fun r8 r9 r10 =>
            (cond (r10 != 0)
              (cond (!(r10 == 12))
                (cond (r10 == 5)
                  (kr false t)
                  (draymanlaw32_PaySums_l0_run draymanlaw32_awake pay_New pay_Come pay_Fit draymanref31_Fit kr k0 n q (c : Int) ((i + 1 : Nat) : Int) t))
                (kr false t))
              (cond (!(r9.2.1 != (IntKind.i64.wrap ((c : Int) + 1))))
                (cond (!(r8.2.1 != (IntKind.i64.wrap ((IntKind.i64.wrap ((c : Int) + 1)) + 1))))
                  (cond (!(r9.2.2.2.2.2.1 != (q.g i).1))
                    (cond (!(r9.2.2.1 != (q.g i).2.1))
                      (cond (!(r9.2.2.2.1 != (q.g i).2.2.1))
                        (cond (!(!(r9.2.2.2.2.1 == (q.g i).2.2.2.1)))
                          (cond (r9.1 != 1)
                            (kr false t)
                            (draymanlaw32_PaySums_l0_run draymanlaw32_awake pay_New pay_Come pay_Fit draymanref31_Fit kr k0 n q (IntKind.i64.wrap ((c : Int) + 1)) ((i + 1 : Nat) : Int) r8))
                          (kr false t))
                        (kr false t))
                      (kr false t))
                    (kr false t))
                  (kr false t))
                (kr false t)))) = R := by
        intro x hop x1 x2 x3 x4 v
        have hlen := hT.len
        have hle := hT.le
        obtain ⟨T, t1, t2, t3⟩ := payCome_is (α := α) hT.nil (by omega : t.1.n ≤ 400) x v
        rw [t3]
        rcases step_is hT (by omega) x v hop with he | ⟨l', told, hp, p1, p2, p3⟩
        · rw [he]
          exact ih (i + 1) c t (by omega) (by omega) mono
        · rw [hp] at t1 ⊢
          have e1 := congrArg Prod.fst t1
          have e2 := congrArg (fun z => z.2.1) t1
          have e3 := congrArg (fun z => z.2.2.1) t1
          have e4 := congrArg (fun z => z.2.2.2) t1
          simp only [mT] at e1 e2 e3 e4
          have hTn : T.1.n = l'.length := by rw [← e1, toL_length]
          simp only [repS, hT.next, x1, x2, x3, x4, bne_self_eq_false, Bool.not_false, cond_true, cond_false, beq_self_eq_true, Bool.not_true]
          rw [wrap_succ (by omega), bneF (show ((c : Int) + 1) = ((c + 1 : Nat) : Int) by omega), wrap_succ (by omega), bneF (show T.2.1 = ((c + 1 + 1 : Nat) : Int) by omega)]
          simp only [Bool.not_false, cond_true]
          refine ih (i + 1) (c + 1) T (by omega) (by omega) ⟨?_, ?_, t2.2, by omega, by omega, by omega, ?_, ?_⟩
          · rw [e1]; exact p1
          · rw [e1]; exact p2
          · rw [e1]; exact e3
          · rw [e1]; exact e4
      by_cases hs : iAnd .i64 (q.g i).2.2.1 1 = 1
      · rw [cbT hs]
        exact go ((q.g i).1, (q.g i).2.1, (q.g i).2.2.1, (q.g i).2.2.2.1, 6, (q.g i).2.2.2.2.2.1, (q.g i).2.2.2.2.2.2.1, ()) (by show (6 : Int) = opOf _; unfold opOf; rw [if_pos hs]) rfl rfl rfl rfl _
      · rw [cbF hs]
        exact go ((q.g i).1, (q.g i).2.1, (q.g i).2.2.1, (q.g i).2.2.2.1, 2, (q.g i).2.2.2.2.2.1, (q.g i).2.2.2.2.2.2.1, ()) (by show (2 : Int) = opOf _; unfold opOf; rw [if_neg hs]) rfl rfl rfl rfl _
    · rw [cF (by omega)]
      have hle := hT.le
      have hlen := hT.len
      by_cases h40 : i ≤ 40
      · exact hk0 t c ⟨hT.one, hT.srt, hT.nil, hT.next, by omega, by omega, hT.fr, hT.ta⟩
      · omega
def zN : Til := ((⟨true, 0, (fun _ => (0, 0, 0, 0, 0, 0, ()))⟩ : Keys), 1, 0, 0, ())
theorem new_is (k : Til → Option α) : pay_New k = k zN := rfl
theorem awake32_is (k : Bool → Option α) : draymanlaw32_awake k = k true := by kernel_rfl
theorem PaySums_core (q : Seq Asked) (k : Bool → Option Unit) : draymanlaw32_PaySums q k = k true := by
  unfold draymanlaw32_PaySums draymanlaw32_PaySums_g
  by_cases h : (q.n : Int) > 40
  · rw [cT h, awake32_is]
  · rw [cF h, new_is]
    refine asks_loop _ _ (k true) ?_ q (by omega) 1000 0 0 zN (by omega) (by omega) ⟨fun x hx => (by cases hx), .nil, fun _ => rfl, rfl, by omega, by decide, rfl, rfl⟩
    intro t n hT
    have hlen := hT.len
    have hs := sum_loop (α := Unit) (fun x21 x22 x23 =>
              (cond (x23.2.2.1 == x21)
                (cond (x23.2.2.2.1 == x22)
                  (pay_Fit x23 fun r24 =>
                    (cond r24
                      (draymanref31_Fit x23.1 fun r25 =>
                        (cond r25
                          (draymanlaw32_awake fun r26 =>
                            (k r26))
                          (k false)))
                      (k false)))
                  (k false))
                (k false))) t hT.one (by omega) 1000 0 0 0 (by omega) (by omega) (by omega) (by omega)
    refine hs.trans ?_
    rw [List.drop_zero, Int.zero_add, Int.zero_add, beqT hT.fr, cond_true, beqT hT.ta, cond_true, payFit_is (by omega), hT.fit (by omega), cond_true, refKeyedFit_is _ (by omega), (fitK_iff t.1).2 ⟨hT.one, hT.srt⟩, cond_true, awake32_is]
theorem PaySums_true (x0 : Tup (.sl (.int .i64 (.int .i64 (.int .i64 (.bool (.int .i64 (.int .i64 (.bool (.int .i64 (.nil))))))))) (.nil))) (o0 : OkT (.sl (.int .i64 (.int .i64 (.int .i64 (.bool (.int .i64 (.int .i64 (.bool (.int .i64 (.nil))))))))) (.nil)) x0) (k : Bool → Option Unit) : draymanlaw32_PaySums x0.1 k = k true := PaySums_core x0.1 k
end Go.Rv.Try
