/- The law NameOrders, in plain words: true for every input. The order of texts by octets is their order by runes. -/
import Derived.Test.YtpncgjpaecpcoaaDoorE1
import Derived.Test.YtpncgjpaecpcoaaDoorPureNameFold
set_option linter.unusedVariables false
set_option linter.unusedSimpArgs false
namespace Go.Rv.Tryd
open Go Go.Rv
theorem bl_lt {m n : Nat} (x y : List UInt8) (hm : m < 256) (hn : n < 256) (h : m < n) : Op.bytesLess (UInt8.ofNat m :: x) (UInt8.ofNat n :: y) = true := by
  have : UInt8.ofNat m < UInt8.ofNat n := by rw [UInt8.lt_iff_toNat_lt, toNat_ofNat hm, toNat_ofNat hn]; exact h
  simp [Op.bytesLess, this]
theorem bl_gt {m n : Nat} (x y : List UInt8) (hm : m < 256) (hn : n < 256) (h : n < m) : Op.bytesLess (UInt8.ofNat m :: x) (UInt8.ofNat n :: y) = false := by
  have h1 : ¬ UInt8.ofNat m < UInt8.ofNat n := by rw [UInt8.lt_iff_toNat_lt, toNat_ofNat hm, toNat_ofNat hn]; omega
  have h2 : ¬ UInt8.ofNat m = UInt8.ofNat n := by
    intro e
    have := congrArg UInt8.toNat e
    rw [toNat_ofNat hm, toNat_ofNat hn] at this; omega
  simp [Op.bytesLess, h1, h2]
theorem bl_eq (a : UInt8) (x y : List UInt8) : Op.bytesLess (a :: x) (a :: y) = Op.bytesLess x y := by
  have : ¬ a < a := UInt8.lt_irrefl a
  simp [Op.bytesLess, this]
theorem bl_eqN {m n : Nat} (x y : List UInt8) (h : m = n) : Op.bytesLess (UInt8.ofNat m :: x) (UInt8.ofNat n :: y) = Op.bytesLess x y := by
  subst h; exact bl_eq _ x y
theorem bl_app : ∀ (e x y : List UInt8), Op.bytesLess (e ++ x) (e ++ y) = Op.bytesLess x y
  | [], x, y => rfl
  | a :: e, x, y => by rw [List.cons_append, List.cons_append, bl_eq, bl_app e x y]
/-- Two runes that are unlike. -/
theorem bl_enc {r q : Nat} (hr : okRune r) (hq : okRune q) (hne : r ≠ q) (x y : List UInt8) : Op.bytesLess (encR r ++ x) (encR q ++ y) = decide (r < q) := by
  have hr' := hr
  have hq' := hq
  unfold okRune at hr' hq'
  rcases (by omega : r < 128 ∨ (128 ≤ r ∧ r < 2048) ∨ (2048 ≤ r ∧ r < 65536) ∨ (65536 ≤ r ∧ r ≤ 1114111)) with a | a | a | a
  · rw [encR_1 a]
    rcases (by omega : q < 128 ∨ (128 ≤ q ∧ q < 2048) ∨ (2048 ≤ q ∧ q < 65536) ∨ (65536 ≤ q ∧ q ≤ 1114111)) with b | b | b | b
    · rw [encR_1 b]
      rcases (by omega : r < q ∨ q < r) with c | c
      · rw [decide_eq_true c]; exact bl_lt _ _ (by omega) (by omega) c
      · rw [decide_eq_false (by omega)]; exact bl_gt _ _ (by omega) (by omega) c
    · rw [encR_2 b.1 b.2, decide_eq_true (by omega)]; exact bl_lt _ _ (by omega) (by omega) (by omega)
    · rw [encR_3 b.1 b.2 hq, decide_eq_true (by omega)]; exact bl_lt _ _ (by omega) (by omega) (by omega)
    · rw [encR_4 b.1 b.2, decide_eq_true (by omega)]; exact bl_lt _ _ (by omega) (by omega) (by omega)
  · rw [encR_2 a.1 a.2]
    rcases (by omega : q < 128 ∨ (128 ≤ q ∧ q < 2048) ∨ (2048 ≤ q ∧ q < 65536) ∨ (65536 ≤ q ∧ q ≤ 1114111)) with b | b | b | b
    · rw [encR_1 b, decide_eq_false (by omega)]; exact bl_gt _ _ (by omega) (by omega) (by omega)
    · rw [encR_2 b.1 b.2]
      rcases (by omega : r / 64 < q / 64 ∨ q / 64 < r / 64 ∨ (r / 64 = q / 64 ∧ r % 64 < q % 64) ∨ (r / 64 = q / 64 ∧ q % 64 < r % 64)) with c | c | c | c
      · rw [decide_eq_true (by omega)]; exact bl_lt _ _ (by omega) (by omega) (by omega)
      · rw [decide_eq_false (by omega)]; exact bl_gt _ _ (by omega) (by omega) (by omega)
      · rw [decide_eq_true (by omega)]; exact (bl_eqN _ _ (by omega)).trans (bl_lt _ _ (by omega) (by omega) (by omega))
      · rw [decide_eq_false (by omega)]; exact (bl_eqN _ _ (by omega)).trans (bl_gt _ _ (by omega) (by omega) (by omega))
    · rw [encR_3 b.1 b.2 hq, decide_eq_true (by omega)]; exact bl_lt _ _ (by omega) (by omega) (by omega)
    · rw [encR_4 b.1 b.2, decide_eq_true (by omega)]; exact bl_lt _ _ (by omega) (by omega) (by omega)
  · rw [encR_3 a.1 a.2 hr]
    rcases (by omega : q < 128 ∨ (128 ≤ q ∧ q < 2048) ∨ (2048 ≤ q ∧ q < 65536) ∨ (65536 ≤ q ∧ q ≤ 1114111)) with b | b | b | b
    · rw [encR_1 b, decide_eq_false (by omega)]; exact bl_gt _ _ (by omega) (by omega) (by omega)
    · rw [encR_2 b.1 b.2, decide_eq_false (by omega)]; exact bl_gt _ _ (by omega) (by omega) (by omega)
    · rw [encR_3 b.1 b.2 hq]
      clear hr hq hr' hq'
      rcases (by omega : r / 4096 < q / 4096 ∨ q / 4096 < r / 4096 ∨ r / 4096 = q / 4096) with c | c | c
      · rw [decide_eq_true (by omega)]; exact bl_lt _ _ (by omega) (by omega) (by omega)
      · rw [decide_eq_false (by omega)]; exact bl_gt _ _ (by omega) (by omega) (by omega)
      · refine (bl_eqN _ _ (by omega)).trans ?_
        rcases (by omega : r / 64 % 64 < q / 64 % 64 ∨ q / 64 % 64 < r / 64 % 64 ∨ (r / 64 % 64 = q / 64 % 64 ∧ r % 64 < q % 64) ∨ (r / 64 % 64 = q / 64 % 64 ∧ q % 64 < r % 64)) with d | d | d | d
        · rw [decide_eq_true (by omega)]; exact bl_lt _ _ (by omega) (by omega) (by omega)
        · rw [decide_eq_false (by omega)]; exact bl_gt _ _ (by omega) (by omega) (by omega)
        · rw [decide_eq_true (by omega)]; exact (bl_eqN _ _ (by omega)).trans (bl_lt _ _ (by omega) (by omega) (by omega))
        · rw [decide_eq_false (by omega)]; exact (bl_eqN _ _ (by omega)).trans (bl_gt _ _ (by omega) (by omega) (by omega))
    · rw [encR_4 b.1 b.2, decide_eq_true (by omega)]; exact bl_lt _ _ (by omega) (by omega) (by omega)
  · rw [encR_4 a.1 a.2]
    rcases (by omega : q < 128 ∨ (128 ≤ q ∧ q < 2048) ∨ (2048 ≤ q ∧ q < 65536) ∨ (65536 ≤ q ∧ q ≤ 1114111)) with b | b | b | b
    · rw [encR_1 b, decide_eq_false (by omega)]; exact bl_gt _ _ (by omega) (by omega) (by omega)
    · rw [encR_2 b.1 b.2, decide_eq_false (by omega)]; exact bl_gt _ _ (by omega) (by omega) (by omega)
    · rw [encR_3 b.1 b.2 hq, decide_eq_false (by omega)]; exact bl_gt _ _ (by omega) (by omega) (by omega)
    · rw [encR_4 b.1 b.2]
      clear hr hq hr' hq'
      rcases (by omega : r / 262144 < q / 262144 ∨ q / 262144 < r / 262144 ∨ r / 262144 = q / 262144) with c | c | c
      · rw [decide_eq_true (by omega)]; exact bl_lt _ _ (by omega) (by omega) (by omega)
      · rw [decide_eq_false (by omega)]; exact bl_gt _ _ (by omega) (by omega) (by omega)
      · refine (bl_eqN _ _ (by omega)).trans ?_
        rcases (by omega : r / 4096 % 64 < q / 4096 % 64 ∨ q / 4096 % 64 < r / 4096 % 64 ∨ r / 4096 % 64 = q / 4096 % 64) with d | d | d
        · rw [decide_eq_true (by omega)]; exact bl_lt _ _ (by omega) (by omega) (by omega)
        · rw [decide_eq_false (by omega)]; exact bl_gt _ _ (by omega) (by omega) (by omega)
        · refine (bl_eqN _ _ (by omega)).trans ?_
          rcases (by omega : r / 64 % 64 < q / 64 % 64 ∨ q / 64 % 64 < r / 64 % 64 ∨ (r / 64 % 64 = q / 64 % 64 ∧ r % 64 < q % 64) ∨ (r / 64 % 64 = q / 64 % 64 ∧ q % 64 < r % 64)) with e | e | e | e
          · rw [decide_eq_true (by omega)]; exact bl_lt _ _ (by omega) (by omega) (by omega)
          · rw [decide_eq_false (by omega)]; exact bl_gt _ _ (by omega) (by omega) (by omega)
          · rw [decide_eq_true (by omega)]; exact (bl_eqN _ _ (by omega)).trans (bl_lt _ _ (by omega) (by omega) (by omega))
          · rw [decide_eq_false (by omega)]; exact (bl_eqN _ _ (by omega)).trans (bl_gt _ _ (by omega) (by omega) (by omega))
/-- Rune by rune. -/
def below : List Nat → List Nat → Bool
  | _, [] => false
  | [], _ :: _ => true
  | r :: rs, q :: qs => if r = q then below rs qs else decide (r < q)
theorem enc_ne (r : Nat) : encR r ≠ [] := by
  have := (Lib.encodeRuneZ_length (r : Int)).1
  intro e
  have h2 := congrArg List.length e
  simp [Lib.encodeRune] at h2
  rw [h2] at this; simp at this
theorem bl_runes : ∀ (rs qs : List Nat), (∀ r ∈ rs, okRune r) → (∀ q ∈ qs, okRune q) → Op.bytesLess (rs.flatMap encR) (qs.flatMap encR) = below rs qs
  | rs, [], _, _ => by cases rs <;> simp [below, Op.bytesLess]
  | [], q :: qs, _, _ => by
    simp only [List.flatMap_nil, List.flatMap_cons, below]
    cases h : encR q with
    | nil => exact absurd h (enc_ne q)
    | cons a l => rfl
  | r :: rs, q :: qs, hr, hq => by
    simp only [List.flatMap_cons, below]
    by_cases h : r = q
    · subst h
      rw [bl_app, if_pos rfl]
      exact bl_runes rs qs (fun x hx => hr x (by simp [hx])) fun x hx => hq x (by simp [hx])
    · rw [if_neg h]
      exact bl_enc (hr r (by simp)) (hq q (by simp)) h _ _
theorem Below_loop (k : Bool → Option Unit) (a b : Seq (Int × Unit)) (rs qs : List Nat) (ha : toL a = runeSeq rs) (hb : toL b = runeSeq qs) (h1 : rs.length < 900) (h2 : qs.length < 900) :
    ∀ (n i : Nat), rs.length - i < n → i ≤ rs.length → i ≤ qs.length → draymanref02_Below_l0_run (fun x => k x) (fun x7 x8 => k (decide ((x7.n : Int) < (x8.n : Int)))) n a b (i : Int) = k (below (rs.drop i) (qs.drop i)) := by
  obtain ⟨hna, hga⟩ := runeSeq_get ha
  obtain ⟨hnb, hgb⟩ := runeSeq_get hb
  intro n
  induction n with
  | zero => intro i hi; omega
  | succ n ih =>
    intro i hi hia hib
    unfold draymanref02_Below_l0_run draymanref02_Below_l0_step
    by_cases hl : i < rs.length
    · rw [cT (by omega)]
      by_cases hm : i < qs.length
      · rw [cT (by omega), inb (by omega), inb (by omega), toNatC, hga i hl, hgb i hm, List.drop_eq_getElem_cons hl, List.drop_eq_getElem_cons hm, below]
        simp only [Bool.and_self, cond_true]
        by_cases he : rs[i] = qs[i]
        · rw [cneF (by omega), if_pos he, wrap_succ (by omega)]
          exact ih (i + 1) (by omega) (by omega) (by omega)
        · rw [cneT (by omega), if_neg he]
          congr 1
          by_cases hd : rs[i] < qs[i]
          · rw [decide_eq_true (by omega), decide_eq_true hd]
          · rw [decide_eq_false (by omega), decide_eq_false hd]
      · rw [cF (by omega), List.drop_of_length_le (show qs.length ≤ i by omega)]
        show k (decide ((a.n : Int) < (b.n : Int))) = _
        rw [hna, hnb]
        have : below (rs.drop i) [] = false := by cases rs.drop i <;> rfl
        rw [this, decide_eq_false (by omega)]
    · rw [cF (by omega), List.drop_of_length_le (show rs.length ≤ i by omega)]
      show k (decide ((a.n : Int) < (b.n : Int))) = _
      rw [hna, hnb]
      by_cases hm : i < qs.length
      · rw [decide_eq_true (by omega), List.drop_eq_getElem_cons hm]; rfl
      · rw [decide_eq_false (by omega), List.drop_of_length_le (show qs.length ≤ i by omega)]; rfl
theorem bl_irrefl : ∀ l : List UInt8, Op.bytesLess l l = false
  | [] => rfl
  | a :: l => by rw [bl_eq, bl_irrefl l]
theorem bl_ne {l m : List UInt8} (h : Op.bytesLess l m = true) : l ≠ m := by
  rintro rfl
  rw [bl_irrefl] at h; cases h
theorem bl_not : ∀ (l m : List UInt8), Op.bytesLess l m = true → Op.bytesLess m l = false
  | _, [], h => by cases ‹List UInt8› <;> simp [Op.bytesLess] at h
  | [], _ :: _, _ => rfl
  | a :: l, b :: m, h => by
    simp only [Op.bytesLess, Bool.or_eq_true, decide_eq_true_eq, Bool.and_eq_true, beq_iff_eq] at h
    rcases h with h | ⟨rfl, h⟩
    · have h1 : ¬ b < a := by rw [UInt8.lt_iff_toNat_lt] at *; omega
      have h2 : ¬ b = a := by rintro rfl; exact UInt8.lt_irrefl _ h
      simp [Op.bytesLess, h1, h2]
    · rw [bl_eq]; exact bl_not l m h
theorem bl_tri : ∀ (l m : List UInt8), Op.bytesLess l m = false → l ≠ m → Op.bytesLess m l = true
  | [], [], _, h => absurd rfl h
  | a :: l, [], _, _ => rfl
  | [], b :: m, h, _ => by simp [Op.bytesLess] at h
  | a :: l, b :: m, h, hne => by
    simp only [Op.bytesLess, Bool.or_eq_false_iff, decide_eq_false_iff_not, Bool.and_eq_false_iff] at h
    by_cases e : a = b
    · subst e
      rw [bl_eq]
      refine bl_tri l m ?_ fun e => hne (by rw [e])
      rcases h.2 with h2 | h2
      · simp at h2
      · exact h2
    · have : b < a := by
        have h1 := h.1
        have h3 : a.toNat ≠ b.toNat := fun e2 => e (UInt8.toNat_inj.1 e2)
        rw [UInt8.lt_iff_toNat_lt] at *; omega
      simp [Op.bytesLess, this]
theorem NameOrders_true (x0 : Tup (.str (.nil))) (x1 : Tup (.str (.nil))) (o0 : OkT (.str (.nil)) x0) (o1 : OkT (.str (.nil)) x1) (k : Bool → Option Unit) : draymanlaw02_NameOrders x0.1 x1.1 k = k true := by
  unfold draymanlaw02_NameOrders draymanlaw02_NameOrders_g
  generalize x0.1 = a
  generalize x1.1 = b
  by_cases h : (a.size : Int) > 40
  · rw [cnT h, awake_is]
  rw [cnF h]
  by_cases h2 : (b.size : Int) > 40
  · rw [cT h2, awake_is]
  rw [cF h2]
  obtain ⟨q, e, hk, hq⟩ := ref_Runes_is (α := Unit) (s := a) (by omega)
  obtain ⟨p, f, hk', hp⟩ := ref_Runes_is (α := Unit) (s := b) (by omega)
  rw [hk, hk']
  simp only [name_Count_is (show a.size ≤ 9223372036854775806 by omega), name_Count_is (show b.size ≤ 9223372036854775806 by omega), awake_is]
  have ca : e = decide (countB a ≥ 0) := by
    unfold countB
    rcases hq with ⟨hr, rfl⟩ | ⟨rs, hr, rfl, _⟩
    · rw [hr]; rfl
    · rw [hr, decide_eq_true (by simp only; omega)]
  have cb : f = decide (countB b ≥ 0) := by
    unfold countB
    rcases hp with ⟨hr, rfl⟩ | ⟨rs, hr, rfl, _⟩
    · rw [hr]; rfl
    · rw [hr, decide_eq_true (by simp only; omega)]
  rw [← ca, ← cb]
  simp only [beq_self_eq_true, cond_true]
  rcases hq with ⟨hr, rfl⟩ | ⟨rs, hr, rfl, hq⟩
  · rfl
  rcases hp with ⟨hr', rfl⟩ | ⟨qs, hr', rfl, hp⟩
  · rfl
  simp only [Bool.not_true, Bool.not_false, cond_true, cond_false]
  have la := (runes_len _ _ hr).1
  have lb := (runes_len _ _ hr').1
  rw [← L_size] at la lb
  have hB : ∀ k : Bool → Option Unit, draymanref02_Below q p k = k (Op.bytesLess a.toList b.toList) := by
    intro k
    have e2 := bl_runes rs qs (runes_ok _ _ hr) (runes_ok _ _ hr')
    rw [enc_runes _ _ hr, enc_runes _ _ hr'] at e2
    rw [e2]
    have := Below_loop k q p rs qs hq hp (by omega) (by omega) 1000 0 (by omega) (by omega) (by omega)
    rw [List.drop_zero, List.drop_zero] at this
    exact this
  rw [hB]
  simp only [beq_self_eq_true, Bool.not_true, cond_false]
  have n1 : (toL (⟨false, 1, (fun _ => (b, ()))⟩ : Seq (ByteArray × Unit))) = [(b, ())] := rfl
  have n2 : (toL (⟨false, 2, (tSel [(a, ()), (b, ())] (ByteArray.empty, ()))⟩ : Seq (ByteArray × Unit))) = [(a, ()), (b, ())] := rfl
  simp only [name_Find_is (show (⟨false, 1, (fun _ => (b, ()))⟩ : Seq (ByteArray × Unit)).n < 900 by show 1 < 900; omega), name_Find_is (show (⟨false, 2, (tSel [(a, ()), (b, ())] (ByteArray.empty, ()))⟩ : Seq (ByteArray × Unit)).n < 900 by show 2 < 900; omega), n1, n2, findL]
  cases hl : Op.bytesLess a.toList b.toList with
  | false =>
    simp only [Bool.not_false, cond_true]
    by_cases hab : a = b
    · subst hab
      simp [bl_irrefl]
    · have hne : ¬ a.toList = b.toList := fun e => hab (L_inj e)
      rw [bl_tri _ _ hl hne]
      have e1 : (a.toList == b.toList) = false := by simp [hne]
      simp only [e1, if_true]
      have e2 : (((0 + 1 : Nat) : Int) == 0) = false := rfl
      rw [e2]
      simp
  | true =>
    have hne := bl_ne hl
    simp only [Bool.not_true, cond_false]
    simp [bl_irrefl]
end Go.Rv.Tryd
