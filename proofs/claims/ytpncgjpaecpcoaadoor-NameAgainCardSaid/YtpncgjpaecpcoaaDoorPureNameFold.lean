/- Texts as names, great letters made small; where a text stands in a list: the program's and the document's, in plain words. No condition but the laws' own lengths. -/
import Derived.Test.YtpncgjpaecpcoaaDoorE1
import Derived.Test.YtpncgjpaecpcoaaDoorPureNameLib
set_option linter.unusedVariables false
set_option linter.unusedSimpArgs false
namespace Go.Rv.Tryd
open Go Go.Rv
variable {α : Type}

theorem wrap32 {x : Int} (h1 : -2147483648 ≤ x) (h2 : x ≤ 2147483647) : IntKind.i32.wrap x = x := by
  simp [IntKind.wrap, IntKind.min, IntKind.max, IntKind.signed, IntKind.bits]; omega
theorem wrapU32 {x : Int} (h1 : 0 ≤ x) (h2 : x ≤ 4294967295) : IntKind.u32.wrap x = x := by
  simp [IntKind.wrap, IntKind.min, IntKind.max, IntKind.signed, IntKind.bits]; omega
theorem wrapU8m (x : Nat) : IntKind.u8.wrap (x : Int) = ((x % 256 : Nat) : Int) := by
  simp [IntKind.wrap, IntKind.min, IntKind.max, IntKind.signed, IntKind.bits]

/-- A rune, or its small letter. -/
def smallN (n : Nat) : Nat := if (65 ≤ n ∧ n ≤ 90) ∨ (192 ≤ n ∧ n ≤ 222 ∧ n ≠ 215) then n + 32 else n
theorem smallN_ok {n : Nat} (h : okRune n) : okRune (smallN n) := by
  unfold okRune smallN at *; split <;> omega
theorem cneT {β : Type} {x y : Int} {a b : β} (h : x ≠ y) : cond (x != y) a b = a := by rw [bneT h]; rfl
theorem cneF {β : Type} {x y : Int} {a b : β} (h : x = y) : cond (x != y) a b = b := by rw [bneF h]; rfl
theorem name_small_is {n : Nat} (h : okRune n) (k : Int → Option α) : name_small (n : Int) k = k (smallN n : Int) := by
  unfold name_small
  have h' := h
  unfold okRune at h'
  rw [wrap32 (by omega) (by omega)]
  rcases (by omega : (65 ≤ n ∧ n ≤ 90) ∨ (192 ≤ n ∧ n ≤ 222 ∧ n ≠ 215) ∨ n < 65 ∨ (90 < n ∧ n < 192) ∨ n = 215 ∨ 222 < n) with c | c | c | c | c | c
  all_goals
    repeat first | refine (cT (by omega)).trans ?_ | refine (cF (by omega)).trans ?_ | refine (cneT (by omega)).trans ?_ | refine (cneF (by omega)).trans ?_
    unfold smallN
    first
      | (rw [if_pos (by omega)]; rfl)
      | rw [if_neg (by omega)]

/-! ### A rune's bytes -/
theorem or192 : ∀ x : Fin 32, iOr .u8 192 ((x.1 : Nat) : Int) = 192 + (x.1 : Int) := by decide +kernel
theorem or224 : ∀ x : Fin 16, iOr .u8 224 ((x.1 : Nat) : Int) = 224 + (x.1 : Int) := by decide +kernel
theorem or240 : ∀ x : Fin 8, iOr .u8 240 ((x.1 : Nat) : Int) = 240 + (x.1 : Int) := by decide +kernel
theorem or128 : ∀ x : Fin 64, iOr .u8 128 ((x.1 : Nat) : Int) = 128 + (x.1 : Int) := by decide +kernel
theorem and63 : ∀ x : Fin 256, iAnd .u8 ((x.1 : Nat) : Int) 63 = ((x.1 % 64 : Nat) : Int) := by decide +kernel
theorem shr (n d : Nat) (e : (2 : Int) ^ (min d IntKind.i32.bits) = ((2 ^ d : Nat) : Int)) : Int.fdiv (n : Int) (2 ^ (min d IntKind.i32.bits)) = ((n / 2 ^ d : Nat) : Int) := by
  rw [e, Int.fdiv_eq_ediv_of_nonneg _ (Int.natCast_nonneg _)]; exact (Int.natCast_ediv _ _).symm
theorem shr6 (n : Nat) : Int.fdiv (n : Int) (2 ^ (min 6 IntKind.i32.bits)) = ((n / 64 : Nat) : Int) := shr n 6 rfl
theorem shr12 (n : Nat) : Int.fdiv (n : Int) (2 ^ (min 12 IntKind.i32.bits)) = ((n / 4096 : Nat) : Int) := shr n 12 rfl
theorem shr18 (n : Nat) : Int.fdiv (n : Int) (2 ^ (min 18 IntKind.i32.bits)) = ((n / 262144 : Nat) : Int) := shr n 18 rfl
/-- Six bits of a rune. -/
theorem six (n : Nat) : iOr .u8 128 (iAnd .u8 (IntKind.u8.wrap (n : Int)) 63) = ((128 + n % 64 : Nat) : Int) := by
  rw [wrapU8m, and63 ⟨n % 256, by omega⟩, or128 ⟨n % 256 % 64, by omega⟩]
  show (128 : Int) + ((n % 256 % 64 : Nat) : Int) = _
  omega
theorem top2 {n : Nat} (h : n < 32) : iOr .u8 192 (IntKind.u8.wrap (n : Int)) = ((192 + n : Nat) : Int) := by
  rw [wrapU8m, show n % 256 = n by omega, or192 ⟨n, h⟩]; show (192 : Int) + (n : Int) = _; omega
theorem top3 {n : Nat} (h : n < 16) : iOr .u8 224 (IntKind.u8.wrap (n : Int)) = ((224 + n : Nat) : Int) := by
  rw [wrapU8m, show n % 256 = n by omega, or224 ⟨n, h⟩]; show (224 : Int) + (n : Int) = _; omega
theorem top4 {n : Nat} (h : n < 8) : iOr .u8 240 (IntKind.u8.wrap (n : Int)) = ((240 + n : Nat) : Int) := by
  rw [wrapU8m, show n % 256 = n by omega, or240 ⟨n, h⟩]; show (240 : Int) + (n : Int) = _; omega
theorem b1_of {a : Nat} (ha : a < 256) (G : Nat → Tup (.int .u8 .nil)) (h0 : (G 0).1 = (a : Int)) : bytesOk 1 G = true ∧ bytesT 1 G = mkB [UInt8.ofNat a] := by
  refine ⟨?_, ?_⟩
  · simp [bytesOk, List.range_succ, h0]; omega
  · simp [bytesT_mk, List.range_succ, h0, Int.toNat_natCast]
theorem b2_of {a b : Nat} (ha : a < 256) (hb : b < 256) (G : Nat → Tup (.int .u8 .nil)) (h0 : (G 0).1 = (a : Int)) (h1 : (G 1).1 = (b : Int)) : bytesOk 2 G = true ∧ bytesT 2 G = mkB [UInt8.ofNat a, UInt8.ofNat b] := by
  refine ⟨?_, ?_⟩
  · simp [bytesOk, List.range_succ, h0, h1]; omega
  · simp [bytesT_mk, List.range_succ, h0, h1, Int.toNat_natCast]
theorem b3_of {a b d : Nat} (ha : a < 256) (hb : b < 256) (hd : d < 256) (G : Nat → Tup (.int .u8 .nil)) (h0 : (G 0).1 = (a : Int)) (h1 : (G 1).1 = (b : Int)) (h2 : (G 2).1 = (d : Int)) : bytesOk 3 G = true ∧ bytesT 3 G = mkB [UInt8.ofNat a, UInt8.ofNat b, UInt8.ofNat d] := by
  refine ⟨?_, ?_⟩
  · simp [bytesOk, List.range_succ, h0, h1, h2]; omega
  · simp [bytesT_mk, List.range_succ, h0, h1, h2, Int.toNat_natCast]
theorem b4_of {a b d e : Nat} (ha : a < 256) (hb : b < 256) (hd : d < 256) (he : e < 256) (G : Nat → Tup (.int .u8 .nil)) (h0 : (G 0).1 = (a : Int)) (h1 : (G 1).1 = (b : Int)) (h2 : (G 2).1 = (d : Int)) (h3 : (G 3).1 = (e : Int)) :
    bytesOk 4 G = true ∧ bytesT 4 G = mkB [UInt8.ofNat a, UInt8.ofNat b, UInt8.ofNat d, UInt8.ofNat e] := by
  refine ⟨?_, ?_⟩
  · simp [bytesOk, List.range_succ, h0, h1, h2, h3]; omega
  · simp [bytesT_mk, List.range_succ, h0, h1, h2, h3, Int.toNat_natCast]

/-- One round of what is written. -/
theorem fold_step {s : ByteArray} {p : Nat} (hp : p < s.size) (h : okRune (decR (s.toList.drop p)).1) (k0 : ByteArray → ByteArray → Int → Option α) (rec : ByteArray → ByteArray → Int → Option α) (b : ByteArray) (hb : b.size ≤ 140000000000000) :
    name_Fold_l0_step name_Count name_small name_Fit k0 rec b s (p : Int) = rec (b ++ mkB (encR (smallN (decR (s.toList.drop p)).1))) s ((p + (decR (s.toList.drop p)).2 : Nat) : Int) := by
  unfold name_Fold_l0_step
  have hb1 : Nat.blt (p : Int).toNat s.size = true := by rw [toNatC, Nat.blt_eq]; exact hp
  rw [hb1]
  simp only [cond_true, toNatC, decR_at]
  rw [name_small_is h]
  have ho := smallN_ok h
  generalize smallN (decR (s.toList.drop p)).1 = n at ho
  generalize (p + (decR (s.toList.drop p)).2) = p'
  have ho' := ho
  unfold okRune at ho'
  rw [wrapU32 (x := (n : Int)) (by omega) (by omega)]
  by_cases c1 : n ≤ 127
  · rw [cT (by omega)]
    obtain ⟨q1, q2⟩ := b1_of (a := n) (by omega) (fun _ => ((IntKind.u8.wrap (n : Int)), ())) (by rw [wrapU8m]; simp only; omega)
    rw [q1, q2, decide_eq_true (by omega), encR_1 (by omega)]
    rfl
  rw [cF (by omega)]
  by_cases c2 : n ≤ 2047
  · rw [cT (by omega)]
    simp only [shr6, six, top2 (show n / 64 < 32 by omega)]
    obtain ⟨q1, q2⟩ := b2_of (a := 192 + n / 64) (b := 128 + n % 64) (by omega) (by omega) (tSel [(((192 + n / 64 : Nat) : Int), ()), (((128 + n % 64 : Nat) : Int), ())] (0, ())) rfl rfl
    rw [q1, q2, decide_eq_true (by omega), encR_2 (by omega) (by omega)]
    rfl
  rw [cF (by omega)]
  have three : n < 65536 → bytesOk 3 (tSel [(((224 + n / 4096 : Nat) : Int), ()), (((128 + n / 64 % 64 : Nat) : Int), ()), (((128 + n % 64 : Nat) : Int), ())] (0, ())) = true ∧ bytesT 3 (tSel [(((224 + n / 4096 : Nat) : Int), ()), (((128 + n / 64 % 64 : Nat) : Int), ()), (((128 + n % 64 : Nat) : Int), ())] (0, ())) = mkB (encR n) := fun c => by
    rw [encR_3 (by omega) c ho]
    exact b3_of (by omega) (by omega) (by omega) _ rfl rfl rfl
  by_cases c3 : n < 55296
  · rw [cT (by omega), cT (by omega)]
    simp only [shr6, shr12, six, top3 (show n / 4096 < 16 by omega)]
    obtain ⟨q1, q2⟩ := three (by omega)
    rw [q1, q2, decide_eq_true (by omega)]
    rfl
  rw [cF (by omega), cT (by omega)]
  by_cases c4 : n ≤ 65535
  · rw [cT (by omega)]
    simp only [shr6, shr12, six, top3 (show n / 4096 < 16 by omega)]
    obtain ⟨q1, q2⟩ := three (by omega)
    rw [q1, q2, decide_eq_true (by omega)]
    rfl
  · rw [cF (by omega), cT (by omega), cT (by omega)]
    simp only [shr6, shr12, shr18, six, top4 (show n / 262144 < 8 by omega)]
    obtain ⟨q1, q2⟩ := b4_of (a := 240 + n / 262144) (b := 128 + n / 4096 % 64) (d := 128 + n / 64 % 64) (e := 128 + n % 64) (by omega) (by omega) (by omega) (by omega) (tSel [(((240 + n / 262144 : Nat) : Int), ()), (((128 + n / 4096 % 64 : Nat) : Int), ()), (((128 + n / 64 % 64 : Nat) : Int), ()), (((128 + n % 64 : Nat) : Int), ())] (0, ())) rfl rfl rfl rfl
    rw [q1, q2, decide_eq_true (by omega), encR_4 (by omega) (by omega)]
    rfl

/-- What is written of runes. -/
def foldB (rs : List Nat) : ByteArray := mkB ((rs.map smallN).flatMap encR)
theorem foldB_cons (r : Nat) (rs : List Nat) : foldB (r :: rs) = mkB (encR (smallN r)) ++ foldB rs := by
  unfold foldB; rw [mkB_app]; rfl
theorem encR_len (r : Nat) : (encR r).length ≤ 4 := by
  have := (Lib.encodeRuneZ_length (r : Int)).2
  simpa [Lib.encodeRune] using this
theorem app_assoc (a b c : ByteArray) : (a ++ b) ++ c = a ++ (b ++ c) := L_inj (by simp only [L_app, List.append_assoc])
theorem fold_loop (k0 : ByteArray → ByteArray → Int → Option α) (k : ByteArray → Option α) (hk : ∀ b s p, k0 b s p = k b) :
    ∀ (n : Nat) (s : ByteArray) (p : Nat) (b : ByteArray) (rs : List Nat), rs.length < n → b.size + 4 * rs.length ≤ 140000000000000 → runes (s.toList.drop p) = some rs →
      name_Fold_l0_run name_Count name_small name_Fit k0 n b s (p : Int) = k (b ++ foldB rs) := by
  intro n
  induction n with
  | zero => intro s p b rs hn; omega
  | succ n ih =>
    intro s p b rs hn hbs h
    rw [name_Fold_l0_run]
    cases rs with
    | nil =>
      have := runes_nilOf h
      have hp : Nat.blt (p : Int).toNat s.size = false := by
        rw [toNatC]
        have h1 := congrArg List.length this
        simp only [List.length_drop, List.length_nil] at h1
        rw [← L_size] at h1
        cases e : Nat.blt p s.size with
        | false => rfl
        | true => rw [Nat.blt_eq] at e; omega
      unfold name_Fold_l0_step
      rw [hp]
      simp only [cond_false, hk]
      congr 1
      exact L_inj (by rw [L_app]; simp [foldB, toL_mkB])
    | cons r rs =>
      have hok := runes_ok _ _ h r (by simp)
      obtain ⟨hne, hb, hr, hrs⟩ := runes_cons h
      have hp : p < s.size := by
        rcases Nat.lt_or_ge p s.size with h1 | h1
        · exact h1
        · exact absurd (drop_e (by omega)) hne
      simp only [List.length_cons] at hn hbs
      rw [fold_step hp (by rw [hr]; exact hok) _ _ b (by omega), hr]
      have he := encR_len (smallN r)
      rw [List.drop_drop] at hrs
      rw [ih s _ _ rs (by omega) (by rw [size_app, mkB_size]; omega) hrs, foldB_cons, app_assoc]
/-- A text as a name. -/
def foldR (s : ByteArray) : ByteArray × Int := match runes s.toList with
  | some rs => if nameL (some (rs.map smallN)) then (foldB rs, 0) else (⟨#[]⟩, 7)
  | none => (⟨#[]⟩, 7)
theorem smalls_ok {l : List UInt8} {rs : List Nat} (h : runes l = some rs) : ∀ r ∈ rs.map smallN, okRune r := by
  intro r hr
  obtain ⟨q, hq, rfl⟩ := List.mem_map.1 hr
  exact smallN_ok (runes_ok _ _ h q hq)
theorem runes_foldB {l : List UInt8} {rs : List Nat} (h : runes l = some rs) : runes (foldB rs).toList = some (rs.map smallN) := by
  unfold foldB
  rw [toL_mkB, runes_enc _ (smalls_ok h)]
theorem foldB_size (rs : List Nat) : (foldB rs).size ≤ 4 * rs.length := by
  induction rs with
  | nil => exact Nat.le_refl _
  | cons r rs ih =>
    rw [foldB_cons, size_app, mkB_size]
    have := encR_len (smallN r)
    simp only [List.length_cons]; omega
theorem nameB_foldB {l : List UInt8} {rs : List Nat} (h : runes l = some rs) : nameB (foldB rs) = nameL (some (rs.map smallN)) := by
  unfold nameB; rw [runes_foldB h]
theorem name_Fold_is {s : ByteArray} (hs : s.size < 1000) (k : ByteArray → Int → Option α) : name_Fold s k = k (foldR s).1 (foldR s).2 := by
  unfold name_Fold name_Fold_g foldR
  rw [name_Count_is (by omega)]
  unfold countB
  cases h : runes s.toList with
  | none => rfl
  | some rs =>
    have hl := (runes_len _ _ h).1
    rw [← L_size] at hl
    simp only
    rw [cF (by omega)]
    have := fold_loop (α := α) (fun b7 s8 p9 => (name_Fit b7 fun r10 => (cond (!r10) (k (⟨#[]⟩ : ByteArray) 7) (k b7 0)))) (fun b7 => (name_Fit b7 fun r10 => (cond (!r10) (k (⟨#[]⟩ : ByteArray) 7) (k b7 0)))) (fun _ _ _ => rfl) 1000 s 0 (⟨#[]⟩ : ByteArray) rs (by omega) (by show 0 + _ ≤ _; omega) (by rw [List.drop_zero]; exact h)
    refine Eq.trans this ?_
    have e : (⟨#[]⟩ : ByteArray) ++ foldB rs = foldB rs := L_inj (by rw [L_app, B_nil, toL_mkB]; rfl)
    have hz := foldB_size rs
    simp only [e, name_Fit_is (show (foldB rs).size ≤ 9223372036854775806 by omega), nameB_foldB h]
    cases nameL (some (rs.map smallN)) <;> rfl

/-! ### The document's fold -/
theorem ref_octets_is {n : Nat} (h : n < 2048) (k : ByteArray → Option α) : draymanref02_octets (n : Int) k = k (mkB (encR n)) := by
  unfold draymanref02_octets
  by_cases c : n < 128
  · rw [cT (by omega), encR_1 c]
    rw [(b1_of (a := n) (by omega) (fun _ => ((IntKind.u8.wrap (n : Int)), ())) (by rw [wrapU8m]; simp only; omega)).2]
  · rw [cF (by omega), encR_2 (by omega) h]
    have e1 : Int.tdiv (n : Int) 64 = ((n / 64 : Nat) : Int) := rfl
    have e2 : Int.tmod (n : Int) 64 = ((n % 64 : Nat) : Int) := rfl
    have e3 : IntKind.u8.wrap (IntKind.i64.wrap (192 + (IntKind.i64.wrap (Int.tdiv (n : Int) 64)))) = ((192 + n / 64 : Nat) : Int) := by
      rw [e1, wrap64 (x := ((n / 64 : Nat) : Int)) (by omega) (by omega), wrap64 (by omega) (by omega), wrapU8 (by omega) (by omega)]; omega
    have e4 : IntKind.u8.wrap (IntKind.i64.wrap (128 + (Int.tmod (n : Int) 64))) = ((128 + n % 64 : Nat) : Int) := by
      rw [e2, wrap64 (by omega) (by omega), wrapU8 (by omega) (by omega)]; omega
    rw [e3, e4, (b2_of (a := 192 + n / 64) (b := 128 + n % 64) (by omega) (by omega) (tSel [(((192 + n / 64 : Nat) : Int), ()), (((128 + n % 64 : Nat) : Int), ())] (0, ())) rfl rfl).2]
theorem isR_lt {n : Nat} (h : isR n = true) : n ≤ 255 := by
  unfold isR at h; simp only [decide_eq_true_eq] at h; omega
theorem rfits {out : ByteArray} (hb : out.size ≤ 140000000000000) (m : Nat) : (((out.size + (mkB (encR m)).size : Nat) : Int) ≤ IntKind.i64.max) := by
  have he := encR_len m
  rw [mkB_size, mx64]; omega
theorem rbody (q : Seq (Int × Unit)) (i : Nat) (kr : ByteArray → Int → Option α) (rec : Seq (Int × Unit) → ByteArray → Int → Option α) (out : ByteArray) (hb : out.size ≤ 140000000000000) (m : Nat) :
    (draymanref02_Rune (m : Int) fun r => cond (!r) (kr (⟨#[]⟩ : ByteArray) 7) (draymanref02_octets (m : Int) fun r8 => cond (decide ((((out).size + (r8).size : Nat) : Int) ≤ IntKind.i64.max)) (rec q (out ++ r8) ((i + 1 : Nat) : Int)) none)) = if isR m then rec q (out ++ mkB (encR m)) ((i + 1 : Nat) : Int) else kr ⟨#[]⟩ 7 := by
  rw [ref_Rune_is]
  cases hR : isR (m : Int) with
  | false => rfl
  | true =>
    have := isR_lt hR
    rw [if_pos rfl, Bool.not_true, cond_false]
    refine (ref_octets_is (n := m) (by omega) _).trans ?_
    exact cT (rfits hb m)
/-- One round of the document's. -/
theorem rfold_step {q : Seq (Int × Unit)} {i n : Nat} (hi : i < q.n) (hq : (q.g i).1 = (n : Int)) (ho : okRune n) (hn : q.n < 1000) (kr : ByteArray → Int → Option α) (k0 : ByteArray → Option α) (rec : Seq (Int × Unit) → ByteArray → Int → Option α) (out : ByteArray) (hb : out.size ≤ 140000000000000) :
    draymanref02_Fold_l0_step draymanref02_Runes draymanref02_Rune draymanref02_octets draymanref02_Fit kr k0 rec q out (i : Int) = if isR (smallN n) then rec q (out ++ mkB (encR (smallN n))) ((i + 1 : Nat) : Int) else kr ⟨#[]⟩ 7 := by
  unfold draymanref02_Fold_l0_step
  rw [cT (by omega), inb hi]
  simp only [cond_true, toNatC, hq]
  have ho' := ho
  unfold okRune at ho'
  rw [wrap_succ (by omega), wrap64 (x := (n : Int) + 32) (by omega) (by omega)]
  have e32 : (n : Int) + 32 = ((n + 32 : Nat) : Int) := by omega
  rw [e32]
  have body := rbody q i kr rec out hb
  simp only [body]
  rcases (by omega : (65 ≤ n ∧ n ≤ 90) ∨ (192 ≤ n ∧ n ≤ 222 ∧ n ≠ 215) ∨ n < 65 ∨ (90 < n ∧ n < 192) ∨ n = 215 ∨ 222 < n) with c | c | c | c | c | c
  all_goals
    repeat first | refine (cT (by omega)).trans ?_ | refine (cF (by omega)).trans ?_ | refine (cnT (by omega)).trans ?_ | refine (cnF (by omega)).trans ?_ | refine (cneT (by omega)).trans ?_ | refine (cneF (by omega)).trans ?_
    unfold smallN
    first
      | rw [if_pos (show (65 ≤ n ∧ n ≤ 90) ∨ (192 ≤ n ∧ n ≤ 222 ∧ n ≠ 215) by omega)]
      | rw [if_neg (show ¬ ((65 ≤ n ∧ n ≤ 90) ∨ (192 ≤ n ∧ n ≤ 222 ∧ n ≠ 215)) by omega)]
theorem rfold_loop (q : Seq (Int × Unit)) (rs : List Nat) (h : toL q = runeSeq rs) (hok : ∀ r ∈ rs, okRune r) (hrs : rs.length < 900) (kr : ByteArray → Int → Option α) (k0 : ByteArray → Option α) :
    ∀ (n i : Nat) (out : ByteArray), rs.length - i < n → out.size + 4 * (rs.length - i) ≤ 140000000000000 →
      draymanref02_Fold_l0_run draymanref02_Runes draymanref02_Rune draymanref02_octets draymanref02_Fit kr k0 n q out (i : Int) = if ((rs.drop i).map smallN).all fun x => isR x then k0 (out ++ foldB (rs.drop i)) else kr ⟨#[]⟩ 7 := by
  obtain ⟨hn, hg⟩ := runeSeq_get h
  intro n
  induction n with
  | zero => intro i out hi; omega
  | succ n ih =>
    intro i out hi hb
    rw [draymanref02_Fold_l0_run]
    by_cases hl : i < rs.length
    · rw [rfold_step (by omega) (hg i hl) (hok _ (List.getElem_mem hl)) (by omega) _ _ _ _ (by omega), List.drop_eq_getElem_cons hl, List.map_cons, List.all_cons, foldB_cons]
      have he := encR_len (smallN rs[i])
      cases hR : isR (smallN rs[i] : Int) with
      | false => rfl
      | true =>
        simp only [if_true, Bool.true_and]
        rw [ih (i + 1) _ (by omega) (by rw [size_app, mkB_size]; omega), app_assoc]
    · unfold draymanref02_Fold_l0_step
      rw [cF (by omega), List.drop_of_length_le (by omega)]
      have e : out ++ foldB [] = out := L_inj (by rw [L_app]; simp [foldB, toL_mkB])
      simp [e]
theorem foldR_long {s : ByteArray} (h : 48 < s.size) : foldR s = (⟨#[]⟩, 7) := by
  unfold foldR
  cases hr : runes s.toList with
  | none => rfl
  | some rs =>
    have := (runes_len _ _ hr).2
    rw [← L_size] at this
    cases rs with
    | nil => rfl
    | cons r rs =>
      simp only [List.length_cons] at this
      simp only [nameL, List.map_cons, List.length_map]
      rw [decide_eq_false (by omega)]
      rfl
theorem ref_Fold_is {s : ByteArray} (k : ByteArray → Int → Option α) : draymanref02_Fold s k = k (foldR s).1 (foldR s).2 := by
  unfold draymanref02_Fold draymanref02_Fold_g
  by_cases hs : (s.size : Int) > 48
  · rw [cT hs, foldR_long (by omega)]
  · rw [cF hs]
    obtain ⟨q, b, hk, hq⟩ := ref_Runes_is (α := α) (s := s) (by omega)
    rw [hk]
    unfold foldR
    rcases hq with ⟨hr, rfl⟩ | ⟨rs, hr, rfl, hq⟩
    · rw [hr]; rfl
    · rw [hr]
      have hl := (runes_len _ _ hr).1
      rw [← L_size] at hl
      simp only [Bool.not_true, cond_false]
      have := rfold_loop (α := α) q rs hq (runes_ok _ _ hr) (by omega) (fun x25 x26 => k x25 x26) (fun x27 => (draymanref02_Fit x27 fun r28 => (cond (!r28) (k (⟨#[]⟩ : ByteArray) 7) (k x27 0)))) 1000 0 (⟨#[]⟩ : ByteArray) (by omega) (by show 0 + _ ≤ _; omega)
      refine Eq.trans this ?_
      have e : (⟨#[]⟩ : ByteArray) ++ foldB rs = foldB rs := L_inj (by rw [L_app, B_nil, toL_mkB]; rfl)
      simp only [List.drop_zero, e, ref_Fit_is, nameB_foldB hr]
      cases hA : (rs.map smallN).all fun x => isR x with
      | true => cases nameL (some (rs.map smallN)) <;> rfl
      | false =>
        have : nameL (some (rs.map smallN)) = false := by
          cases rs with
          | nil => simp at hA
          | cons r rs => simp only [List.map_cons, nameL]; rw [List.map_cons] at hA; rw [hA]; simp
        rw [this]; rfl
theorem ref_Count_is {s : ByteArray} (hs : s.size < 1000) (k : Int → Option α) : draymanref02_Count s k = k (countB s) := by
  unfold draymanref02_Count draymanref02_Count_g countB
  obtain ⟨q, b, hk, hq⟩ := ref_Runes_is (α := α) (s := s) hs
  rw [hk]
  rcases hq with ⟨hr, rfl⟩ | ⟨rs, hr, rfl, hq⟩
  · rw [hr]; rfl
  · rw [hr, (runeSeq_get hq).1]; rfl

/-! ### Where a text stands -/
/-- The first that is not below. -/
def findL : List (ByteArray × Unit) → ByteArray → Nat → Int × Bool
  | [], _, i => ((i : Int), false)
  | x :: l, s, i => if Op.bytesLess x.1.toList s.toList then findL l s (i + 1) else ((i : Int), x.1.toList == s.toList)
theorem name_Find_loop (k : Int → Bool → Option α) (q : Seq (ByteArray × Unit)) (s : ByteArray) (hn : q.n < 900) : ∀ (n i : Nat), q.n - i < n → name_Find_l0_run (fun x8 x9 => k x8 x9) (fun x10 => k (x10.n : Int) false) n q s q (q.n : Int) (i : Int) = (if i ≤ q.n then k (findL ((toL q).drop i) s i).1 (findL ((toL q).drop i) s i).2 else k (q.n : Int) false) := by
  intro n
  induction n with
  | zero => intro i hi; omega
  | succ n ih =>
    intro i hi
    unfold name_Find_l0_run name_Find_l0_step
    by_cases hl : i < q.n
    · rw [cT (by omega), inb hl, cond_true, toNatC, toL_drop q hl, findL, if_pos (by omega)]
      cases hb : Op.bytesLess (q.g i).1.toList s.toList with
      | false => rfl
      | true =>
        simp only [Bool.not_true, cond_false, if_true]
        rw [wrap_succ (by omega), ih (i + 1) (by omega), if_pos (by omega)]
    · rw [cF (by omega)]
      split
      · rw [toL_end q (by omega), findL]
        have : i = q.n := by omega
        rw [this]
      · rfl
theorem name_Find_is {q : Seq (ByteArray × Unit)} {s : ByteArray} (hn : q.n < 900) (k : Int → Bool → Option α) : name_Find q s k = k (findL (toL q) s 0).1 (findL (toL q) s 0).2 := by
  have := name_Find_loop k q s hn 1000 0 (by omega)
  rw [if_pos (by omega), List.drop_zero] at this
  exact this
theorem ref_Find_loop (k0 : Seq (ByteArray × Unit) → ByteArray → Int → Option α) (k : Int → Bool → Option α) (q : Seq (ByteArray × Unit)) (s : ByteArray) (hn : q.n < 900) (h1 : ∀ i : Nat, i < q.n → k0 q s (i : Int) = k (i : Int) ((q.g i).1.toList == s.toList)) (h2 : k0 q s (q.n : Int) = k (q.n : Int) false) :
    ∀ (n i : Nat), q.n - i < n → i ≤ q.n → draymanref02_Find_l0_run k0 n q s (i : Int) = k (findL ((toL q).drop i) s i).1 (findL ((toL q).drop i) s i).2 := by
  intro n
  induction n with
  | zero => intro i hi; omega
  | succ n ih =>
    intro i hi hle
    unfold draymanref02_Find_l0_run draymanref02_Find_l0_step
    by_cases hl : i < q.n
    · rw [cT (by omega), inb hl, cond_true, toNatC, toL_drop q hl, findL]
      cases hb : Op.bytesLess (q.g i).1.toList s.toList with
      | false => simp only [cond_false, Bool.false_eq_true, if_false]; exact h1 i hl
      | true =>
        simp only [cond_true, if_true]
        rw [wrap_succ (by omega), ih (i + 1) (by omega) (by omega)]
    · have : i = q.n := by omega
      subst this
      rw [cF (by omega), toL_end q (Nat.le_refl _), findL]
      exact h2
theorem ref_Find_is {q : Seq (ByteArray × Unit)} {s : ByteArray} (hn : q.n < 900) (k : Int → Bool → Option α) : draymanref02_Find q s k = k (findL (toL q) s 0).1 (findL (toL q) s 0).2 := by
  unfold draymanref02_Find
  have := ref_Find_loop (α := α) (fun x6 x7 x8 => (cond (decide (x8 < (x6.n : Int))) (cond (((decide ((0 : Int) ≤ x8)) && (decide (x8 < (x6.n : Int)))) && ((decide ((0 : Int) ≤ x8)) && (decide (x8 < (x6.n : Int))))) (k x8 ((x6.g x8.toNat).1.toList == x7.toList)) none) (k x8 false))) k q s hn (fun i hi => by
      refine (cT (by omega)).trans ?_
      rw [inb hi]; rfl) (cF (by omega)) 1000 0 (by omega) (by omega)
  rw [List.drop_zero] at this
  exact this

/-! ### The chapter's examples -/
theorem awake_is (k : Bool → Option α) : draymanlaw02_awake k = k true := by
  unfold draymanlaw02_awake draymanlaw02_awake_g
  have f1 : foldR (⟨#[195, 132, 98]⟩ : ByteArray) = ((⟨#[195, 164, 98]⟩ : ByteArray), 0) := by decide +kernel
  have f2 : foldR (⟨#[45, 97]⟩ : ByteArray) = ((⟨#[]⟩ : ByteArray), 7) := by decide +kernel
  have f3 : findL (toL (⟨false, 2, (tSel [((⟨#[97]⟩ : ByteArray), ()), ((⟨#[99]⟩ : ByteArray), ())] (ByteArray.empty, ()))⟩ : Seq (ByteArray × Unit))) (⟨#[98]⟩ : ByteArray) 0 = (1, false) := by decide +kernel
  have f4 : countB (⟨#[195, 164, 98]⟩ : ByteArray) = 2 := by decide +kernel
  have f5 : nameB (⟨#[45, 97]⟩ : ByteArray) = false := by decide +kernel
  have f6 : nameB (⟨#[195, 164, 98]⟩ : ByteArray) = true := by decide +kernel
  have f7 : isR 45 = true := by decide +kernel
  rw [name_Fold_is (by decide)]
  rw [f1, name_Fold_is (by decide), f2, name_Find_is (by decide), f3]
  simp only
  rw [name_Count_is (by decide), f4, name_Fit_is (by decide), f5, name_Rune_is, f7, name_Fit_is (by decide), f6]
  simp
end Go.Rv.Tryd
