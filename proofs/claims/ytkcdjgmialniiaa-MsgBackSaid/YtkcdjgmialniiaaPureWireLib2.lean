/- What numbers and flags are as octets, and how they are read, in plain words, for any seat. No condition. -/
import Derived.Test.YtkcdjgmialniiaaE1
import Derived.Test.YtkcdjgmialniiaaRvT
import Derived.Laws.Strings
set_option linter.unusedVariables false
set_option linter.unusedSimpArgs false
namespace Go.Rv.Try
open Go Go.Rv Go.RowKit
variable {α : Type}
def mkB (l : List UInt8) : ByteArray := ⟨l.toArray⟩
theorem toL_mkB (l : List UInt8) : (mkB l).toList = l := ByteArray.toList_mk l
theorem L_inj {a b : ByteArray} (h : a.toList = b.toList) : a = b := by
  rw [ByteArray.toList_eq, ByteArray.toList_eq] at h
  exact ByteArray.ext (Array.toList_inj.1 h)
theorem mkB_L (b : ByteArray) : mkB b.toList = b := L_inj (toL_mkB _)
theorem L_size (b : ByteArray) : b.size = b.toList.length := by
  rw [ByteArray.toList_eq, Array.length_toList]; rfl
theorem L_app (a b : ByteArray) : (a ++ b).toList = a.toList ++ b.toList := by
  simp only [ByteArray.toList_eq, ByteArray.data_append, Array.toList_append]
theorem L_extract (a : ByteArray) (i j : Nat) : (a.extract i j).toList = (a.toList.take j).drop i := by
  simp only [ByteArray.toList_eq, ByteArray.data_extract, Array.toList_extract, List.extract]
  rw [List.drop_take]
theorem L_beq (a b : ByteArray) : (a.toList == b.toList) = decide (a = b) := by
  by_cases h : a = b
  · subst h; simp
  · have : ¬ a.toList = b.toList := fun e => h (L_inj e)
    simp [h, this]
theorem mkB_app (a b : List UInt8) : mkB a ++ mkB b = mkB (a ++ b) := L_inj (by rw [L_app, toL_mkB, toL_mkB, toL_mkB])
theorem mkB_size (l : List UInt8) : (mkB l).size = l.length := by rw [L_size, toL_mkB]
theorem B_nil : (⟨#[]⟩ : ByteArray) = mkB [] := rfl
theorem byteAt_nat (b : ByteArray) (i : Nat) : byteAt b (i : Int) = ((b.toList[i]?.getD 0).toNat : Int) := by
  rw [ByteArray.toList_eq]; rfl
theorem size_app (a b : ByteArray) : (a ++ b).size = a.size + b.size := by rw [L_size, L_app, List.length_append, ← L_size, ← L_size]
theorem bleT {n m : Nat} (h : n ≤ m) : Nat.ble n m = true := Nat.ble_eq_true_of_le h
theorem mx64 : IntKind.i64.max = 9223372036854775807 := rfl

/-! ### Numbers' octets -/
def be (p : Nat) : List UInt8 := if h : p = 0 then [] else be (p / 256) ++ [UInt8.ofNat p]
termination_by p
decreasing_by omega
theorem be_pos {p : Nat} (h : 0 < p) : be p = be (p / 256) ++ [UInt8.ofNat p] := by
  rw [be, dif_neg (by omega)]
theorem be_zero {p : Nat} (h : ¬ 0 < p) : be p = [] := by
  rw [be, dif_pos (by omega)]
theorem be_len : ∀ (m p : Nat), p < 256 ^ m → (be p).length ≤ m := by
  intro m
  induction m with
  | zero => intro p hp; simp at hp; subst hp; rw [be_zero (by omega)]; simp
  | succ m ih =>
    intro p hp
    by_cases h : 0 < p
    · rw [be_pos h]
      have := ih (p / 256) (by rw [Nat.pow_succ] at hp; exact Nat.div_lt_of_lt_mul (by omega))
      simp; exact this
    · rw [be_zero h]; simp
def place (n : Int) : Nat := (if n < 0 then 2 * (-(n + 1)) + 1 else 2 * n).toNat
def okI (n : Int) : Prop := -9223372036854775808 ≤ n ∧ n ≤ 9223372036854775807
theorem place_lt {n : Int} (h : okI n) : place n < 18446744073709551616 := by
  unfold place; unfold okI at h; split <;> omega
def intP (p : Nat) : List UInt8 := UInt8.ofNat (be p).length :: be p
def intL (n : Int) : List UInt8 := intP (place n)
def intB (n : Int) : ByteArray := mkB (intL n)
theorem intL_len {n : Int} (h : okI n) : (intL n).length ≤ 9 := by
  have := be_len 8 (place n) (by have := place_lt h; exact this)
  simp only [intL, intP, List.length_cons]; omega

theorem fd8 (x : Nat) : Int.fdiv (x : Int) (2 ^ (min 8 IntKind.u64.bits)) = ((x / 256 : Nat) : Int) := by
  have e : (2 : Int) ^ (min 8 IntKind.u64.bits) = 256 := rfl
  rw [e, Int.fdiv_eq_ediv_of_nonneg _ (by omega)]; omega
theorem gtN (x : Nat) : decide ((x : Int) > 0) = decide (0 < x) := by
  by_cases h : 0 < x <;> simp [h]
theorem wrapU8N (x : Nat) : IntKind.u8.wrap (x : Int) = ((x % 256 : Nat) : Int) := by
  simp [IntKind.wrap, IntKind.min, IntKind.max, IntKind.signed, IntKind.bits]
theorem of256 (x : Nat) : UInt8.ofNat (x % 256) = UInt8.ofNat x := by
  apply UInt8.toNat_inj.1
  simp
theorem iNotU {a : Nat} (h : a < 18446744073709551616) : iNot .u64 (a : Int) = ((18446744073709551615 - a : Nat) : Int) := by
  unfold iNot
  have e1 : BitVec.ofInt IntKind.u64.bits (if IntKind.u64.signed = true then -1 else IntKind.u64.max) = BitVec.allOnes 64 := by show _ = BitVec.allOnes 64; rfl
  have e2 : (BitVec.ofInt IntKind.u64.bits (a : Int)) = BitVec.ofNat 64 a := by show BitVec.ofInt 64 (a : Int) = _; simp
  have e3 : ((BitVec.allOnes 64) ^^^ (BitVec.ofNat 64 a)).toNat = 18446744073709551615 - a := by
    rw [BitVec.allOnes_xor, BitVec.toNat_not, BitVec.toNat_ofNat, Nat.mod_eq_of_lt (by simpa using h)]
  have e4 : (BitVec.ofInt IntKind.u64.bits (if IntKind.u64.signed = true then -1 else IntKind.u64.max) ^^^ BitVec.ofInt IntKind.u64.bits (a : Int)).toNat = 18446744073709551615 - a := by
    rw [e1, e2]; exact e3
  rw [e4, wrapU64 (by omega) (by omega)]
theorem iNotI {a : Nat} (h : a < 9223372036854775808) : iNot .i64 (a : Int) = -(a : Int) - 1 := by
  unfold iNot
  have e1 : BitVec.ofInt IntKind.i64.bits (if IntKind.i64.signed = true then -1 else IntKind.i64.max) = BitVec.allOnes 64 := by show _ = BitVec.allOnes 64; rfl
  have e2 : (BitVec.ofInt IntKind.i64.bits (a : Int)) = BitVec.ofNat 64 a := by show BitVec.ofInt 64 (a : Int) = _; simp
  have e3 : ((BitVec.allOnes 64) ^^^ (BitVec.ofNat 64 a)).toNat = 18446744073709551615 - a := by
    rw [BitVec.allOnes_xor, BitVec.toNat_not, BitVec.toNat_ofNat, Nat.mod_eq_of_lt (by omega)]
  have e4 : (BitVec.ofInt IntKind.i64.bits (if IntKind.i64.signed = true then -1 else IntKind.i64.max) ^^^ BitVec.ofInt IntKind.i64.bits (a : Int)).toNat = 18446744073709551615 - a := by
    rw [e1, e2]; exact e3
  rw [e4]
  simp [IntKind.wrap, IntKind.min, IntKind.max, IntKind.signed, IntKind.bits]; omega

theorem wrapU64n {n : Int} (h : okI n) : IntKind.u64.wrap n = if n < 0 then n + 18446744073709551616 else n := by
  unfold okI at h
  simp [IntKind.wrap, IntKind.min, IntKind.max, IntKind.signed, IntKind.bits]; split <;> omega
theorem place_pos {n : Int} (h : okI n) (h0 : ¬ n < 0) : IntKind.u64.wrap ((IntKind.u64.wrap n) * 2 ^ (min 1 IntKind.u64.bits)) = (place n : Int) := by
  have e : (2 : Int) ^ (min 1 IntKind.u64.bits) = 2 := rfl
  rw [wrapU64n h, if_neg h0, e]
  unfold okI at h
  rw [wrapU64 (by omega) (by omega)]
  unfold place; rw [if_neg h0]; omega
theorem place_neg {n : Int} (h : okI n) (h0 : n < 0) : iNot .u64 (IntKind.u64.wrap ((IntKind.u64.wrap n) * 2 ^ (min 1 IntKind.u64.bits))) = (place n : Int) := by
  have e : (2 : Int) ^ (min 1 IntKind.u64.bits) = 2 := rfl
  rw [wrapU64n h, if_pos h0, e]
  unfold okI at h
  have e2 : IntKind.u64.wrap ((n + 18446744073709551616) * 2) = (((2 * n + 18446744073709551616).toNat : Nat) : Int) := by
    simp [IntKind.wrap, IntKind.min, IntKind.max, IntKind.signed, IntKind.bits]; omega
  rw [e2, iNotU (by omega)]
  unfold place; rw [if_pos h0]; omega

theorem wire_Int_is {n : Int} (h : okI n) (k : ByteArray → Option α) : wire_Int n k = k (intB n) := by
  have hp := place_lt h
  unfold wire_Int intB intL
  have fin : ∀ P : Nat, P < 18446744073709551616 → ¬ 0 < P / 256 / 256 / 256 / 256 / 256 / 256 / 256 / 256 := by
    intro P hP; omega
  refine joinD_law (fun ds => hdI ds = (place n : Int)) ?_ ?_
  rotate_left
  · intro J hJ
    by_cases h0 : n < 0
    · rw [decide_eq_true h0]; exact hJ _ (place_neg h h0)
    · rw [decide_eq_false h0]; exact hJ _ (place_pos h h0)
  intro ds hds
  revert hds
  generalize hdI ds = z
  rintro rfl
  revert hp
  generalize place n = P
  intro hP
  simp only [fd8, gtN, wrapU8N, intP]
  by_cases h0 : 0 < P
  case neg => rw [decide_eq_false h0]; simp only [cond_false, be_zero h0, bytesI, mkB, List.map_cons, List.map_nil, Int.toNat_natCast, of256, List.nil_append, List.cons_append, List.length_cons, List.length_nil]; rfl
  by_cases h1 : 0 < P / 256
  case neg => rw [decide_eq_true h0, decide_eq_false h1]; simp only [cond_true, cond_false, be_pos h0, be_zero h1, bytesI, mkB, List.map_cons, List.map_nil, Int.toNat_natCast, of256, List.nil_append, List.cons_append, List.length_cons, List.length_nil]; rfl
  by_cases h2 : 0 < P / 256 / 256
  case neg => rw [decide_eq_true h0, decide_eq_true h1, decide_eq_false h2]; simp only [cond_true, cond_false, be_pos h0, be_pos h1, be_zero h2, bytesI, mkB, List.map_cons, List.map_nil, Int.toNat_natCast, of256, List.nil_append, List.cons_append, List.length_cons, List.length_nil]; rfl
  by_cases h3 : 0 < P / 256 / 256 / 256
  case neg => rw [decide_eq_true h0, decide_eq_true h1, decide_eq_true h2, decide_eq_false h3]; simp only [cond_true, cond_false, be_pos h0, be_pos h1, be_pos h2, be_zero h3, bytesI, mkB, List.map_cons, List.map_nil, Int.toNat_natCast, of256, List.nil_append, List.cons_append, List.length_cons, List.length_nil]; rfl
  by_cases h4 : 0 < P / 256 / 256 / 256 / 256
  case neg => rw [decide_eq_true h0, decide_eq_true h1, decide_eq_true h2, decide_eq_true h3, decide_eq_false h4]; simp only [cond_true, cond_false, be_pos h0, be_pos h1, be_pos h2, be_pos h3, be_zero h4, bytesI, mkB, List.map_cons, List.map_nil, Int.toNat_natCast, of256, List.nil_append, List.cons_append, List.length_cons, List.length_nil]; rfl
  by_cases h5 : 0 < P / 256 / 256 / 256 / 256 / 256
  case neg => rw [decide_eq_true h0, decide_eq_true h1, decide_eq_true h2, decide_eq_true h3, decide_eq_true h4, decide_eq_false h5]; simp only [cond_true, cond_false, be_pos h0, be_pos h1, be_pos h2, be_pos h3, be_pos h4, be_zero h5, bytesI, mkB, List.map_cons, List.map_nil, Int.toNat_natCast, of256, List.nil_append, List.cons_append, List.length_cons, List.length_nil]; rfl
  by_cases h6 : 0 < P / 256 / 256 / 256 / 256 / 256 / 256
  case neg => rw [decide_eq_true h0, decide_eq_true h1, decide_eq_true h2, decide_eq_true h3, decide_eq_true h4, decide_eq_true h5, decide_eq_false h6]; simp only [cond_true, cond_false, be_pos h0, be_pos h1, be_pos h2, be_pos h3, be_pos h4, be_pos h5, be_zero h6, bytesI, mkB, List.map_cons, List.map_nil, Int.toNat_natCast, of256, List.nil_append, List.cons_append, List.length_cons, List.length_nil]; rfl
  by_cases h7 : 0 < P / 256 / 256 / 256 / 256 / 256 / 256 / 256
  case neg => rw [decide_eq_true h0, decide_eq_true h1, decide_eq_true h2, decide_eq_true h3, decide_eq_true h4, decide_eq_true h5, decide_eq_true h6, decide_eq_false h7]; simp only [cond_true, cond_false, be_pos h0, be_pos h1, be_pos h2, be_pos h3, be_pos h4, be_pos h5, be_pos h6, be_zero h7, bytesI, mkB, List.map_cons, List.map_nil, Int.toNat_natCast, of256, List.nil_append, List.cons_append, List.length_cons, List.length_nil]; rfl
  rw [decide_eq_true h0, decide_eq_true h1, decide_eq_true h2, decide_eq_true h3, decide_eq_true h4, decide_eq_true h5, decide_eq_true h6, decide_eq_true h7, decide_eq_false (fin P hP)]
  simp only [cond_true, cond_false, be_pos h0, be_pos h1, be_pos h2, be_pos h3, be_pos h4, be_pos h5, be_pos h6, be_pos h7, be_zero (fin P hP), bytesI, mkB, List.map_cons, List.map_nil, Int.toNat_natCast, of256, List.nil_append, List.cons_append, List.length_cons, List.length_nil]
  rfl

theorem ref_place_is {n : Int} (h : okI n) (k : Int → Option α) : draymanref03_place n k = k (place n : Int) := by
  unfold draymanref03_place place
  unfold okI at h
  by_cases h0 : n < 0
  · rw [decide_eq_true h0, cond_true, wrap64 (x := n + 1) (by omega) (by omega), wrap64 (x := 0 - (n + 1)) (by omega) (by omega), wrapU64 (x := 0 - (n + 1)) (by omega) (by omega), wrapU64 (x := 2 * (0 - (n + 1))) (by omega) (by omega), wrapU64 (by omega) (by omega), if_pos h0]
    congr 1; omega
  · rw [decide_eq_false h0, cond_false, wrapU64 (x := n) (by omega) (by omega), wrapU64 (by omega) (by omega), if_neg h0]
    congr 1; omega
theorem bT1 (z : Int) : bytesT 1 (fun _ => (z, ())) = mkB [UInt8.ofNat z.toNat] := rfl
theorem tmodN (p : Nat) : Int.tmod (p : Int) 256 = ((p % 256 : Nat) : Int) := by
  rw [Int.tmod_eq_emod_of_nonneg (by omega)]; omega
theorem tdivN (p : Nat) : Int.tdiv (p : Int) 256 = ((p / 256 : Nat) : Int) := by
  rw [Int.tdiv_eq_ediv_of_nonneg (by omega)]; omega
theorem refInt_loop (k0 : ByteArray → Int → Option α) : ∀ (m N p x : Nat) (s : List UInt8), p < 256 ^ m → p < 18446744073709551616 → m < N → s.length + m ≤ 100 → x + m ≤ 100 →
    draymanref03_Int_l0_run draymanref03_place k0 N (p : Int) (mkB s) (x : Int) = k0 (mkB (be p ++ s)) ((x + (be p).length : Nat) : Int) := by
  intro m
  induction m with
  | zero =>
    intro N p x s hp _ hN _ _
    obtain ⟨N, rfl⟩ : ∃ M, N = M + 1 := ⟨N - 1, by omega⟩
    have : p = 0 := by simpa using hp
    subst this
    simp only [draymanref03_Int_l0_run, draymanref03_Int_l0_step, gtN, be_zero (show ¬ 0 < 0 by omega)]
    rfl
  | succ m ih =>
    intro N p x s hp h64 hN hs hx
    obtain ⟨N, rfl⟩ : ∃ M, N = M + 1 := ⟨N - 1, by omega⟩
    simp only [draymanref03_Int_l0_run, draymanref03_Int_l0_step, gtN]
    by_cases h : 0 < p
    · have e1 : IntKind.u64.wrap ((p / 256 : Nat) : Int) = ((p / 256 : Nat) : Int) := wrapU64 (by omega) (by omega)
      have hr := ih N (p / 256) (x + 1) ([UInt8.ofNat p] ++ s) (by rw [Nat.pow_succ] at hp; exact Nat.div_lt_of_lt_mul (by omega)) (by omega) (by omega) (by simp; omega) (by omega)
      simp only [decide_eq_true h, cond_true, tmodN, tdivN, bT1, wrapU8N, Int.toNat_natCast, of256, mkB_size, mkB_app, e1]
      rw [show Nat.ble ([UInt8.ofNat p].length + s.length) 9223372036854775807 = true from bleT (by simp; omega)]
      rw [wrap_succ (by omega), hr, be_pos h]
      simp only [List.append_assoc, List.length_append, List.length_cons, List.length_nil, cond_true]
      congr 1; omega
    · rw [decide_eq_false h, be_zero h]
      rfl
theorem ref_Int_is {n : Int} (h : okI n) (k : ByteArray → Option α) : draymanref03_Int n k = k (intB n) := by
  unfold draymanref03_Int draymanref03_Int_g
  rw [ref_place_is h]
  have hl := refInt_loop (α := α) (fun x6 x7 =>
        (cond (Nat.ble (((bytesT 1 (fun _ => ((IntKind.u8.wrap x7), ())))).size + (x6).size) 9223372036854775807)
          (k ((bytesT 1 (fun _ => ((IntKind.u8.wrap x7), ()))) ++ x6))
          none)) 8 1000 (place n) 0 [] (place_lt h) (place_lt h) (by omega) (by simp) (by omega)
  have e : (⟨#[]⟩ : ByteArray) = mkB [] := rfl
  rw [e]
  rw [show ((0 : Nat) : Int) = 0 from rfl] at hl
  refine hl.trans ?_
  have := be_len 8 (place n) (place_lt h)
  simp only [bT1, mkB_size, Nat.zero_add, List.append_nil, wrapU8N, Int.toNat_natCast, of256, mkB_app]
  rw [bleT (by simp; omega)]
  rfl

abbrev Ints := Seq (Int × Unit)
def il (s : Ints) : List Int := (toL s).map (·.1)
theorem il_length (s : Ints) : (il s).length = s.n := by simp [il, toL_length]
theorem il_drop (s : Ints) {j : Nat} (h : j < s.n) : (il s).drop j = (s.g j).1 :: (il s).drop (j + 1) := by
  simp only [il, ← List.map_drop, toL_drop s h, List.map_cons]
theorem il_end (s : Ints) {j : Nat} (h : s.n ≤ j) : (il s).drop j = [] := by
  simp only [il, ← List.map_drop, toL_end s h, List.map_nil]
def intsL (l : List Int) : List UInt8 := l.flatMap intL
def intsB (l : List Int) : ByteArray := mkB (intsL l)
theorem wire_Ints_loop (k0 : ByteArray → Option α) (s : Ints) (hn : s.n ≤ 900) (hok : ∀ i, i < s.n → okI (s.g i).1) : ∀ (m j N : Nat) (b : List UInt8), j + m = s.n → m < N → b.length ≤ 9 * j →
    wire_Ints_l0_run wire_Int k0 N s (s.n : Int) (j : Int) (mkB b) = k0 (mkB (b ++ intsL ((il s).drop j))) := by
  intro m
  induction m with
  | zero =>
    intro j N b hj hN hb
    obtain ⟨N, rfl⟩ : ∃ M, N = M + 1 := ⟨N - 1, by omega⟩
    have : ¬ ((j : Int) < (s.n : Int)) := by omega
    simp only [wire_Ints_l0_run, wire_Ints_l0_step, ltF this, cond_false, il_end s (show s.n ≤ j by omega), intsL, List.flatMap_nil, List.append_nil]
  | succ m ih =>
    intro j N b hj hN hb
    obtain ⟨N, rfl⟩ : ∃ M, N = M + 1 := ⟨N - 1, by omega⟩
    have h1 : (j : Int) < (s.n : Int) := by omega
    have hk := hok j (by omega)
    have hl := intL_len hk
    have hr := ih (j + 1) N (b ++ intL (s.g j).1) (by omega) (by omega) (by simp; omega)
    simp only [wire_Ints_l0_run, wire_Ints_l0_step, ltT h1, nn, Bool.and_self, cond_true, inb (show j < s.n by omega), toNatC, il_drop s (show j < s.n by omega), wrap_succ (show j < 9223372036854775807 by omega), wire_Int_is hk, intB, mkB_size, mkB_app]
    rw [decide_eq_true (by omega), cond_true, hr]
    simp only [intsL, List.flatMap_cons, List.append_assoc]
theorem wire_Ints_is (s : Ints) (hn : s.n ≤ 900) (hok : ∀ i, i < s.n → okI (s.g i).1) (k : ByteArray → Option α) : wire_Ints s k = k (intsB (il s)) := by
  have := wire_Ints_loop (fun b7 => k b7) s hn hok s.n 0 1000 [] (by omega) (by omega) (by simp)
  unfold wire_Ints wire_Ints_g
  rw [B_nil]
  rw [show ((0 : Nat) : Int) = 0 from rfl, List.drop_zero, List.nil_append] at this
  exact this
theorem ref_Ints_loop (k0 : ByteArray → Option α) (s : Ints) (hn : s.n ≤ 900) (hok : ∀ i, i < s.n → okI (s.g i).1) : ∀ (m j N : Nat) (b : List UInt8), j + m = s.n → m < N → b.length ≤ 9 * j →
    draymanref03_Ints_l0_run draymanref03_Int k0 N s (mkB b) (j : Int) = k0 (mkB (b ++ intsL ((il s).drop j))) := by
  intro m
  induction m with
  | zero =>
    intro j N b hj hN hb
    obtain ⟨N, rfl⟩ : ∃ M, N = M + 1 := ⟨N - 1, by omega⟩
    have : ¬ ((j : Int) < (s.n : Int)) := by omega
    simp only [draymanref03_Ints_l0_run, draymanref03_Ints_l0_step, ltF this, cond_false, il_end s (show s.n ≤ j by omega), intsL, List.flatMap_nil, List.append_nil]
  | succ m ih =>
    intro j N b hj hN hb
    obtain ⟨N, rfl⟩ : ∃ M, N = M + 1 := ⟨N - 1, by omega⟩
    have h1 : (j : Int) < (s.n : Int) := by omega
    have hk := hok j (by omega)
    have hl := intL_len hk
    have hr := ih (j + 1) N (b ++ intL (s.g j).1) (by omega) (by omega) (by simp; omega)
    rw [draymanref03_Ints_l0_run]; unfold draymanref03_Ints_l0_step
    simp only [ltT h1, nn, Bool.and_self, cond_true, inb (show j < s.n by omega), toNatC]
    rw [ref_Int_is hk]
    have hmx : Nat.ble ((mkB b).size + (intB (s.g j).1).size) 9223372036854775807 = true := bleT (by rw [intB, mkB_size, mkB_size]; omega)
    rw [hmx, cond_true, wrap_succ (show j < 9223372036854775807 by omega), intB, mkB_app, hr]
    simp only [il_drop s (show j < s.n by omega), intsL, List.flatMap_cons, List.append_assoc]
theorem ref_Ints_is (s : Ints) (hn : s.n ≤ 900) (hok : ∀ i, i < s.n → okI (s.g i).1) (k : ByteArray → Option α) : draymanref03_Ints s k = k (intsB (il s)) := by
  have := ref_Ints_loop (fun b7 => k b7) s hn hok s.n 0 1000 [] (by omega) (by omega) (by simp)
  unfold draymanref03_Ints draymanref03_Ints_g
  rw [B_nil]
  rw [show ((0 : Nat) : Int) = 0 from rfl, List.drop_zero, List.nil_append] at this
  exact this
theorem flag_is (b : Bool) (k : ByteArray → Option α) : wire_Flag b k = k (mkB [if b then 1 else 0]) := by cases b <;> rfl
theorem ref_flag_is (b : Bool) (k : ByteArray → Option α) : draymanref03_Flag b k = k (mkB [if b then 1 else 0]) := by cases b <;> rfl

/-! ### Readers -/
def val (a : Nat) (l : List UInt8) : Nat := l.foldl (fun a c => a * 256 + c.toNat) a
theorem val_cons (a : Nat) (c : UInt8) (l : List UInt8) : val a (c :: l) = val (a * 256 + c.toNat) l := rfl
theorem val_lt : ∀ (l : List UInt8) (a : Nat), val a l < (a + 1) * 256 ^ l.length
  | [], a => by simp [val]
  | c :: l, a => by
    rw [val_cons]
    have h1 := val_lt l (a * 256 + c.toNat)
    have h2 : c.toNat < 256 := c.toNat_lt
    have h3 : (a * 256 + c.toNat + 1) * 256 ^ l.length ≤ ((a + 1) * 256) * 256 ^ l.length := Nat.mul_le_mul_right _ (by omega)
    rw [List.length_cons, Nat.pow_succ, Nat.mul_comm (256 ^ l.length) 256, ← Nat.mul_assoc]
    omega
def ofP (p : Nat) : Int := if p % 2 = 1 then -((p / 2 : Nat) : Int) - 1 else ((p / 2 : Nat) : Int)
def numL : List UInt8 → Option (Int × Nat)
  | [] => none
  | c :: r => if 8 < c.toNat ∨ r.length < c.toNat ∨ (0 < c.toNat ∧ (r[0]?.getD 0).toNat = 0) then none else some (ofP (val 0 (r.take c.toNat)), 1 + c.toNat)

theorem numL_cons (c : UInt8) (r : List UInt8) : numL (c :: r) = if 8 < c.toNat ∨ r.length < c.toNat ∨ (0 < c.toNat ∧ (r[0]?.getD 0).toNat = 0) then none else some (ofP (val 0 (r.take c.toNat)), 1 + c.toNat) := rfl
theorem iOrU {p c : Nat} (h : p * 256 + c < 18446744073709551616) (hc : c < 256) : iOr .u64 (IntKind.u64.wrap ((p : Int) * 2 ^ (min 8 IntKind.u64.bits))) (IntKind.u64.wrap (c : Int)) = ((p * 256 + c : Nat) : Int) := by
  have h1 : p * 256 < 18446744073709551616 := Nat.lt_of_le_of_lt (Nat.le_add_right _ _) h
  have h2 : c < 18446744073709551616 := Nat.lt_of_le_of_lt (Nat.le_add_left _ _) h
  have e : (2 : Int) ^ (min 8 IntKind.u64.bits) = 256 := rfl
  have e1 : IntKind.u64.wrap ((p : Int) * 2 ^ (min 8 IntKind.u64.bits)) = ((p * 256 : Nat) : Int) := by rw [e, wrapU64 (by omega) (by omega)]; omega
  have e2 : IntKind.u64.wrap (c : Int) = (c : Int) := wrapU64 (by omega) (by omega)
  rw [e1, e2]
  unfold iOr
  have e3 : (BitVec.ofInt IntKind.u64.bits ((p * 256 : Nat) : Int) ||| BitVec.ofInt IntKind.u64.bits (c : Int)).toNat = p * 256 + c := by
    show (BitVec.ofInt 64 ((p * 256 : Nat) : Int) ||| BitVec.ofInt 64 (c : Int)).toNat = _
    rw [BitVec.ofInt_natCast, BitVec.ofInt_natCast, BitVec.toNat_or, BitVec.toNat_ofNat, BitVec.toNat_ofNat, Nat.mod_eq_of_lt h1, Nat.mod_eq_of_lt h2]
    have := Nat.shiftLeft_add_eq_or_of_lt (i := 8) (b := c) (by simpa using hc) p
    rw [Nat.shiftLeft_eq] at this
    exact this.symm
  rw [e3, wrapU64 (by omega) (by omega)]
theorem iAnd1 {a : Nat} (h : a < 18446744073709551616) : iAnd .u64 (a : Int) 1 = ((a % 2 : Nat) : Int) := by
  unfold iAnd
  have e3 : (BitVec.ofInt IntKind.u64.bits (a : Int) &&& BitVec.ofInt IntKind.u64.bits 1).toNat = a % 2 := by
    show (BitVec.ofInt 64 (a : Int) &&& BitVec.ofInt 64 ((1 : Nat) : Int)).toNat = _
    rw [BitVec.ofInt_natCast, BitVec.ofInt_natCast, BitVec.toNat_and, BitVec.toNat_ofNat, BitVec.toNat_ofNat, Nat.mod_eq_of_lt (by simpa using h)]
    exact Nat.and_one_is_mod a
  rw [e3, wrapU64 (by omega) (by omega)]
theorem fd1 (x : Nat) : Int.fdiv (x : Int) (2 ^ (min 1 IntKind.u64.bits)) = ((x / 2 : Nat) : Int) := by
  have e : (2 : Int) ^ (min 1 IntKind.u64.bits) = 2 := rfl
  rw [e, Int.fdiv_eq_ediv_of_nonneg _ (by omega)]; omega

theorem num_loop (k0 : Int → Int → Ints → Option α) (x2 : Int) (b : ByteArray) (hb : b.size < 900) : ∀ (m j N p : Nat), j + m = b.size → m < N → (p + 1) * 256 ^ m ≤ 18446744073709551616 →
    wire_number_l0_run k0 N x2 (p : Int) (b.size : Int) (j : Int) ⟨false, b.size, byteG b⟩ = k0 x2 ((val p (b.toList.drop j) : Nat) : Int) ⟨false, b.size, byteG b⟩ := by
  intro m
  induction m with
  | zero =>
    intro j N p hj hN hp
    obtain ⟨N, rfl⟩ : ∃ M, N = M + 1 := ⟨N - 1, by omega⟩
    have : ¬ ((j : Int) < (b.size : Int)) := by omega
    rw [wire_number_l0_run]; unfold wire_number_l0_step
    rw [ltF this, cond_false, List.drop_of_length_le (by rw [← L_size]; omega)]
    rfl
  | succ m ih =>
    intro j N p hj hN hp
    obtain ⟨N, rfl⟩ : ∃ M, N = M + 1 := ⟨N - 1, by omega⟩
    have h1 : (j : Int) < (b.size : Int) := by omega
    have hjl : j < b.toList.length := by rw [← L_size]; omega
    have hc : (b.toList[j]).toNat < 256 := (b.toList[j]).toNat_lt
    have hd : b.toList.drop j = b.toList[j] :: b.toList.drop (j + 1) := List.drop_eq_getElem_cons hjl
    have hg : (byteG b j).1 = ((b.toList[j]).toNat : Int) := by
      show byteAt b (j : Int) = _
      rw [byteAt_nat, List.getElem?_eq_getElem hjl, Option.getD_some]
    have h4 : (p * 256 + 256) * 256 ^ m ≤ 18446744073709551616 := by
      rw [Nat.pow_succ, Nat.mul_comm (256 ^ m) 256, ← Nat.mul_assoc, Nat.add_mul] at hp
      simpa using hp
    have h5 : p * 256 + 256 ≤ 18446744073709551616 := Nat.le_trans (Nat.le_mul_of_pos_right _ (Nat.pow_pos (by omega))) h4
    have h6 : (p * 256 + (b.toList[j]).toNat + 1) * 256 ^ m ≤ 18446744073709551616 := Nat.le_trans (Nat.mul_le_mul_right _ (by omega)) h4
    have hblt : Nat.blt j b.size = true := by rw [Nat.blt_eq]; omega
    have hr := ih (j + 1) N (p * 256 + (b.toList[j]).toNat) (by omega) (by omega) h6
    rw [wire_number_l0_run]; unfold wire_number_l0_step
    simp only [ltT h1, nn, Bool.and_self, cond_true, toNatC, hblt, hg]
    rw [iOrU (by omega) hc, wrap_succ (by omega), hr, hd, val_cons]

theorem byte0 {s : ByteArray} {c : UInt8} {r : List UInt8} (h : s.toList = c :: r) : byteAt s 0 = (c.toNat : Int) := by
  have := byteAt_nat s 0
  rw [h] at this
  exact this
theorem byte1 {s : ByteArray} {c : UInt8} {r : List UInt8} (h : s.toList = c :: r) : byteAt s 1 = ((r[0]?.getD 0).toNat : Int) := by
  have := byteAt_nat s 1
  rw [h] at this
  exact this
theorem eqN {a b : Nat} : ((a : Int) == (b : Int)) = decide (a = b) := by
  by_cases h : a = b
  · simp [h]
  · have : ¬ (a : Int) = (b : Int) := by omega
    simp [h, this]

theorem wire_number_is (s : ByteArray) (hs : s.size ≤ 4000000000000) (k : Int → Int → Option α) : wire_number s k = (match numL s.toList with | none => k 0 0 | some (n, m) => k n (m : Int)) := by
  unfold wire_number
  rw [B_nil, toL_mkB]
  cases hl : s.toList with
  | nil => rfl
  | cons c r =>
    have hz : s.size = r.length + 1 := by rw [L_size, hl]; rfl
    have hc : c.toNat < 256 := c.toNat_lt
    have e0 : (!(c :: r == ([] : List UInt8))) = true := rfl
    have e1 : decide ((0 : Int) < (s.size : Int)) = true := decide_eq_true (by omega)
    rw [e0, cond_true, e1, cond_true, byte0 hl, byte1 hl, cond_true, cond_true]
    have ew : IntKind.i64.wrap (c.toNat : Int) = (c.toNat : Int) := wrap64 (by omega) (by omega)
    rw [ew]
    by_cases h8 : 8 < c.toNat
    · rw [decide_eq_true (show (c.toNat : Int) > 8 by omega)]
      simp only [numL_cons, h8, true_or, if_true]
      rfl
    rw [decide_eq_false (show ¬ (c.toNat : Int) > 8 by omega)]
    simp only [Bool.not_false, cond_true]
    by_cases hr : r.length < c.toNat
    · rw [decide_eq_true (show (s.size : Int) ≤ (c.toNat : Int) by omega)]
      simp only [numL_cons, hr, true_or, or_true, if_true]
      rfl
    rw [decide_eq_false (show ¬ (s.size : Int) ≤ (c.toNat : Int) by omega)]
    simp only [Bool.not_false, cond_true]
    have ew2 : IntKind.i64.wrap (1 + (c.toNat : Int)) = ((1 + c.toNat : Nat) : Int) := by rw [wrap64 (by omega) (by omega)]; omega
    rw [ew2, Int.toNat_natCast]
    have hbl : (s.extract 1 (1 + c.toNat)).toList = r.take c.toNat := by
      rw [L_extract, hl, Nat.add_comm, List.take_succ_cons, List.drop_one, List.tail_cons]
    have hbs : (s.extract 1 (1 + c.toNat)).size = c.toNat := by rw [L_size, hbl, List.length_take]; omega
    have hchk : (((decide ((0 : Int) ≤ ((1 + c.toNat : Nat) : Int)) && decide (((1 + c.toNat : Nat) : Int) ≤ (s.size : Int))) && true) && decide ((1 : Int) ≤ ((1 + c.toNat : Nat) : Int))) = true := by
      simp; omega
    have hval : val 0 (r.take c.toNat) < 18446744073709551616 := by
      have h := val_lt (r.take c.toNat) 0
      have h2 : (r.take c.toNat).length ≤ 8 := by rw [List.length_take]; omega
      have h3 : 256 ^ (r.take c.toNat).length ≤ 256 ^ 8 := Nat.pow_le_pow_right (by omega) h2
      have h4 : 256 ^ 8 = 18446744073709551616 := by decide
      omega
    have loop := fun (k0 : Int → Int → Ints → Option α) => num_loop k0 ((1 + c.toNat : Nat) : Int) (s.extract 1 (1 + c.toNat)) (by rw [hbs]; omega) c.toNat 0 1000 0 (by rw [hbs]; omega) (by omega) (by
      have h3 : 256 ^ c.toNat ≤ 256 ^ 8 := Nat.pow_le_pow_right (by omega) (by omega)
      have h4 : 256 ^ 8 = 18446744073709551616 := by decide
      omega)
    rw [show ((0 : Nat) : Int) = 0 from rfl, List.drop_zero, hbl] at loop
    rw [hchk, cond_true]
    simp only [loop, cond_true]
    rw [iAnd1 hval, fd1, wrap64 (x := ((val 0 (List.take c.toNat r) / 2 : Nat) : Int)) (by omega) (by omega), iNotI (by omega)]
    have hfin : (cond ((((val 0 (r.take c.toNat) % 2 : Nat) : Int)) == 1) (k (-((val 0 (r.take c.toNat) / 2 : Nat) : Int) - 1) ((1 + c.toNat : Nat) : Int)) (k ((val 0 (r.take c.toNat) / 2 : Nat) : Int) ((1 + c.toNat : Nat) : Int))) = k (ofP (val 0 (r.take c.toNat))) ((1 + c.toNat : Nat) : Int) := by
      unfold ofP
      by_cases ho : val 0 (r.take c.toNat) % 2 = 1
      · rw [if_pos ho, ho]; rfl
      · rw [if_neg ho]
        have : val 0 (r.take c.toNat) % 2 = 0 := by omega
        rw [this]; rfl
    rw [hfin]
    by_cases h0 : 0 < c.toNat
    · rw [decide_eq_true (show (c.toNat : Int) > 0 by omega), cond_true, decide_eq_true (show (1 : Int) < (s.size : Int) by omega), cond_true]
      by_cases hz0 : (r[0]?.getD 0).toNat = 0
      · rw [hz0]
        simp only [numL_cons, h0, hz0, true_and, or_true, if_true]
        rfl
      · have : (((r[0]?.getD 0).toNat : Int) == 0) = false := by simpa using hz0
        rw [this, cond_false]
        have hnl : numL (c :: r) = some (ofP (val 0 (r.take c.toNat)), 1 + c.toNat) := by
          rw [numL_cons, if_neg (by simp only [h8, hr, hz0, and_false, or_false, not_false_eq_true])]
        rw [hnl]
    · rw [decide_eq_false (show ¬ (c.toNat : Int) > 0 by omega), cond_false]
      have hnl : numL (c :: r) = some (ofP (val 0 (r.take c.toNat)), 1 + c.toNat) := by
        rw [numL_cons, if_neg (by simp only [h8, hr, h0, false_and, or_false, not_false_eq_true])]
      rw [hnl]

abbrev Rdr := ByteArray × Bool × Unit
def badR : Rdr := (mkB [], false, ())
def rdInt (low high : Int) (x : Rdr) : Int × Rdr :=
  match x.2.1, numL x.1.toList with
  | true, some (n, m) => if low ≤ n ∧ n ≤ high then (n, (x.1.extract m x.1.size, true, ())) else (0, badR)
  | _, _ => (0, badR)
theorem numL_le {l : List UInt8} {n : Int} {m : Nat} (h : numL l = some (n, m)) : 1 ≤ m ∧ m ≤ 9 ∧ m ≤ l.length ∧ okI n := by
  cases l with
  | nil => cases h
  | cons c r =>
    rw [numL_cons] at h
    split at h
    · cases h
    rename_i hc
    simp only [Option.some.injEq, Prod.mk.injEq] at h
    obtain ⟨rfl, rfl⟩ := h
    have hv : val 0 (r.take c.toNat) < 18446744073709551616 := by
      have h := val_lt (r.take c.toNat) 0
      have h2 : (r.take c.toNat).length ≤ 8 := by rw [List.length_take]; omega
      have h3 : 256 ^ (r.take c.toNat).length ≤ 256 ^ 8 := Nat.pow_le_pow_right (by omega) h2
      have h4 : 256 ^ 8 = 18446744073709551616 := by decide
      omega
    refine ⟨by omega, by omega, by simp only [List.length_cons]; omega, ?_⟩
    unfold okI ofP
    split <;> omega
theorem take_is {n : Nat} {x : Rdr} (h : n ≤ x.1.size) (k : ByteArray → Rdr → Option α) : wire_Reader_take (n : Int) x k = k (x.1.extract 0 n) (x.1.extract n x.1.size, x.2.1, ()) := by
  unfold wire_Reader_take
  have : (decide ((0 : Int) ≤ (n : Int)) && decide ((n : Int) ≤ (x.1.size : Int))) = true := by simp; omega
  rw [this, cond_true, cond_true, Int.toNat_natCast]
theorem rInt_is (low high : Int) (x : Rdr) (hs : x.1.size ≤ 4000000000000) (k : Int → Rdr → Option α) : wire_Reader_Int low high x k = k (rdInt low high x).1 (rdInt low high x).2 := by
  obtain ⟨s, g, ⟨⟩⟩ := x
  unfold wire_Reader_Int wire_Reader_Int_g rdInt
  cases g with
  | false => rfl
  | true =>
    simp only [Bool.not_true, Bool.not_false, cond_true, cond_false, wire_number_is s hs, B_nil]
    cases hn : numL s.toList with
    | none => rfl
    | some p =>
      obtain ⟨n, m⟩ := p
      obtain ⟨h1, h2, h3, _⟩ := numL_le hn
      rw [← L_size] at h3
      simp only
      rw [decide_eq_true (show (m : Int) > 0 by omega), cond_true]
      by_cases hl : low ≤ n
      · rw [decide_eq_true hl, cond_true]
        by_cases hh : n ≤ high
        · rw [decide_eq_true hh, if_pos ⟨hl, hh⟩]
          simp only [Bool.not_true, cond_false]
          rw [take_is (x := (s, true, ())) h3]
        · rw [decide_eq_false hh, if_neg (fun h => hh h.2)]
          rfl
      · rw [decide_eq_false hl, cond_false, if_neg (fun h => hl h.1)]
        rfl

def flip (x : Rdr) : Rdr := (x.1, !x.2.1, ())
theorem ref_num_loop (fl : draymanref03_Reader_fails_T α) (k0 : Int → Int → Int → Int → Rdr → Option α) (x5 x6 : Int) (s : ByteArray) (g : Bool) (K : Nat) (hK : K ≤ s.size) (h9 : K ≤ 9) : ∀ (m j N p : Nat), j + m = K → m < N → (p + 1) * 256 ^ m ≤ 18446744073709551616 →
    draymanref03_Reader_Int_l0_run fl k0 N x5 x6 (K : Int) (p : Int) (j : Int) (s, g, ()) = k0 x5 x6 (K : Int) ((val p ((s.toList.take K).drop j) : Nat) : Int) (s, g, ()) := by
  intro m
  induction m with
  | zero =>
    intro j N p hj hN hp
    obtain ⟨N, rfl⟩ : ∃ M, N = M + 1 := ⟨N - 1, by omega⟩
    have : ¬ ((j : Int) < (K : Int)) := by omega
    rw [draymanref03_Reader_Int_l0_run]; unfold draymanref03_Reader_Int_l0_step
    rw [ltF this, cond_false, List.drop_of_length_le (by rw [List.length_take]; omega)]
    rfl
  | succ m ih =>
    intro j N p hj hN hp
    obtain ⟨N, rfl⟩ : ∃ M, N = M + 1 := ⟨N - 1, by omega⟩
    have h1 : (j : Int) < (K : Int) := by omega
    have hsz : s.toList.length = s.size := (L_size s).symm
    have hjl : j < (s.toList.take K).length := by rw [List.length_take]; omega
    have hjs : j < s.toList.length := by omega
    have hc : (s.toList[j]).toNat < 256 := (s.toList[j]).toNat_lt
    have hd : (s.toList.take K).drop j = s.toList[j] :: (s.toList.take K).drop (j + 1) := by
      rw [List.drop_eq_getElem_cons hjl, List.getElem_take]
    have hg : byteAt s (j : Int) = ((s.toList[j]).toNat : Int) := by
      rw [byteAt_nat, List.getElem?_eq_getElem hjs, Option.getD_some]
    have h4 : (p * 256 + 256) * 256 ^ m ≤ 18446744073709551616 := by
      rw [Nat.pow_succ, Nat.mul_comm (256 ^ m) 256, ← Nat.mul_assoc, Nat.add_mul] at hp
      simpa using hp
    have h5 : p * 256 + 256 ≤ 18446744073709551616 := Nat.le_trans (Nat.le_mul_of_pos_right _ (Nat.pow_pos (by omega))) h4
    have h6 : (p * 256 + (s.toList[j]).toNat + 1) * 256 ^ m ≤ 18446744073709551616 := Nat.le_trans (Nat.mul_le_mul_right _ (by omega)) h4
    have hr := ih (j + 1) N (p * 256 + (s.toList[j]).toNat) (by omega) (by omega) h6
    have hin : (decide ((0 : Int) ≤ (j : Int)) && decide ((j : Int) < (s.size : Int))) = true := by simp; omega
    have hw : IntKind.u64.wrap (IntKind.u64.wrap ((p : Int) * 256) + IntKind.u64.wrap ((s.toList[j]).toNat : Int)) = ((p * 256 + (s.toList[j]).toNat : Nat) : Int) := by
      rw [wrapU64 (x := (p : Int) * 256) (by omega) (by omega), wrapU64 (x := ((s.toList[j]).toNat : Int)) (by omega) (by omega), wrapU64 (by omega) (by omega)]
      omega
    rw [draymanref03_Reader_Int_l0_run]; unfold draymanref03_Reader_Int_l0_step
    simp only [ltT h1, hin, cond_true, hg, hw]
    rw [wrap_succ (by omega), hr, hd, val_cons]

theorem eq0N (n : Nat) : ((n : Int) == 0) = decide (n = 0) := by
  by_cases h : n = 0
  · subst h; rfl
  · have : ¬ (n : Int) = 0 := by omega
    simp [h]
/-- What lies behind both ways, told at each. -/
theorem ref_rInt_unj (draymanref03_Reader_fails : draymanref03_Reader_fails_T α) (x1 : Int) (x2 : Int) (x3 : ByteArray × Bool × Unit) (k : Int → (ByteArray × Bool × Unit) → Option α) : draymanref03_Reader_Int_g draymanref03_Reader_fails x1 x2 x3 k =
  (cond (!x3.2.1)
    (cond (!((x3.1.size : Int) == 0))
      (cond (decide ((0 : Int) < (x3.1.size : Int)))
        (cond (!(decide ((byteAt x3.1 0) > 8)))
          (cond (decide ((0 : Int) < (x3.1.size : Int)))
            (cond (!(decide ((x3.1.size : Int) < (IntKind.i64.wrap (1 + (IntKind.i64.wrap (byteAt x3.1 0)))))))
              (cond (decide ((0 : Int) < (x3.1.size : Int)))
                (cond (decide ((byteAt x3.1 0) > 0))
                  (cond (decide ((1 : Int) < (x3.1.size : Int)))
                    (cond ((byteAt x3.1 1) == 0)
                      (draymanref03_Reader_fails x3 fun r4 =>
                        (k 0 r4))
                      (cond (decide ((0 : Int) < (x3.1.size : Int)))
                        (draymanref03_Reader_Int_l0_run draymanref03_Reader_fails
                          (fun x11 x12 x13 x14 x15 =>
                            (cond ((Int.tmod x14 2) == 1)
                              (cond (!(decide ((IntKind.i64.wrap ((IntKind.i64.wrap (0 - (IntKind.i64.wrap (IntKind.u64.wrap (Int.tdiv x14 2))))) - 1)) < x11)))
                                (cond (decide ((IntKind.i64.wrap ((IntKind.i64.wrap (0 - (IntKind.i64.wrap (IntKind.u64.wrap (Int.tdiv x14 2))))) - 1)) > x12))
                                  (draymanref03_Reader_fails x15 fun r16 =>
                                    (k 0 r16))
                                  (cond ((decide ((0 : Int) ≤ x13)) && (decide (x13 ≤ (x15.1.size : Int))))
                                    (k (IntKind.i64.wrap ((IntKind.i64.wrap (0 - (IntKind.i64.wrap (IntKind.u64.wrap (Int.tdiv x14 2))))) - 1)) ((x15.1.extract x13.toNat x15.1.size), x15.2.1, ()))
                                    none))
                                (draymanref03_Reader_fails x15 fun r17 =>
                                  (k 0 r17)))
                              (cond (!(decide ((IntKind.i64.wrap (IntKind.u64.wrap (Int.tdiv x14 2))) < x11)))
                                (cond (decide ((IntKind.i64.wrap (IntKind.u64.wrap (Int.tdiv x14 2))) > x12))
                                  (draymanref03_Reader_fails x15 fun r18 =>
                                    (k 0 r18))
                                  (cond ((decide ((0 : Int) ≤ x13)) && (decide (x13 ≤ (x15.1.size : Int))))
                                    (k (IntKind.i64.wrap (IntKind.u64.wrap (Int.tdiv x14 2))) ((x15.1.extract x13.toNat x15.1.size), x15.2.1, ()))
                                    none))
                                (draymanref03_Reader_fails x15 fun r19 =>
                                  (k 0 r19)))))
                          1000 x1 x2 (IntKind.i64.wrap (1 + (IntKind.i64.wrap (byteAt x3.1 0)))) 0 1 x3)
                        none))
                    none)
                  (cond (decide ((0 : Int) < (x3.1.size : Int)))
                    (draymanref03_Reader_Int_l0_run draymanref03_Reader_fails
                      (fun x20 x21 x22 x23 x24 =>
                        (cond ((Int.tmod x23 2) == 1)
                          (cond (!(decide ((IntKind.i64.wrap ((IntKind.i64.wrap (0 - (IntKind.i64.wrap (IntKind.u64.wrap (Int.tdiv x23 2))))) - 1)) < x20)))
                            (cond (decide ((IntKind.i64.wrap ((IntKind.i64.wrap (0 - (IntKind.i64.wrap (IntKind.u64.wrap (Int.tdiv x23 2))))) - 1)) > x21))
                              (draymanref03_Reader_fails x24 fun r25 =>
                                (k 0 r25))
                              (cond ((decide ((0 : Int) ≤ x22)) && (decide (x22 ≤ (x24.1.size : Int))))
                                (k (IntKind.i64.wrap ((IntKind.i64.wrap (0 - (IntKind.i64.wrap (IntKind.u64.wrap (Int.tdiv x23 2))))) - 1)) ((x24.1.extract x22.toNat x24.1.size), x24.2.1, ()))
                                none))
                            (draymanref03_Reader_fails x24 fun r26 =>
                              (k 0 r26)))
                          (cond (!(decide ((IntKind.i64.wrap (IntKind.u64.wrap (Int.tdiv x23 2))) < x20)))
                            (cond (decide ((IntKind.i64.wrap (IntKind.u64.wrap (Int.tdiv x23 2))) > x21))
                              (draymanref03_Reader_fails x24 fun r27 =>
                                (k 0 r27))
                              (cond ((decide ((0 : Int) ≤ x22)) && (decide (x22 ≤ (x24.1.size : Int))))
                                (k (IntKind.i64.wrap (IntKind.u64.wrap (Int.tdiv x23 2))) ((x24.1.extract x22.toNat x24.1.size), x24.2.1, ()))
                                none))
                            (draymanref03_Reader_fails x24 fun r28 =>
                              (k 0 r28)))))
                      1000 x1 x2 (IntKind.i64.wrap (1 + (IntKind.i64.wrap (byteAt x3.1 0)))) 0 1 x3)
                    none))
                none)
              (draymanref03_Reader_fails x3 fun r29 =>
                (k 0 r29)))
            none)
          (draymanref03_Reader_fails x3 fun r30 =>
            (k 0 r30)))
        none)
      (draymanref03_Reader_fails x3 fun r31 =>
        (k 0 r31)))
    (draymanref03_Reader_fails x3 fun r32 =>
      (k 0 r32))) := rfl
theorem ref_rInt_is (low high : Int) (x : Rdr) (hs : x.1.size ≤ 4000000000000) (k : Int → Rdr → Option α) : draymanref03_Reader_Int low high (flip x) k = k (rdInt low high x).1 (flip (rdInt low high x).2) := by
  obtain ⟨s, g, ⟨⟩⟩ := x
  have hbad : flip badR = ((⟨#[]⟩ : ByteArray), true, ()) := rfl
  unfold draymanref03_Reader_Int
  rw [ref_rInt_unj]
  unfold draymanref03_Reader_fails rdInt flip
  cases g with
  | false => rfl
  | true =>
    simp only [Bool.not_true, Bool.not_false, cond_true]
    cases hl : s.toList with
    | nil =>
      have hz : s.size = 0 := by rw [L_size, hl]; rfl
      rw [hz]
      rfl
    | cons c r =>
      have hz : s.size = r.length + 1 := by rw [L_size, hl]; rfl
      have hc : c.toNat < 256 := c.toNat_lt
      have e0 : (!((s.size : Int) == 0)) = true := by rw [eq0N, hz]; rfl
      have e1 : decide ((0 : Int) < (s.size : Int)) = true := decide_eq_true (by omega)
      have ew : IntKind.i64.wrap (c.toNat : Int) = (c.toNat : Int) := wrap64 (by omega) (by omega)
      have ew2 : IntKind.i64.wrap (1 + (c.toNat : Int)) = ((1 + c.toNat : Nat) : Int) := by rw [wrap64 (by omega) (by omega)]; omega
      rw [e0, cond_true, e1, byte0 hl, byte1 hl, ew, ew2]
      simp only [cond_true]
      by_cases h8 : 8 < c.toNat
      · rw [decide_eq_true (show (c.toNat : Int) > 8 by omega)]
        simp only [numL_cons, h8, true_or, if_true]
        rfl
      rw [decide_eq_false (show ¬ (c.toNat : Int) > 8 by omega)]
      simp only [Bool.not_false, cond_true]
      by_cases hr : r.length < c.toNat
      · rw [decide_eq_true (show (s.size : Int) < ((1 + c.toNat : Nat) : Int) by omega)]
        simp only [numL_cons, hr, true_or, or_true, if_true]
        rfl
      rw [decide_eq_false (show ¬ (s.size : Int) < ((1 + c.toNat : Nat) : Int) by omega)]
      simp only [Bool.not_false, cond_true]
      have hval : val 0 (r.take c.toNat) < 18446744073709551616 := by
        have h := val_lt (r.take c.toNat) 0
        have h2 : (r.take c.toNat).length ≤ 8 := by rw [List.length_take]; omega
        have h3 : 256 ^ (r.take c.toNat).length ≤ 256 ^ 8 := Nat.pow_le_pow_right (by omega) h2
        have h4 : 256 ^ 8 = 18446744073709551616 := by decide
        omega
      have loop := fun (k0 : Int → Int → Int → Int → Rdr → Option α) => ref_num_loop (fun x1 k => k ((⟨#[]⟩ : ByteArray), true, ())) k0 low high s false (1 + c.toNat) (by omega) (by omega) c.toNat 1 1000 0 (by omega) (by omega) (by
        have h3 : 256 ^ c.toNat ≤ 256 ^ 8 := Nat.pow_le_pow_right (by omega) (by omega)
        have h4 : 256 ^ 8 = 18446744073709551616 := by decide
        omega)
      have hdr : (List.take (1 + c.toNat) (c :: r)).drop 1 = r.take c.toNat := by
        rw [Nat.add_comm, List.take_succ_cons, List.drop_one, List.tail_cons]
      rw [show ((0 : Nat) : Int) = 0 from rfl, show ((1 : Nat) : Int) = 1 from rfl, hl, hdr] at loop
      simp only [loop]
      have ht2 : Int.tmod ((val 0 (r.take c.toNat) : Nat) : Int) 2 = ((val 0 (r.take c.toNat) % 2 : Nat) : Int) := by rw [Int.tmod_eq_emod_of_nonneg (by omega)]; omega
      have hd2 : Int.tdiv ((val 0 (r.take c.toNat) : Nat) : Int) 2 = ((val 0 (r.take c.toNat) / 2 : Nat) : Int) := by rw [Int.tdiv_eq_ediv_of_nonneg (by omega)]; omega
      have hw1 : IntKind.i64.wrap (IntKind.u64.wrap ((val 0 (r.take c.toNat) / 2 : Nat) : Int)) = ((val 0 (r.take c.toNat) / 2 : Nat) : Int) := by rw [wrapU64 (by omega) (by omega), wrap64 (by omega) (by omega)]
      have hw2 : IntKind.i64.wrap (IntKind.i64.wrap (0 - ((val 0 (r.take c.toNat) / 2 : Nat) : Int)) - 1) = -((val 0 (r.take c.toNat) / 2 : Nat) : Int) - 1 := by rw [wrap64 (x := 0 - ((val 0 (r.take c.toNat) / 2 : Nat) : Int)) (by omega) (by omega), wrap64 (by omega) (by omega)]; omega
      have hin : (decide ((0 : Int) ≤ ((1 + c.toNat : Nat) : Int)) && decide (((1 + c.toNat : Nat) : Int) ≤ (s.size : Int))) = true := by simp; omega
      rw [ht2, hd2, hw1, hw2, hin, Int.toNat_natCast]
      simp only [cond_true]
      have hfin : ∀ (n : Int) , (cond (!(decide (n < low))) (cond (decide (n > high)) (k 0 ((⟨#[]⟩ : ByteArray), true, ())) (k n (s.extract (1 + c.toNat) s.size, false, ()))) (k 0 ((⟨#[]⟩ : ByteArray), true, ()))) =
          k (if low ≤ n ∧ n ≤ high then (n, ((s.extract (1 + c.toNat) s.size, true, ()) : Rdr)) else (0, badR)).1 (flip (if low ≤ n ∧ n ≤ high then (n, ((s.extract (1 + c.toNat) s.size, true, ()) : Rdr)) else (0, badR)).2) := by
        intro n
        by_cases h1 : low ≤ n
        · rw [decide_eq_false (show ¬ n < low by omega)]
          by_cases h2 : n ≤ high
          · rw [decide_eq_false (show ¬ n > high by omega), if_pos ⟨h1, h2⟩]; rfl
          · rw [decide_eq_true (show n > high by omega), if_neg (fun h => h2 h.2)]; rfl
        · rw [decide_eq_true (show n < low by omega), if_neg (fun h => h1 h.1)]; rfl
      have hall : (cond ((((val 0 (r.take c.toNat) % 2 : Nat) : Int)) == 1)
          (cond (!(decide (-((val 0 (r.take c.toNat) / 2 : Nat) : Int) - 1 < low))) (cond (decide (-((val 0 (r.take c.toNat) / 2 : Nat) : Int) - 1 > high)) (k 0 ((⟨#[]⟩ : ByteArray), true, ())) (k (-((val 0 (r.take c.toNat) / 2 : Nat) : Int) - 1) (s.extract (1 + c.toNat) s.size, false, ()))) (k 0 ((⟨#[]⟩ : ByteArray), true, ())))
          (cond (!(decide (((val 0 (r.take c.toNat) / 2 : Nat) : Int) < low))) (cond (decide (((val 0 (r.take c.toNat) / 2 : Nat) : Int) > high)) (k 0 ((⟨#[]⟩ : ByteArray), true, ())) (k ((val 0 (r.take c.toNat) / 2 : Nat) : Int) (s.extract (1 + c.toNat) s.size, false, ()))) (k 0 ((⟨#[]⟩ : ByteArray), true, ())))) =
          k (if low ≤ ofP (val 0 (r.take c.toNat)) ∧ ofP (val 0 (r.take c.toNat)) ≤ high then (ofP (val 0 (r.take c.toNat)), ((s.extract (1 + c.toNat) s.size, true, ()) : Rdr)) else (0, badR)).1 (flip (if low ≤ ofP (val 0 (r.take c.toNat)) ∧ ofP (val 0 (r.take c.toNat)) ≤ high then (ofP (val 0 (r.take c.toNat)), ((s.extract (1 + c.toNat) s.size, true, ()) : Rdr)) else (0, badR)).2) := by
        unfold ofP
        by_cases ho : val 0 (r.take c.toNat) % 2 = 1
        · rw [if_pos ho, ho]; exact hfin _
        · rw [if_neg ho]
          have : val 0 (r.take c.toNat) % 2 = 0 := by omega
          rw [this]; exact hfin _
      rw [hall]
      by_cases h0 : 0 < c.toNat
      · rw [decide_eq_true (show (c.toNat : Int) > 0 by omega), cond_true, decide_eq_true (show (1 : Int) < (s.size : Int) by omega), cond_true]
        by_cases hz0 : (r[0]?.getD 0).toNat = 0
        · rw [hz0]
          simp only [numL_cons, h0, hz0, true_and, or_true, if_true]
          rfl
        · have : (((r[0]?.getD 0).toNat : Int) == 0) = false := by simpa using hz0
          rw [this, cond_false]
          have hnl : numL (c :: r) = some (ofP (val 0 (r.take c.toNat)), 1 + c.toNat) := by
            rw [numL_cons, if_neg (by simp only [h8, hr, hz0, and_false, or_false, not_false_eq_true])]
          rw [hnl]
          rfl
      · rw [decide_eq_false (show ¬ (c.toNat : Int) > 0 by omega), cond_false]
        have hnl : numL (c :: r) = some (ofP (val 0 (r.take c.toNat)), 1 + c.toNat) := by
          rw [numL_cons, if_neg (by simp only [h8, hr, h0, false_and, or_false, not_false_eq_true])]
        rw [hnl]
        rfl

theorem rdInt_cases (low high : Int) (x : Rdr) : (rdInt low high x).2.2.1 = true ∧ low ≤ (rdInt low high x).1 ∧ (rdInt low high x).1 ≤ high ∨ rdInt low high x = (0, badR) := by
  unfold rdInt
  split
  · split
    · rename_i h; exact .inl ⟨rfl, h.1, h.2⟩
    · exact .inr rfl
  · exact .inr rfl
theorem ext_size (s : ByteArray) (i j : Nat) : (s.extract i j).size ≤ s.size := by
  rw [L_size, L_extract, L_size, List.length_drop, List.length_take]; omega
theorem rdInt_size (low high : Int) (x : Rdr) : (rdInt low high x).2.1.size ≤ x.1.size := by
  unfold rdInt
  split
  · split
    · exact ext_size _ _ _
    · exact Nat.zero_le _
  · exact Nat.zero_le _
def rdFlag (x : Rdr) : Bool × Rdr :=
  match x.2.1, x.1.toList with
  | true, c :: _ => if c.toNat ≤ 1 then (decide (c.toNat = 1), (x.1.extract 1 x.1.size, true, ())) else (false, badR)
  | _, _ => (false, badR)
theorem rFlag_is (x : Rdr) (k : Bool → Rdr → Option α) : wire_Reader_Flag x k = k (rdFlag x).1 (rdFlag x).2 := by
  obtain ⟨s, g, ⟨⟩⟩ := x
  unfold wire_Reader_Flag wire_Reader_Flag_g rdFlag
  cases g with
  | false => rfl
  | true =>
    simp only [Bool.not_true, Bool.not_false, cond_true, cond_false, B_nil, toL_mkB]
    cases hl : s.toList with
    | nil => rfl
    | cons c r =>
      have hz : s.size = r.length + 1 := by rw [L_size, hl]; rfl
      have hc : c.toNat < 256 := c.toNat_lt
      rw [show (!(c :: r == ([] : List UInt8))) = true from rfl, cond_true, decide_eq_true (show (0 : Int) < (s.size : Int) by omega), cond_true, byte0 hl]
      by_cases h1 : c.toNat ≤ 1
      · rw [decide_eq_true (show (c.toNat : Int) ≤ 1 by omega)]
        simp only [Bool.not_true, cond_false, if_pos h1]
        have ht := take_is (α := α) (n := 1) (x := (s, true, ())) (by show 1 ≤ s.size; omega)
        rw [show ((1 : Nat) : Int) = 1 from rfl] at ht
        rw [ht, L_extract, hl]
        have e : ((List.take 1 (c :: r)).drop 0 == (⟨#[1]⟩ : ByteArray).toList) = decide (c.toNat = 1) := by
          show ((c :: List.take 0 r) == (mkB [1]).toList) = _
          rw [toL_mkB, List.take_zero]
          by_cases h : c = 1
          · subst h; rfl
          · have h' : ¬ c.toNat = 1 := fun e => h (UInt8.toNat_inj.1 e)
            rw [decide_eq_false h']
            simpa using h
        rw [e]
      · rw [decide_eq_false (show ¬ (c.toNat : Int) ≤ 1 by omega)]
        simp only [Bool.not_false, cond_true, if_neg h1]
        rfl
theorem ref_rFlag_is (x : Rdr) (k : Bool → Rdr → Option α) : draymanref03_Reader_Flag (flip x) k = k (rdFlag x).1 (flip (rdFlag x).2) := by
  obtain ⟨s, g, ⟨⟩⟩ := x
  unfold draymanref03_Reader_Flag draymanref03_Reader_Flag_g draymanref03_Reader_fails rdFlag flip
  cases g with
  | false => rfl
  | true =>
    simp only [Bool.not_true, Bool.not_false, cond_true, cond_false]
    cases hl : s.toList with
    | nil =>
      have hz : s.size = 0 := by rw [L_size, hl]; rfl
      rw [hz]; rfl
    | cons c r =>
      have hz : s.size = r.length + 1 := by rw [L_size, hl]; rfl
      have hc : c.toNat < 256 := c.toNat_lt
      rw [show (!((s.size : Int) == 0)) = true by rw [eq0N, hz]; rfl, cond_true, decide_eq_true (show (0 : Int) < (s.size : Int) by omega), cond_true, byte0 hl]
      by_cases h1 : c.toNat ≤ 1
      · rw [decide_eq_false (show ¬ (c.toNat : Int) > 1 by omega)]
        simp only [cond_false, cond_true, if_pos h1]
        rw [decide_eq_true (show (1 : Int) ≤ (s.size : Int) by omega), cond_true]
        have e : (((c.toNat : Int)) == 1) = decide (c.toNat = 1) := eqN (a := c.toNat) (b := 1)
        rw [e]
        rfl
      · rw [decide_eq_true (show (c.toNat : Int) > 1 by omega)]
        simp only [cond_true, if_neg h1]
        rfl
def rdDone (x : Rdr) : Bool := x.2.1 && decide (x.1.size = 0)
theorem rLeft_is (x : Rdr) (k : Int → Rdr → Option α) : wire_Reader_Left x k = k (x.1.size : Int) x := rfl
theorem ref_rLeft_is (x : Rdr) (k : Int → Rdr → Option α) : draymanref03_Reader_Left (flip x) k = k (x.1.size : Int) (flip x) := rfl
theorem toL_nil (s : ByteArray) : (s.toList == ([] : List UInt8)) = decide (s.size = 0) := by
  rw [L_size]
  cases s.toList with
  | nil => rfl
  | cons c r => rfl
theorem rDone_is (x : Rdr) (k : Bool → Rdr → Option α) : wire_Reader_Done x k = k (rdDone x) x := by
  obtain ⟨s, g, ⟨⟩⟩ := x
  unfold wire_Reader_Done rdDone
  rw [B_nil, toL_mkB, toL_nil]
  cases g <;> rfl
theorem ref_rDone_is (x : Rdr) (k : Bool → Rdr → Option α) : draymanref03_Reader_Done (flip x) k = k (rdDone x) (flip x) := by
  obtain ⟨s, g, ⟨⟩⟩ := x
  unfold draymanref03_Reader_Done rdDone flip
  simp only [eq0N]
  cases g <;> rfl
theorem rdFlag_size (x : Rdr) : (rdFlag x).2.1.size ≤ x.1.size := by
  unfold rdFlag
  split
  · split
    · exact ext_size _ _ _
    · exact Nat.zero_le _
  · exact Nat.zero_le _
theorem ofP_place {n : Int} : ofP (place n) = n := by
  unfold ofP place
  split <;> split <;> omega
theorem place_ofP (p : Nat) : place (ofP p) = p := by
  unfold ofP place
  split <;> split <;> omega
theorem val_app (a : Nat) (l : List UInt8) (c : UInt8) : val a (l ++ [c]) = val a l * 256 + c.toNat := by
  unfold val; rw [List.foldl_append]; rfl
theorem ofNat_toNat (p : Nat) : (UInt8.ofNat p).toNat = p % 256 := by simp
theorem val_be : ∀ (m p : Nat), p < 256 ^ m → val 0 (be p) = p := by
  intro m
  induction m with
  | zero => intro p hp; simp at hp; subst hp; rw [be_zero (by omega)]; rfl
  | succ m ih =>
    intro p hp
    by_cases h : 0 < p
    · rw [be_pos h, val_app, ih (p / 256) (by rw [Nat.pow_succ] at hp; exact Nat.div_lt_of_lt_mul (by omega)), ofNat_toNat]; omega
    · rw [be_zero h]; simp [val]; omega
theorem be_head : ∀ (m p : Nat), p < 256 ^ m → 0 < p → ((be p)[0]?.getD 0).toNat ≠ 0 := by
  intro m
  induction m with
  | zero => intro p hp h0; simp at hp; omega
  | succ m ih =>
    intro p hp h0
    rw [be_pos h0]
    by_cases h : 0 < p / 256
    · have hi := ih (p / 256) (by rw [Nat.pow_succ] at hp; exact Nat.div_lt_of_lt_mul (by omega)) h
      have hl : 0 < (be (p / 256)).length := by rw [be_pos h]; simp
      rw [List.getElem?_append_left hl]
      exact hi
    · rw [be_zero h]
      simp only [List.nil_append, List.getElem?_cons_zero, Option.getD_some, ofNat_toNat]
      omega
theorem numL_int {n : Int} (h : okI n) (t : List UInt8) : numL (intL n ++ t) = some (n, (intL n).length) := by
  have h64 := place_lt h
  have hl := be_len 8 (place n) h64
  have hc : (UInt8.ofNat (be (place n)).length).toNat = (be (place n)).length := by rw [ofNat_toNat]; omega
  unfold intL intP
  rw [List.cons_append, numL_cons, hc, List.take_left, val_be 8 _ h64, ofP_place, if_neg]
  · simp [Nat.add_comm]
  · simp only [List.length_append]
    rintro (h1 | h1 | ⟨h1, h2⟩)
    · omega
    · omega
    · rw [List.getElem?_append_left h1] at h2
      have hp : 0 < place n := by
        rcases Nat.eq_zero_or_pos (place n) with e | e
        · rw [e, be_zero (by omega)] at h1; simp at h1
        · exact e
      exact be_head 8 _ h64 hp h2
theorem be_val_pos : ∀ (l : List UInt8) (p : Nat), 0 < p → be (val p l) = be p ++ l
  | [], p, _ => by simp [val]
  | c :: l, p, h => by
    have hc : c.toNat < 256 := c.toNat_lt
    rw [val_cons, be_val_pos l _ (by omega), be_pos (show 0 < p * 256 + c.toNat by omega)]
    have h1 : (p * 256 + c.toNat) / 256 = p := by omega
    have h2 : UInt8.ofNat (p * 256 + c.toNat) = c := by
      apply UInt8.toNat_inj.1; rw [ofNat_toNat]; omega
    rw [h1, h2, List.append_assoc]; rfl
theorem be_val (l : List UInt8) (h : l = [] ∨ (l[0]?.getD 0).toNat ≠ 0) : be (val 0 l) = l := by
  cases l with
  | nil => exact be_zero (by simp [val])
  | cons c l =>
    have h0 : c.toNat ≠ 0 := by
      rcases h with h | h
      · cases h
      · simpa using h
    rw [val_cons, be_val_pos l _ (by omega), be_pos (show 0 < 0 * 256 + c.toNat by omega)]
    have hc : c.toNat < 256 := c.toNat_lt
    have h1 : (0 * 256 + c.toNat) / 256 = 0 := by omega
    have h2 : UInt8.ofNat (0 * 256 + c.toNat) = c := by
      apply UInt8.toNat_inj.1; rw [ofNat_toNat]; omega
    rw [h1, h2, be_zero (by omega)]; rfl
theorem numL_canon {l : List UInt8} {n : Int} {m : Nat} (h : numL l = some (n, m)) : intL n = l.take m := by
  cases l with
  | nil => cases h
  | cons c r =>
    rw [numL_cons] at h
    split at h
    · cases h
    rename_i hc
    simp only [Option.some.injEq, Prod.mk.injEq] at h
    obtain ⟨rfl, rfl⟩ := h
    have hlen : (r.take c.toNat).length = c.toNat := by rw [List.length_take]; omega
    have hb : be (val 0 (r.take c.toNat)) = r.take c.toNat := by
      refine be_val _ ?_
      by_cases h0 : 0 < c.toNat
      · right
        rw [List.getElem?_take_of_lt h0]
        exact fun e => hc (.inr (.inr ⟨h0, e⟩))
      · left
        have : c.toNat = 0 := by omega
        rw [this, List.take_zero]
    unfold intL intP
    rw [place_ofP, hb, hlen, Nat.add_comm, List.take_succ_cons]
    congr 1
    apply UInt8.toNat_inj.1; rw [ofNat_toNat]
    have := c.toNat_lt
    omega
theorem rdInt_int {n low high : Int} (h : okI n) (h1 : low ≤ n) (h2 : n ≤ high) (t : List UInt8) : rdInt low high (mkB (intL n ++ t), true, ()) = (n, (mkB t, true, ())) := by
  unfold rdInt
  simp only [toL_mkB, numL_int h, if_pos (And.intro h1 h2)]
  have : (mkB (intL n ++ t)).extract (intL n).length (mkB (intL n ++ t)).size = mkB t := by
    apply L_inj
    rw [L_extract, toL_mkB, mkB_size, toL_mkB, List.take_length, List.drop_left]
  rw [this]
theorem rdFlag_flag (b : Bool) (t : List UInt8) : rdFlag (mkB ((if b then 1 else 0) :: t), true, ()) = (b, (mkB t, true, ())) := by
  unfold rdFlag
  have : ∀ c : UInt8, (mkB (c :: t)).extract 1 (mkB (c :: t)).size = mkB t := by
    intro c
    apply L_inj
    rw [L_extract, toL_mkB, mkB_size, toL_mkB, List.take_length, List.drop_one, List.tail_cons]
  cases b
  · simp only [toL_mkB]; rw [this]; rfl
  · simp only [toL_mkB]; rw [this]; rfl
end Go.Rv.Try
