/- Rv, part W: tools for the plain laws: texts as lists of bytes, and as runes. Of no program. -/
import Derived.Test.YtmoeohjaafpmgaaDoorRvT
import Derived.Laws.Strings
import Derived.Lib.MapLaws
import Derived.Lib.ValidLaws
import Derived.Lib.RuneCount
set_option linter.unusedVariables false
set_option linter.unusedSimpArgs false
set_option linter.unusedSectionVars false
namespace Go.Rv
open Go

def mkB (l : List UInt8) : ByteArray := ⟨l.toArray⟩
theorem toL_mkB (l : List UInt8) : (mkB l).toList = l := ByteArray.toList_mk l
theorem L_inj {a b : ByteArray} (h : a.toList = b.toList) : a = b := by
  rw [ByteArray.toList_eq, ByteArray.toList_eq] at h
  exact ByteArray.ext (Array.toList_inj.1 h)
theorem mkB_L (b : ByteArray) : mkB b.toList = b := L_inj (toL_mkB _)
theorem L_size (b : ByteArray) : b.size = b.toList.length := by
  rw [ByteArray.toList_eq, Array.length_toList]; rfl
theorem L_app (a b : ByteArray) : (a ++ b).toList = a.toList ++ b.toList := by
  simp only [ByteArray.toList_eq, ByteArray.data_append, Array.toList_append]
theorem L_extract (a : ByteArray) (i j : Nat) : (a.extract i j).toList = (a.toList.take j).drop i := by
  simp only [ByteArray.toList_eq, ByteArray.data_extract, Array.toList_extract, List.extract]
  rw [List.drop_take]
theorem L_beq (a b : ByteArray) : (a.toList == b.toList) = decide (a = b) := by
  by_cases h : a = b
  · subst h; simp
  · have : ¬ a.toList = b.toList := fun e => h (L_inj e)
    simp [h, this]
theorem mkB_app (a b : List UInt8) : mkB a ++ mkB b = mkB (a ++ b) := L_inj (by rw [L_app, toL_mkB, toL_mkB, toL_mkB])
theorem mkB_size (l : List UInt8) : (mkB l).size = l.length := by rw [L_size, toL_mkB]
theorem B_nil : (⟨#[]⟩ : ByteArray) = mkB [] := rfl
theorem byteAt_nat (b : ByteArray) (i : Nat) : byteAt b (i : Int) = ((b.toList[i]?.getD 0).toNat : Int) := by
  rw [ByteArray.toList_eq]; rfl
theorem size_app (a b : ByteArray) : (a ++ b).size = a.size + b.size := by rw [L_size, L_app, List.length_append, ← L_size, ← L_size]
theorem mx64 : IntKind.i64.max = 9223372036854775807 := rfl
theorem bytesT_mk (n : Nat) (G : Nat → Tup (.int .u8 .nil)) : bytesT n G = mkB ((List.range n).map fun i => UInt8.ofNat (G i).1.toNat) := rfl

/-! ### Runes -/
abbrev decR (l : List UInt8) : Nat × Nat := Lib.decodeL l
theorem decR_at (s : ByteArray) (i : Nat) : Utf8.decode s i = decR (s.toList.drop i) := by
  rw [ByteArray.toList_eq]; exact (Lib.decodeL_drop s i).symm
theorem decR_w (l : List UInt8) : 1 ≤ (decR l).2 := Lib.decodeL_width l
theorem decR_le {l : List UInt8} (h : l ≠ []) : (decR l).2 ≤ l.length := Lib.decodeL_le l h
theorem decR_N (l : List UInt8) : decR l = Lib.decodeN l.length (l.getD 0 0).toNat (l.getD 1 0).toNat (l.getD 2 0).toNat (l.getD 3 0).toNat := Lib.decodeL_N l
/-- No rune begins here. -/
def badL (l : List UInt8) : Bool := Nat.beq (decR l).1 65533 && Nat.beq (decR l).2 1
theorem badL_iff (l : List UInt8) : badL l = true ↔ (decR l).1 = 65533 ∧ (decR l).2 = 1 := by
  simp [badL, Nat.beq_eq]
theorem badL_not (l : List UInt8) : badL l = false ↔ ¬ ((decR l).1 = 65533 ∧ (decR l).2 = 1) := by
  rw [← badL_iff]; cases badL l <;> simp
def runesGo : Nat → List UInt8 → Option (List Nat)
  | 0, l => if l.isEmpty then some [] else none
  | n + 1, l => if l.isEmpty then some [] else if badL l then none else (runesGo n (l.drop (decR l).2)).map ((decR l).1 :: ·)
/-- The runes of a text, if it is of runes alone. -/
def runes (l : List UInt8) : Option (List Nat) := runesGo l.length l
theorem runesGo_any : ∀ (n m : Nat) (l : List UInt8), l.length ≤ n → l.length ≤ m → runesGo n l = runesGo m l
  | 0, 0, _, _, _ => rfl
  | 0, m + 1, l, hn, _ => by
    obtain rfl : l = [] := List.length_eq_zero_iff.1 (by omega)
    rfl
  | n + 1, 0, l, _, hm => by
    obtain rfl : l = [] := List.length_eq_zero_iff.1 (by omega)
    rfl
  | n + 1, m + 1, l, hn, hm => by
    cases l with
    | nil => rfl
    | cons b l =>
      simp only [runesGo, List.isEmpty_cons, Bool.false_eq_true, if_false]
      have hw := decR_w (b :: l)
      rw [runesGo_any n m ((b :: l).drop (decR (b :: l)).2) (by simp only [List.length_drop]; simp only [List.length_cons] at hn ⊢; omega) (by simp only [List.length_drop]; simp only [List.length_cons] at hm ⊢; omega)]
theorem runes_nil : runes [] = some [] := rfl
theorem runes_step {l : List UInt8} (h : l ≠ []) : runes l = if badL l then none else (runes (l.drop (decR l).2)).map ((decR l).1 :: ·) := by
  cases l with
  | nil => exact absurd rfl h
  | cons b l =>
    have hw := decR_w (b :: l)
    show runesGo (l.length + 1) (b :: l) = _
    simp only [runesGo, List.isEmpty_cons, Bool.false_eq_true, if_false]
    unfold runes
    rw [runesGo_any l.length ((b :: l).drop (decR (b :: l)).2).length ((b :: l).drop (decR (b :: l)).2) (by simp only [List.length_drop, List.length_cons]; omega) (Nat.le_refl _)]
theorem runes_ind {p : List UInt8 → Prop} (h0 : p []) (h1 : ∀ l, l ≠ [] → p (l.drop (decR l).2) → p l) : ∀ l, p l := by
  have : ∀ n (l : List UInt8), l.length ≤ n → p l := by
    intro n
    induction n with
    | zero => intro l h; rw [List.length_eq_zero_iff.1 (by omega : l.length = 0)]; exact h0
    | succ n ih =>
      intro l h
      by_cases he : l = []
      · subst he; exact h0
      · refine h1 l he (ih _ ?_)
        have := decR_w l
        have := List.length_pos_iff.2 he
        simp only [List.length_drop]; omega
  exact fun l => this l.length l (Nat.le_refl _)
theorem validD_runes : ∀ l, Lib.validD l = (runes l).isSome := by
  refine runes_ind rfl fun l h ih => ?_
  rw [Lib.validD_step l h, runes_step h]
  by_cases hb : badL l = true
  · rw [if_pos hb, if_pos ((badL_iff l).1 hb)]; rfl
  · have hb' : badL l = false := by simpa using hb
    rw [if_neg hb, if_neg ((badL_not l).1 hb'), ih, Option.isSome_map]
theorem runeCountFrom_runes (s : ByteArray) : ∀ (fuel pos : Nat) (rs : List Nat), s.toList.length - pos ≤ fuel → runes (s.toList.drop pos) = some rs → Lib.runeCountFrom s fuel pos = rs.length
  | 0, pos, rs, hf, h => by
    rw [List.drop_of_length_le (by omega), runes_nil] at h
    cases h; rfl
  | fuel + 1, pos, rs, hf, h => by
    unfold Lib.runeCountFrom
    by_cases hp : pos < s.size
    · rw [if_pos hp]
      have hne : s.toList.drop pos ≠ [] := by
        intro e
        have := congrArg List.length e
        simp only [List.length_drop, List.length_nil] at this
        rw [L_size] at hp; omega
      rw [runes_step hne] at h
      split at h
      · cases h
      · rw [List.drop_drop] at h
        cases hr : runes (s.toList.drop (pos + (decR (s.toList.drop pos)).2)) with
        | none => rw [hr] at h; cases h
        | some r2 =>
          rw [hr] at h
          cases h
          have hw := decR_w (s.toList.drop pos)
          rw [decR_at, runeCountFrom_runes s fuel _ r2 (by omega) hr, List.length_cons]
          omega
    · rw [if_neg hp]
      rw [List.drop_of_length_le (by rw [L_size] at hp; omega), runes_nil] at h
      cases h; rfl
theorem runeCount_runes {s : ByteArray} {rs : List Nat} (h : runes s.toList = some rs) : Lib.runeCount s = rs.length :=
  runeCountFrom_runes s s.size 0 rs (by rw [L_size]; omega) (by simpa using h)
/-- As many bytes as runes, at least; at most four times as many. -/
theorem decR_w4 (l : List UInt8) : (decR l).2 ≤ 4 := by
  rw [decR_N]
  rcases Lib.decodeN_shape l.length (l.getD 0 0).toNat (l.getD 1 0).toNat (l.getD 2 0).toNat (l.getD 3 0).toNat with ⟨_, e⟩ | ⟨_, _, _, _, e⟩ | ⟨_, _, _, _, _, _, e⟩ | ⟨_, _, _, _, _, _, _, e⟩ | e <;> rw [e] <;> simp
theorem runes_len : ∀ (l : List UInt8) (rs : List Nat), runes l = some rs → rs.length ≤ l.length ∧ l.length ≤ 4 * rs.length := by
  refine runes_ind (fun rs h => ?_) fun l hne ih rs h => ?_
  · rw [runes_nil] at h; cases h; exact ⟨Nat.le_refl _, Nat.le_refl _⟩
  · rw [runes_step hne] at h
    split at h
    · cases h
    · cases hr : runes (l.drop (decR l).2) with
      | none => rw [hr] at h; cases h
      | some r2 =>
        rw [hr] at h; cases h
        have := ih r2 hr
        have h1 := decR_w l
        have h4 := decR_w4 l
        have hle := decR_le hne
        simp only [List.length_drop] at this
        simp only [List.length_cons]
        omega
/-- A rune that may stand in a text. -/
def okRune (r : Nat) : Prop := r < 55296 ∨ (57344 ≤ r ∧ r ≤ 1114111)
theorem runes_ok : ∀ (l : List UInt8) (rs : List Nat), runes l = some rs → ∀ r ∈ rs, okRune r := by
  refine runes_ind (fun rs h => ?_) fun l hne ih rs h => ?_
  · rw [runes_nil] at h; cases h; intro r hr; cases hr
  · rw [runes_step hne] at h
    split at h
    · cases h
    · rename_i hb
      have hb' : badL l = false := by simpa using hb
      have hb2 := (badL_not l).1 hb'
      cases hr : runes (l.drop (decR l).2) with
      | none => rw [hr] at h; cases h
      | some r2 =>
        rw [hr] at h; cases h
        intro r hm
        rcases List.mem_cons.1 hm with rfl | hm
        · rw [decR_N] at hb2 ⊢
          have k0 := (l.getD 0 0).toNat_lt
          unfold okRune
          rcases Lib.decodeN_shape l.length (l.getD 0 0).toNat (l.getD 1 0).toNat (l.getD 2 0).toNat (l.getD 3 0).toNat with ⟨_, e⟩ | ⟨_, _, _, _, e⟩ | ⟨_, _, _, _, _, _, e⟩ | ⟨_, _, _, _, _, _, _, e⟩ | e <;> rw [e] at hb2 ⊢ <;> simp only at hb2 ⊢ <;> omega
        · exact ih r2 hr r hm
/-- A rune's bytes. -/
abbrev encR (r : Nat) : List UInt8 := Lib.encodeRune (r : Int)
theorem encR_1 {r : Nat} (h : r < 128) : encR r = [UInt8.ofNat r] := by
  unfold encR Lib.encodeRune; rw [Lib.encodeRuneZ_one (by omega) (by omega)]; rfl
theorem encR_2 {r : Nat} (h0 : 128 ≤ r) (h : r < 2048) : encR r = [UInt8.ofNat (192 + r / 64), UInt8.ofNat (128 + r % 64)] := by
  unfold encR Lib.encodeRune; rw [Lib.encodeRuneZ_two (by omega) (by omega)]; rfl
theorem encR_3 {r : Nat} (h0 : 2048 ≤ r) (h : r < 65536) (ho : okRune r) : encR r = [UInt8.ofNat (224 + r / 4096), UInt8.ofNat (128 + r / 64 % 64), UInt8.ofNat (128 + r % 64)] := by
  unfold encR Lib.encodeRune; unfold okRune at ho; rw [Lib.encodeRuneZ_three (by omega)]; rfl
theorem encR_4 {r : Nat} (h0 : 65536 ≤ r) (h : r ≤ 1114111) : encR r = [UInt8.ofNat (240 + r / 262144), UInt8.ofNat (128 + r / 4096 % 64), UInt8.ofNat (128 + r / 64 % 64), UInt8.ofNat (128 + r % 64)] := by
  unfold encR Lib.encodeRune; rw [Lib.encodeRuneZ_four (by omega) (by omega)]; rfl
theorem toNat_ofNat {n : Nat} (h : n < 256) : (UInt8.ofNat n).toNat = n := by rw [UInt8.toNat_ofNat']; omega
theorem decR_encR {r : Nat} (ho : okRune r) (t : List UInt8) : decR (encR r ++ t) = (r, (encR r).length) ∧ 1 ≤ (encR r).length := by
  have ho' := ho
  unfold okRune at ho'
  by_cases h1 : r < 128
  · rw [encR_1 h1, decR_N]
    simp only [List.cons_append, List.nil_append, List.getD_cons_zero, List.length_cons, List.length_nil, toNat_ofNat (show r < 256 by omega)]
    refine ⟨?_, by omega⟩
    unfold Lib.decodeN; rw [if_pos h1]
  by_cases h2 : r < 2048
  · rw [encR_2 (by omega) h2, decR_N]
    simp only [List.cons_append, List.nil_append, List.getD_cons_zero, List.getD_cons_succ, List.length_cons, List.length_nil, toNat_ofNat (show 192 + r / 64 < 256 by omega), toNat_ofNat (show 128 + r % 64 < 256 by omega)]
    refine ⟨?_, by omega⟩
    unfold Lib.decodeN
    rw [if_neg (by omega), if_pos (by omega), if_pos (by omega)]
    simp only [Prod.mk.injEq, and_true]; omega
  by_cases h3 : r < 65536
  · rw [encR_3 (by omega) h3 ho, decR_N]
    simp only [List.cons_append, List.nil_append, List.getD_cons_zero, List.getD_cons_succ, List.length_cons, List.length_nil, toNat_ofNat (show 224 + r / 4096 < 256 by omega), toNat_ofNat (show 128 + r / 64 % 64 < 256 by omega), toNat_ofNat (show 128 + r % 64 < 256 by omega)]
    refine ⟨?_, by omega⟩
    unfold Lib.decodeN
    rw [if_neg (by omega), if_neg (by omega), if_pos (by omega), if_pos (by omega)]
    simp only [Prod.mk.injEq, and_true]; omega
  · rw [encR_4 (by omega) (by omega), decR_N]
    simp only [List.cons_append, List.nil_append, List.getD_cons_zero, List.getD_cons_succ, List.length_cons, List.length_nil, toNat_ofNat (show 240 + r / 262144 < 256 by omega), toNat_ofNat (show 128 + r / 4096 % 64 < 256 by omega), toNat_ofNat (show 128 + r / 64 % 64 < 256 by omega), toNat_ofNat (show 128 + r % 64 < 256 by omega)]
    refine ⟨?_, by omega⟩
    unfold Lib.decodeN
    rw [if_neg (by omega), if_neg (by omega), if_neg (by omega), if_pos (by omega), if_pos (by omega)]
    simp only [Prod.mk.injEq, and_true]; omega
/-- What is written rune by rune has just these runes. -/
theorem runes_enc : ∀ (rs : List Nat), (∀ r ∈ rs, okRune r) → runes (rs.flatMap encR) = some rs
  | [], _ => rfl
  | r :: rs, h => by
    have hr := h r (by simp)
    obtain ⟨hd, hl⟩ := decR_encR hr (rs.flatMap encR)
    rw [List.flatMap_cons, runes_step (by intro e; have h2 := congrArg List.length e; rw [List.length_append, List.length_nil] at h2; omega)]
    have hb : badL (encR r ++ rs.flatMap encR) = false := by
      rw [badL_not, hd]
      rintro ⟨rfl, e⟩
      rw [encR_3 (by omega) (by omega) hr] at e
      simp at e
    rw [hb, hd]
    simp only [Bool.false_eq_true, if_false, List.drop_left]
    rw [runes_enc rs fun x hx => h x (by simp [hx])]
    rfl
/-- A text of runes alone is what its runes are written as. -/
theorem enc_runes : ∀ (l : List UInt8) (rs : List Nat), runes l = some rs → rs.flatMap encR = l := by
  refine runes_ind (fun rs h => ?_) fun l hne ih rs h => ?_
  · rw [runes_nil] at h; cases h; rfl
  · rw [runes_step hne] at h
    split at h
    · cases h
    · rename_i hb
      have hb2 := (badL_not l).1 (by simpa using hb)
      cases hr : runes (l.drop (decR l).2) with
      | none => rw [hr] at h; cases h
      | some r2 =>
        rw [hr] at h; cases h
        rw [List.flatMap_cons, ih r2 hr]
        show Lib.encodeRune ((decR l).1 : Int) ++ _ = l
        rw [Lib.encode_decode l hne hb2, List.take_append_drop]
end Go.Rv
