/- Rv, part Ha: maps, and the capacity of what is nil. Of no program. -/
import Derived.Test.YtmoeohjaafpmgaaRvH
import Derived.Laws.IdiomStrings
set_option linter.unusedVariables false
set_option linter.unusedSimpArgs false
set_option linter.unusedSectionVars false
namespace Go.Rv
open Go Go.RowKit
variable [Fx]
section
variable {P : Program} {base : Base} {w0 : World} {ks : List (Array Value)} {st : St} {a : Act} {w : World} {c : Cx} {o : Oper} {v : V} {bs : List B} {b : Bool}

/-- The machine's values of cells. -/
def Ty.vals : (t : Ty) → Tup t → List Value
  | .nil, _ => []
  | .bool r, x => .bool x.1 :: r.vals x.2
  | .int k r, x => .int k x.1 :: r.vals x.2
  | .str r, x => .string x.1 :: r.vals x.2
  | .sl _ r, x => undef :: r.vals x.2
theorem ints_flat (q : IntKind) : ∀ n, (ints q n).flat = true
  | 0 => rfl
  | n + 1 => ints_flat q n
theorem keyT_flat {kt : TypeId} {k : Ty} (h : keyT P kt k = true) : k.flat = true := by
  unfold keyT at h
  split at h
  · rw [decide_eq_true_eq] at h; subst h; rfl
  · rw [decide_eq_true_eq] at h; subst h; rfl
  · rw [decide_eq_true_eq] at h; subst h; rfl
  · split at h <;> (try cases h)
    rw [Bool.and_eq_true, decide_eq_true_eq] at h
    rw [h.2]; exact ints_flat _ _
  · cases h
def kVal (ka : Bool) (kt : Ty) (x : Tup kt) : Value := if ka then .agg (kt.vals x).toArray else (kt.vals x).headD undef

theorem Ty.cells_rd : ∀ (t : Ty), t.flat = true → ∀ (x : Tup t) (F : Foot) (w : World) (i : Nat) v, (t.cells x)[i]? = some v → ∃ y, (t.vals x)[i]? = some y ∧ Rd w F v y ∧ one y
  | .nil, _, x, F, w, i, v, h => by simp [Ty.cells] at h
  | .bool r, hf, x, F, w, 0, v, h => by cases h; exact ⟨_, rfl, .bool _, rfl⟩
  | .int k r, hf, x, F, w, 0, v, h => by cases h; exact ⟨_, rfl, .int _ _, rfl⟩
  | .str r, hf, x, F, w, 0, v, h => by cases h; exact ⟨_, rfl, .str _, rfl⟩
  | .sl _ r, hf, x, F, w, _, v, h => by cases hf
  | .bool r, hf, x, F, w, i + 1, v, h => r.cells_rd hf x.2 F w i v h
  | .int k r, hf, x, F, w, i + 1, v, h => r.cells_rd hf x.2 F w i v h
  | .str r, hf, x, F, w, i + 1, v, h => r.cells_rd hf x.2 F w i v h
theorem Ty.vals_length : ∀ (t : Ty) (x : Tup t), (t.vals x).length = t.size
  | .nil, x => rfl
  | .bool r, x => congrArg (· + 1) (r.vals_length x.2)
  | .int _ r, x => congrArg (· + 1) (r.vals_length x.2)
  | .str r, x => congrArg (· + 1) (r.vals_length x.2)
  | .sl _ r, x => congrArg (· + 1) (r.vals_length x.2)
theorem Ty.vals_of : ∀ (t : Ty), t.flat = true → ∀ (x : Tup t) (ys : List Value), (t.cells x).length = ys.length → (∀ (i : Nat) v y, (t.cells x)[i]? = some v → ys[i]? = some y → Rv w c v y) → t.vals x = ys
  | .nil, _, x, [], _, _ => rfl
  | .nil, _, x, _ :: _, h, _ => by simp [Ty.cells] at h
  | .bool r, hf, x, [], h, _ => by simp [Ty.cells] at h
  | .int k r, hf, x, [], h, _ => by simp [Ty.cells] at h
  | .str r, hf, x, [], h, _ => by simp [Ty.cells] at h
  | .sl _ r, hf, x, _, h, _ => by cases hf
  | .bool r, hf, x, y :: ys, hl, h => by
    have h0 := (h 0 _ _ rfl rfl).bool_inv
    rw [Ty.vals, r.vals_of hf x.2 ys (by simpa [Ty.cells] using hl) fun i v y hv hy => h (i + 1) v y hv hy, h0]
  | .int k r, hf, x, y :: ys, hl, h => by
    have h0 := (h 0 _ _ rfl rfl).int_inv
    rw [Ty.vals, r.vals_of hf x.2 ys (by simpa [Ty.cells] using hl) fun i v y hv hy => h (i + 1) v y hv hy, h0]
  | .str r, hf, x, y :: ys, hl, h => by
    have h0 := (h 0 _ _ rfl rfl).str_inv
    rw [Ty.vals, r.vals_of hf x.2 ys (by simpa [Ty.cells] using hl) fun i v y hv hy => h (i + 1) v y hv hy, h0]

/-- A key is its value; keys that are no aggregate have one cell. -/
theorem key_val {kt : Ty} (hf : kt.flat = true) {ka : Bool} (h1 : ka = false → kt.size = 1) {x : Tup kt} {y : Value} (h : Rv w c (mkV ka (kt.cells x)) y) : y = kVal ka kt x := by
  unfold mkV at h
  unfold kVal
  cases ka with
  | true =>
    simp only [if_true] at h ⊢
    obtain ⟨xs, rfl, hl, _, hh⟩ := h.agg_inv
    rw [kt.vals_of hf x xs.toList (by simpa using hl) fun i v y hv hy => hh i v y hv (by simpa using hy)]
  | false =>
    simp only [Bool.false_eq_true, if_false] at h ⊢
    have hl := kt.cells_length x
    rw [h1 rfl] at hl
    obtain ⟨u, hu⟩ := List.length_eq_one_iff.1 hl
    have hv := kt.vals_of hf x [y] (by simp [hl]) (fun i v z hv hz => by
      cases i with
      | zero =>
        cases hz
        rw [hu] at h hv
        cases hv
        exact h
      | succ i => simp at hz)
    rw [hv]; rfl

theorem eqT_ints {q : IntKind} {t e : TypeId} {n : Nat} (ht : P.underlying t = some (.array n e)) (he : P.underlying e = some (.int q)) (hs : sizeT P e = 1) (x y : Tup (ints q n)) :
    eqT P 6 t ((ints q n).cells x) ((ints q n).cells y) = some ((ints q n).beq x y) := by
  have key : ∀ (m j : Nat) (A B : List V) (x y : Tup (ints q m)), A.drop j = (ints q m).cells x → B.drop j = (ints q m).cells y →
      (List.range' j m).foldr (fun i acc => match eqT P 5 e ((A.drop (i * sizeT P e)).take (sizeT P e)) ((B.drop (i * sizeT P e)).take (sizeT P e)), acc with
        | some x, some y => some (x && y)
        | _, _ => none) (some true) = some ((ints q m).beq x y) := by
    intro m
    induction m with
    | zero => intro j A B x y _ _; rfl
    | succ m ih =>
      intro j A B x y hA hB
      have hA1 : A.drop (j + 1) = (ints q m).cells x.2 := by rw [← List.drop_drop, hA]; rfl
      have hB1 : B.drop (j + 1) = (ints q m).cells y.2 := by rw [← List.drop_drop, hB]; rfl
      have hA0 : (A.drop (j * sizeT P e)).take (sizeT P e) = [.int q x.1] := by rw [hs, Nat.mul_one, hA]; rfl
      have hB0 : (B.drop (j * sizeT P e)).take (sizeT P e) = [.int q y.1] := by rw [hs, Nat.mul_one, hB]; rfl
      have h5 : eqT P 5 e [.int q x.1] [.int q y.1] = some (x.1 == y.1) := by simp [eqT, he]
      rw [List.range'_succ, List.foldr_cons, ih (j + 1) A B x.2 y.2 hA1 hB1, hA0, hB0, h5]
      rfl
  have := key n 0 ((ints q n).cells x) ((ints q n).cells y) x y rfl rfl
  rw [← List.range_eq_range'] at this
  unfold eqT
  simp only [ht]
  rw [if_pos (by omega)]
  exact this

/-- Where a key stands. -/
def mIdx (kt : Ty) {β : Type} (x : Tup kt) : List (Tup kt × β) → Nat → Option (Nat × β)
  | [], _ => none
  | (k, v) :: m, i => cond (kt.beq x k) (some (i, v)) (mIdx kt x m (i + 1))
theorem mIdx_get (kt : Ty) {β : Type} (x : Tup kt) : ∀ (m : List (Tup kt × β)) (i : Nat), (mIdx kt x m i).map (·.2) = mGet kt m x
  | [], _ => rfl
  | (k, v) :: m, i => by
    unfold mIdx mGet
    cases kt.beq x k with
    | true => rfl
    | false => exact mIdx_get kt x m (i + 1)
theorem mIdx_put (kt : Ty) {β : Type} (x : Tup kt) (v : β) : ∀ (m : List (Tup kt × β)) (i : Nat), match mIdx kt x m i with
    | some (j, u) => i ≤ j ∧ j - i < m.length ∧ mPut kt m x v = m.set (j - i) (x, v) ∧ ∃ k, m[j - i]? = some (k, u) ∧ kt.beq x k = true
    | none => mPut kt m x v = m ++ [(x, v)]
  | [], _ => rfl
  | (k, u) :: m, i => by
    unfold mIdx mPut
    cases e : kt.beq x k with
    | true => simp [e]
    | false =>
      simp only [cond_false]
      have := mIdx_put kt x v m (i + 1)
      cases e2 : mIdx kt x m (i + 1) with
      | none => rw [e2] at this; simp only at this ⊢; rw [this]; rfl
      | some p =>
        rw [e2] at this
        obtain ⟨j, u'⟩ := p
        simp only at this ⊢
        obtain ⟨h1, h2, h3, k', h4, h5⟩ := this
        obtain ⟨d, hd⟩ : ∃ d, j - i = d + 1 := ⟨j - i - 1, by omega⟩
        have hd2 : j - (i + 1) = d := by omega
        rw [hd2] at h2 h3 h4
        rw [hd]
        refine ⟨by omega, by simpa using h2, ?_, k', h4, h5⟩
        rw [h3]; rfl

theorem keyT_one {kt : TypeId} {k : Ty} (h : keyT P kt k = true) (ha : aggT P kt = false) : k.size = 1 := by
  unfold keyT at h
  unfold aggT at ha
  split at h
  · rw [decide_eq_true_eq] at h; subst h; rfl
  · rw [decide_eq_true_eq] at h; subst h; rfl
  · rw [decide_eq_true_eq] at h; subst h; rfl
  · rename_i hu; rw [hu] at ha; cases ha
  · cases h

/-- A key is found where it stands. -/
theorem findKey_run {kt : TypeId} {kk : Ty} (hk : keyT P kt kk = true) {β : Type} (x : Tup kk) (val : β → Value) (W : World) : ∀ (m : List (Tup kk × β)) (es : List MapEntry), m.length = es.length → (∀ (i : Nat) p e, m[i]? = some p → es[i]? = some e → e.key = kVal (aggT P kt) kk p.1) →
    ∃ r, (Instr.findKey kt (kVal (aggT P kt) kk x) es).run P W = .ok r W ∧ r.map (·.1) = (mIdx kk x m 0).map (·.1) ∧ ∀ i u, r = some (i, u) → ∃ e, es[i]? = some e ∧ e.val = u := by
  intro m es hl he
  -- by kinds whose values are looked at
  have now : ∀ (d : TypeDesc), P.underlying kt = some d → (∀ y : Tup kk, Instr.sameNow d (kVal (aggT P kt) kk x) (kVal (aggT P kt) kk y) = some (kk.beq x y)) →
      ∃ r, (Instr.findKey kt (kVal (aggT P kt) kk x) es).run P W = .ok r W ∧ r.map (·.1) = (mIdx kk x m 0).map (·.1) ∧ ∀ i u, r = some (i, u) → ∃ e, es[i]? = some e ∧ e.val = u := by
    intro d hd hs
    have key : ∀ (m : List (Tup kk × β)) (es : List MapEntry) (j : Nat), m.length = es.length → (∀ (i : Nat) p e, m[i]? = some p → es[i]? = some e → e.key = kVal (aggT P kt) kk p.1) →
        ∃ r, Instr.findNow d (kVal (aggT P kt) kk x) es j = some r ∧ r.map (·.1) = (mIdx kk x m j).map (·.1) ∧ ∀ i u, r = some (i, u) → j ≤ i ∧ ∃ e, es[i - j]? = some e ∧ e.val = u := by
      intro m
      induction m with
      | nil =>
        intro es j hl he
        cases es with
        | nil => exact ⟨none, rfl, rfl, fun i u h => by cases h⟩
        | cons e es => cases hl
      | cons p m ih =>
        intro es j hl he
        cases es with
        | nil => cases hl
        | cons e es =>
          have h0 := he 0 p e rfl rfl
          obtain ⟨k, v⟩ := p
          simp only [Instr.findNow, h0, hs, mIdx]
          cases kk.beq x k with
          | true => exact ⟨_, rfl, rfl, fun i u h => by cases h; exact ⟨Nat.le_refl _, e, by simp, rfl⟩⟩
          | false =>
            obtain ⟨r, h1, h2, h3⟩ := ih es (j + 1) (by simpa using hl) (fun i p e hp he' => he (i + 1) p e hp he')
            refine ⟨r, h1, h2, fun i u hr => ?_⟩
            obtain ⟨h4, e', h5, h6⟩ := h3 i u hr
            refine ⟨by omega, e', ?_, h6⟩
            rw [show i - j = (i - (j + 1)) + 1 by omega]
            exact h5
    obtain ⟨r, h1, h2, h3⟩ := key m es 0 hl he
    refine ⟨r, ?_, h2, fun i u hr => by obtain ⟨_, e, h5, h6⟩ := h3 i u hr; exact ⟨e, by simpa using h5, h6⟩⟩
    simp [Instr.findKey, run_underlying hd, h1]
  unfold keyT at hk
  split at hk
  · rename_i q hu
    rw [decide_eq_true_eq] at hk
    subst hk
    refine now _ hu fun y => ?_
    have : aggT P kt = false := by simp [aggT, hu]
    simp [kVal, this, Ty.vals, Instr.sameNow, Ty.beq]
  · rename_i hu
    rw [decide_eq_true_eq] at hk
    subst hk
    refine now _ hu fun y => ?_
    have : aggT P kt = false := by simp [aggT, hu]
    simp only [kVal, this, Ty.vals, Instr.sameNow, Ty.beq, Bool.and_true, Bool.false_eq_true, if_false, List.headD_cons, Option.some.injEq]
    exact beq_toListBytes _ _
  · rename_i hu
    rw [decide_eq_true_eq] at hk
    subst hk
    refine now _ hu fun y => ?_
    have : aggT P kt = false := by simp [aggT, hu]
    simp [kVal, this, Ty.vals, Instr.sameNow, Ty.beq]
  · rename_i n e hu
    split at hk <;> (try cases hk)
    rename_i q hu2
    rw [Bool.and_eq_true, decide_eq_true_eq, Nat.beq_eq] at hk
    obtain ⟨hs1, rfl⟩ := hk
    have hag : aggT P kt = true := by simp [aggT, hu]
    let c0 : Cx := ⟨fun _ => False, fun _ => undef, fun _ => none, 0⟩
    have hco : ∀ (z : Tup (ints q n)), CellsOK W c0 ((ints q n).cells z) ((ints q n).vals z).toArray := fun z => by
      refine ⟨by simp [Ty.cells_length, Ty.vals_length], fun i v y hv hy => ?_⟩
      obtain ⟨y', h1, h2, _⟩ := Ty.cells_rd _ (ints_flat q n) z c0.F W i v hv
      have : y' = y := by
        rw [List.getElem?_toArray] at hy
        rw [hy] at h1; exact (Option.some.inj h1).symm
      rw [← this]; exact .im _ _ h2
    have heq : ∀ (z : Tup (ints q n)) (W : World), (Op.equal kt (kVal (aggT P kt) (ints q n) x) (kVal (aggT P kt) (ints q n) z)).run P W = .ok ((ints q n).beq x z) W := by
      intro z W'
      have h1 := eqT_sound (w := W) (c := c0) 6 kt _ _ _ _ _ (eqT_ints hu hu2 hs1 x z) (hco x) (hco z) Op.maxDepth (by decide) W'
      have e1 : ∀ u : Tup (ints q n), valOf P kt ((ints q n).vals u).toArray = kVal (aggT P kt) (ints q n) u := fun u => by simp [valOf, kVal, hag]
      rw [e1, e1] at h1
      exact h1
    have key : ∀ (m : List (Tup (ints q n) × β)) (es : List MapEntry) (j : Nat), m.length = es.length → (∀ (i : Nat) p e, m[i]? = some p → es[i]? = some e → e.key = kVal (aggT P kt) (ints q n) p.1) →
        ∃ r, (Instr.findAsking kt (kVal (aggT P kt) (ints q n) x) es j).run P W = .ok r W ∧ r.map (·.1) = (mIdx (ints q n) x m j).map (·.1) ∧ ∀ i u, r = some (i, u) → j ≤ i ∧ ∃ e, es[i - j]? = some e ∧ e.val = u := by
      intro m
      induction m with
      | nil =>
        intro es j hl he
        cases es with
        | nil => exact ⟨none, rfl, rfl, fun i u h => by cases h⟩
        | cons e es => cases hl
      | cons p m ih =>
        intro es j hl he
        cases es with
        | nil => cases hl
        | cons e es =>
          have h0 := he 0 p e rfl rfl
          obtain ⟨k, v⟩ := p
          simp only [Instr.findAsking, h0, mIdx, Sem.run_bind, heq, Result.andThen_ok]
          cases (ints q n).beq x k with
          | true => exact ⟨_, rfl, rfl, fun i u h => by cases h; exact ⟨Nat.le_refl _, e, by simp, rfl⟩⟩
          | false =>
            obtain ⟨r, h1, h2, h3⟩ := ih es (j + 1) (by simpa using hl) (fun i p e hp he' => he (i + 1) p e hp he')
            refine ⟨r, by simpa using h1, h2, fun i u hr => ?_⟩
            obtain ⟨h4, e', h5, h6⟩ := h3 i u hr
            refine ⟨by omega, e', ?_, h6⟩
            rw [show i - j = (i - (j + 1)) + 1 by omega]
            exact h5
    obtain ⟨r, h1, h2, h3⟩ := key m es 0 hl he
    cases es with
    | nil =>
      refine ⟨none, by simp [Instr.findKey, run_underlying hu, Instr.findNow], ?_, fun i u h => by cases h⟩
      cases m with
      | nil => rfl
      | cons p m => cases hl
    | cons e es =>
      have hnow : Instr.findNow (.array n ‹_›) (kVal (aggT P kt) (ints q n) x) (e :: es) 0 = none := by simp [Instr.findNow, Instr.sameNow]
      refine ⟨r, by simp [Instr.findKey, run_underlying hu, hnow, h1], h2, fun i u hr => by obtain ⟨_, e, h5, h6⟩ := h3 i u hr; exact ⟨e, by simpa using h5, h6⟩⟩
  · cases hk

theorem mono_makeMap (h : Rel base w0 ks st a w c) {t : TypeId} {r : Option Operand} (hop : o.op = .makeMap t r) (he : evMono P st st.h.length o.type o.op = some (b, v, bs)) : MonoOK P base w0 ks st a w c o v bs := by
  rw [hop] at he
  cases r with
  | some y => simp [evMono] at he
  | none =>
    simp only [evMono] at he
    split at he <;> (try cases he)
    rename_i kt et hu
    split at he <;> (try cases he)
    rename_i k e hk1 hk2
    split at he <;> (try cases he)
    rename_i hk
    refine ⟨.map (some w.heap.size), w.alloc (.map #[] 0), c.push (.map (some w.heap.size)) (some w.heap.size), ?_, h.push _ _ (.mp _ _ _ _ _ w.heap.size #[] 0 (by simp [Cx.push]) (by simp [Cx.push]) (heap_new _ _) rfl fun i p e hp he => by simp at hp), ?_, fun h => by cases h⟩
    · simp [execOp, hop, Instr.makeMap]
    · rw [← h.hm]
      exact .mp c.m w.heap.size (by simp [Cx.push]) (by simp [Cx.push])

theorem mono_range (h : Rel base w0 ks st a w c) {t : TypeId} {x : Operand} (hop : o.op = .range t x) (he : evMono P st st.h.length o.type o.op = some (b, v, bs)) : MonoOK P base w0 ks st a w c o v bs := by
  rw [hop] at he
  simp only [evMono] at he
  split at he <;> (try cases he)
  rename_i s hu hs
  have hx := h.ev x
  rw [hs] at hx
  have hx := hx.str_inv
  refine ⟨.pointer (some ⟨w.heap.size, 0, none⟩), w.alloc (.stringIter s 0), c.push (.pointer (some ⟨w.heap.size, 0, none⟩)) (some w.heap.size), ?_, h.push _ _ (.it s 0 w.heap.size (by simp [Cx.push]) (by simp [Cx.push]) (heap_new _ _)), ?_, fun h => by cases h⟩
  · simp [execOp, hop, hx, Instr.range, run_underlying hu]
  · rw [← h.hm]
    exact .ref c.m 0 w.heap.size (by simp [Cx.push]) (by simp [Cx.push])

theorem checkKey_run' {kt : TypeId} {kk : Ty} (hk : keyT P kt kk = true) (x : Tup kk) (e : Bool) (d : Nat) (W : World) : (Instr.checkKey e (d + 2) kt (kVal (aggT P kt) kk x)).run P W = .ok () W := by
  unfold keyT at hk
  split at hk
  · rename_i hu; simp [Instr.checkKey, run_underlying hu]
  · rename_i hu; simp [Instr.checkKey, run_underlying hu]
  · rename_i hu; simp [Instr.checkKey, run_underlying hu]
  · rename_i n el hu
    split at hk <;> (try cases hk)
    rename_i q hu2
    rw [Bool.and_eq_true, decide_eq_true_eq, Nat.beq_eq] at hk
    obtain ⟨hs1, rfl⟩ := hk
    have hag : aggT P kt = true := by simp [aggT, hu]
    have hpart : ∀ (cs : Array Value) (i : Nat), i < cs.size → (part el cs (i * 1)).run P W = .ok (cs.getD i undef) W := by
      intro cs i hi
      have := run_part (P := P) hu2 cs i (fun _ => ⟨hi, by omega⟩) W
      rw [Nat.mul_one, this]
      have hna : aggT P el = false := by simp [aggT, hu2]
      rw [show (cs.extract i (i + sizeT P el)) = #[cs[i]] from by rw [hs1]; apply Array.ext'; simp only [Array.toList_extract, List.extract_eq_take_drop, Nat.add_sub_cancel_left]; rw [List.drop_eq_getElem_cons (by simpa using hi)]; simp]
      simp [valOf, hna, hi]
    have hsz : ∀ W : World, (sizeOf el).run P W = .ok 1 W := fun W => by rw [← hs1]; exact run_sizeT_pos (by omega) W
    have hck : ∀ (v : Value), (Instr.checkKey e (d + 1) el v).run P W = .ok () W := by
      intro v; simp [Instr.checkKey, run_underlying hu2]
    have hvl : ((ints q n).vals x).toArray.size = n := by
      have : ∀ n, (ints q n).size = n := by intro n; induction n with | zero => rfl | succ n ih => simp [ints, Ty.size, ih]
      simp [Ty.vals_length, this]
    have loop : ∀ (l : List Nat), (∀ i ∈ l, i < n) → (forIn l PUnit.unit fun i r => do
        Instr.checkKey e (d + 1) el (← part el ((ints q n).vals x).toArray (i * (← sizeOf el)))
        pure (ForInStep.yield PUnit.unit)).run P W = .ok PUnit.unit W := by
      intro l
      induction l with
      | nil => intro _; rfl
      | cons i l ih =>
        intro hl
        rw [List.forIn_cons]
        simp only [Sem.run_bind, hsz, Result.andThen_ok, hpart _ i (by rw [hvl]; exact hl i List.mem_cons_self), hck, Sem.run_pure]
        exact ih fun j hj => hl j (List.mem_cons_of_mem _ hj)
    have h0 := loop (List.range' 0 n) (fun i hi => by simpa using hi)
    simp only [kVal, hag, if_true]
    unfold Instr.checkKey
    simp only [Sem.run_bind, run_underlying hu, Result.andThen_ok]
    simp only [Std.Legacy.Range.forIn_eq_forIn_range', Std.Legacy.Range.size, Nat.sub_zero, Nat.add_sub_cancel, Nat.div_one]
    rw [h0]
    rfl
  · cases hk
theorem checkKey_run {kt : TypeId} {kk : Ty} (hk : keyT P kt kk = true) (x : Tup kk) (e : Bool) (W : World) : (Instr.checkKey e 10000 kt (kVal (aggT P kt) kk x)).run P W = .ok () W :=
  checkKey_run' hk x e 9998 W

/-- A key, on the machine. -/
theorem key_of {kt : TypeId} {kk : Ty} (hk : keyT P kt kk = true) {k : V} {y : Value} {cs : List V} (hv : Rv w c k y) (hc : k.cells = some cs) (ho : kk.ok cs = true) (ha : aggV k = aggT P kt) : y = kVal (aggT P kt) kk (kk.de cs) := by
  have he := kk.cells_de cs ho
  refine key_val (w := w) (c := c) (keyT_flat hk) (keyT_one hk) ?_
  rw [he]
  cases e : aggT P kt with
  | true =>
    rw [e] at ha
    cases k <;> first | cases ha | skip
    simp only [V.cells, Option.some.injEq] at hc
    subst hc
    exact hv
  | false =>
    rw [e] at ha
    cases k <;> first
      | (simp [aggV] at ha; done)
      | (simp only [V.cells, Option.some.injEq] at hc; subst hc; exact hv)
      | (simp only [V.cells] at hc; cases hc)

theorem mGetD_idx {kk : Ty} {β : Type} (x : Tup kk) (m : List (Tup kk × β)) (z : β) : mGetD kk m x z = ((mIdx kk x m 0).map (·.2)).getD z := by rw [mIdx_get]; rfl
theorem mHas_idx {kk : Ty} {β : Type} (x : Tup kk) (m : List (Tup kk × β)) : mHas kk m x = ((mIdx kk x m 0).map (·.2)).isSome := by rw [mIdx_get]; rfl

theorem mIdx_at {kk : Ty} {β : Type} (x : Tup kk) (m : List (Tup kk × β)) {i : Nat} {u : β} (h : mIdx kk x m 0 = some (i, u)) (v : β) : i < m.length ∧ ∃ k, m[i]? = some (k, u) ∧ kk.beq x k = true ∧ mPut kk m x v = m.set i (x, v) := by
  have := mIdx_put kk x v m 0
  rw [h] at this
  obtain ⟨_, h2, h3, k, h4, h5⟩ := this
  rw [Nat.sub_zero] at h2 h3 h4
  exact ⟨h2, k, h4, h5, h3⟩

theorem run_getObj_mp {w : World} {r : Nat} {es : Array MapEntry} {clock : Nat} (hb : w.heap[r]? = some (.map es clock)) : (getObj r).run P w = .ok (.map es clock) w := by simp [getObj, Sem.run, hb]
theorem zAgg_form {et : TypeId} {z : Value} {w : World} (h1 : (zeroValue et).run P w = .ok z w) : zAgg P et = aggVal z := by
  unfold zAgg
  cases hi : P.info? et with
  | none => simp [zeroValue, typeInfo, hi] at h1
  | some i =>
    cases hzz : i.zero with
    | none => simp [zeroValue, typeInfo, hi, hzz] at h1
    | some z' =>
      simp [zeroValue, typeInfo, hi, hzz] at h1
      subst h1
      simp only [hzz]

theorem mono_lookup (h : Rel base w0 ks st a w c) {t : TypeId} {x i : Operand} {ok : Bool} (hop : o.op = .lookup t x i ok) (he : evMono P st st.h.length o.type o.op = some (b, v, bs)) : MonoOK P base w0 ks st a w c o v bs := by
  rw [hop] at he
  simp only [evMono] at he
  have hx := h.ev x
  have hi := h.ev i
  split at he <;> (try cases he)
  rename_i kt et r cs hu ex hcs
  split at he <;> (try cases he)
  rename_i ka va kk ee m hbx
  split at he <;> (try cases he)
  rename_i hc
  obtain ⟨rfl, rfl, hze, hzl, hzp, hk, ho, ha, hok, hza⟩ := hc
  rw [ex] at hx
  obtain ⟨hr, q, hρ', hxq⟩ := hx.mp_inv
  obtain ⟨_, hB⟩ := h.at hbx
  cases hB with
  | mp _ _ _ _ _ k' ens clock hρ hoo hh hl hent =>
    rw [hρ] at hρ'
    simp only [Value.map.injEq, Option.some.injEq] at hρ'
    subst hρ'
    have hy := key_of hk hi hcs ho ha
    obtain ⟨res, hf1, hf2, hf3⟩ := findKey_run (W := w) hk (kk.de cs) (fun _ : Tup ee => undef) m ens.toList (by simpa using hl) (fun j p e hp he' => by
      exact key_val (c := c) (w := w) (keyT_flat hk) (keyT_one hk) (.im _ _ (hent j p e hp (by simpa using he')).1))
    -- the value that is found, or nothing's
    have hz : zeroT P et = ee.cells ee.zero := by unfold zeroT; rw [hze]
    have hzl' : (zeroT P et).length = sizeT P et := by
      rw [hz, Ty.cells_length]
      unfold tyZ at hze
      split at hze <;> (try cases hze)
      rename_i t0 ht0
      cases e0 : zeroOK (t0.cells t0.zero) (zcells P et) with
      | false => rw [e0] at hze; cases hze
      | true =>
        rw [e0] at hze
        cases hze
        have := (zeroOK_rd (w := w) _ _ e0).1
        rw [Ty.cells_length] at this
        rw [this, hzl]
    obtain ⟨z, hz1, hz2, hz3, hz4⟩ := zeroT_sound hzp hzl' w c
    have hzero : Rv w c (mkV (aggT P et) (ee.cells ee.zero)) z := by
      have hform := zAgg_form (hz1 w)
      rw [hza] at hform
      rw [hz] at hz4
      have hcl : (ee.cells ee.zero).length = sizeT P et := by rw [← hz]; exact hzl'
      unfold mkV
      cases eg : aggT P et with
      | true =>
        rw [eg] at hform
        cases z <;> first | (simp [aggVal] at hform; done) | skip
        simp only [if_true]
        exact .agg _ _ (by rw [hcl]; exact hz2.symm) (fun i y hy => hz3 i y hy) fun i u y hu hy => .im _ _ (hz4 i u y hu hy)
      | false =>
        rw [eg] at hform
        have hs1 : sizeT P et = 1 := by simp [okT, eg] at hok; exact hok.2
        rw [hs1] at hcl
        simp only [Bool.false_eq_true, if_false]
        obtain ⟨u, hu⟩ := List.length_eq_one_iff.1 hcl
        rw [hu] at hz4 ⊢
        have hzc : z.cells[0]? = some z := by cases z <;> first | rfl | (simp [aggVal] at hform; done)
        exact .im _ _ (hz4 0 u z rfl hzc)
    have hval : ∃ y, (res.elim z (·.2)) = y ∧ Rv w c (mkV (aggT P et) (ee.cells (mGetD kk m (kk.de cs) ee.zero))) y ∧ res.isSome = mHas kk m (kk.de cs) := by
      rw [mGetD_idx, mHas_idx]
      cases res with
      | none =>
        cases e : mIdx kk (kk.de cs) m 0 with
        | some p => rw [e] at hf2; cases hf2
        | none => exact ⟨z, rfl, hzero, rfl⟩
      | some p =>
        obtain ⟨j, u⟩ := p
        cases e : mIdx kk (kk.de cs) m 0 with
        | none => rw [e] at hf2; cases hf2
        | some p' =>
          obtain ⟨j', u'⟩ := p'
          rw [e] at hf2
          simp only [Option.map_some, Option.some.injEq] at hf2
          subst hf2
          obtain ⟨e2, he2, rfl⟩ := hf3 j u rfl
          obtain ⟨_, k2, h4, _, _⟩ := mIdx_at _ m e u'
          exact ⟨_, rfl, .im _ _ (hent j _ e2 h4 (by simpa using he2)).2, rfl⟩
    obtain ⟨y, hy1, hy2, hy3⟩ := hval
    have hrun : ∀ ok, (Instr.lookup t (.map (some k')) (kVal (aggT P kt) kk (kk.de cs)) ok).run P w = .ok (if ok then .tuple #[y, .bool (mHas kk m (kk.de cs))] else y) w := by
      intro ok
      cases res with
      | none =>
        subst hy1
        simp only [Option.isSome_none] at hy3
        simp only [Instr.lookup, Sem.run_bind, run_underlying hu, Result.andThen_ok, run_getObj_mp hh, checkKey_run hk, hf1, hz1, Sem.run_pure, ← hy3, Option.elim_none]
      | some p =>
        subst hy1
        obtain ⟨j, u⟩ := p
        simp only [Option.isSome_some] at hy3
        simp only [Instr.lookup, Sem.run_bind, run_underlying hu, Result.andThen_ok, run_getObj_mp hh, checkKey_run hk, hf1, Sem.run_pure, ← hy3, Option.elim_some]
    have hrun2 : (execOp a.eval o).run P w = .ok (.value (if ok then .tuple #[y, .bool (mHas kk m (kk.de cs))] else y)) w := by
      simp only [execOp, hop, hxq, hy, Sem.run_bind, hrun, Result.andThen_ok, Sem.run_pure]
    cases ok with
    | false =>
      simp only [cond_false, Option.some.injEq, Prod.mk.injEq] at he
      obtain ⟨_, rfl, rfl⟩ := he
      exact .stay h hrun2 hy2
    | true =>
      simp only [cond_true, Option.some.injEq, Prod.mk.injEq] at he
      obtain ⟨_, rfl, rfl⟩ := he
      refine .stay h hrun2 (.tup _ _ rfl fun i u z hu hz => ?_)
      match i, hu, hz with
      | 0, hu, hz => cases hu; cases hz; exact hy2
      | 1, hu, hz => cases hu; cases hz; exact .im _ _ (.bool _)

theorem mono_cap (h : Rel base w0 ks st a w c) {args : Array Operand} {tys : Array TypeId} (hop : o.op = .call { callee := .builtin .cap, args := args, argTypes := tys }) (he : evMono P st st.h.length o.type o.op = some (b, v, bs)) : MonoOK P base w0 ks st a w c o v bs := by
  rw [hop] at he
  simp only [evMono] at he
  split at he <;> (try cases he)
  rename_i x t hax hat
  have hargs : args = #[x] := by apply Array.ext'; exact hax
  have htys : tys = #[t] := by apply Array.ext'; exact hat
  subst hargs; subst htys
  have hx := h.ev x
  split at he
  · rename_i e' sz n g hu e
    simp only [Option.some.injEq, Prod.mk.injEq] at he
    obtain ⟨rfl, rfl, rfl⟩ := he
    rw [e] at hx
    cases hx with
    | im _ _ hd =>
      generalize hq : a.eval x = y at hd
      cases hd
      exact .stay h (x := .int .i64 0) (by simp [execOp, hop, resolve, invoke, builtin, Builtin.cap_, hq, run_underlying hu, goInt]) (.im _ _ (.int _ _))
  · rename_i e' r hu e
    rw [e] at hx
    obtain ⟨_, hxr, _⟩ := hx.own_inv
    split at he <;> (try cases he)
    rename_i wr sz n g hbx
    obtain ⟨_, hB⟩ := h.at hbx
    cases hB with
    | rowNil _ _ _ hz hρ ho =>
      rw [hρ] at hxr
      exact .stay h (x := .int .i64 0) (by simp [execOp, hop, resolve, invoke, builtin, Builtin.cap_, hxr, run_underlying hu, goInt]) (.im _ _ (.int _ _))
  · rename_i _ n e' hu
    simp only [Option.some.injEq, Prod.mk.injEq] at he
    obtain ⟨rfl, rfl, rfl⟩ := he
    exact .stay h (x := .int .i64 n) (by simp [execOp, hop, resolve, invoke, builtin, Builtin.cap_, run_underlying hu, goInt]) (.im _ _ (.int _ _))
  · cases he

/-- A new row. -/
theorem row_new_fz (h : Rel base w0 ks st a w c) (e : TypeId) (fz : Nat × Nat) {sz n cap : Nat} {g : Cells} {xs : Array Value} (hz : 0 < sz) (hs : xs.size = cap * sz) (hc : n ≤ cap) (h1 : ∀ (i : Nat) x, xs[i]? = some x → one x) (hg : ∀ i, i < n → (g i).length = sz)
    (hh : RowCells w c.F sz n g xs) (hfz : ∀ j, j < xs.size → ¬ (fz.1 ≤ j ∧ j < fz.2)) :
    Rel base w0 ks { st with h := st.h ++ [.row true false sz n g] } a (w.alloc (.cells xs e fz)) (c.push (.slice (some ⟨w.heap.size, 0, none⟩) n cap) (some w.heap.size)) ∧
    Rv (w.alloc (.cells xs e fz)) (c.push (.slice (some ⟨w.heap.size, 0, none⟩) n cap) (some w.heap.size)) (.own st.h.length) (.slice (some ⟨w.heap.size, 0, none⟩) n cap) := by
  refine ⟨h.push _ _ (.row true sz n cap g e w.heap.size xs fz hz (by simp [Cx.push]) (by simp [Cx.push]) (heap_new _ _) hfz hs hc h1 hg (hh.mono (fun k hk => Below.heap_alloc w _ k (h.lt k hk)) fun k hk => hk)), ?_⟩
  rw [← h.hm]
  exact .own c.m (by simp [Cx.push]) _ _ _ (by simp [Cx.push])

/-- A new row. -/
theorem row_new (h : Rel base w0 ks st a w c) (e : TypeId) {sz n cap : Nat} {g : Cells} {xs : Array Value} (hz : 0 < sz) (hs : xs.size = cap * sz) (hc : n ≤ cap) (h1 : ∀ (i : Nat) x, xs[i]? = some x → one x) (hg : ∀ i, i < n → (g i).length = sz)
    (hh : RowCells w c.F sz n g xs) :
    Rel base w0 ks { st with h := st.h ++ [.row true false sz n g] } a (w.alloc (.cells xs e)) (c.push (.slice (some ⟨w.heap.size, 0, none⟩) n cap) (some w.heap.size)) ∧
    Rv (w.alloc (.cells xs e)) (c.push (.slice (some ⟨w.heap.size, 0, none⟩) n cap) (some w.heap.size)) (.own st.h.length) (.slice (some ⟨w.heap.size, 0, none⟩) n cap) := row_new_fz h e (0, 0) hz hs hc h1 hg hh fun j _ => by omega

/-- What is appended, as the machine reads it. -/
theorem slOf_reads (h : Rel base w0 ks st a w c) {Y : V} {y : Value} {nl : Bool} {sz m : Nat} {g : Cells} (hs : slOf st.h Y = some (nl, sz, m, g)) (hv : Rv w c Y y) :
    ∃ A cap, ∃ z : Nat → Nat → Value, y = .slice A m cap ∧ (m = 0 ∨ ∃ q off, A = some ⟨q, off, none⟩ ∧ ∀ i j, i < m → j < sz → w.cell? ⟨q, off + (i * sz + j), none⟩ = some (z i j)) ∧ (∀ i j, i < m → j < sz → one (z i j)) ∧
      (∀ i, i < m → (g i).length = sz) ∧ ∀ (i j : Nat) u, i < m → (g i)[j]? = some u → Rd w c.F u (z i j) := by
  have ofRd : ∀ {y : Value}, Rd w c.F (.sl nl sz m g) y → ∃ A cap, ∃ z : Nat → Nat → Value, y = .slice A m cap ∧ (m = 0 ∨ ∃ q off, A = some ⟨q, off, none⟩ ∧ ∀ i j, i < m → j < sz → w.cell? ⟨q, off + (i * sz + j), none⟩ = some (z i j)) ∧ (∀ i j, i < m → j < sz → one (z i j)) ∧
      (∀ i, i < m → (g i).length = sz) ∧ ∀ (i j : Nat) u, i < m → (g i)[j]? = some u → Rd w c.F u (z i j) := by
    intro y hd
    cases hd with
    | slNil => exact ⟨none, 0, fun _ _ => undef, rfl, .inl rfl, fun i j hi => by omega, fun i hi => by omega, fun i j u hi => by omega⟩
    | slE _ cap _ A => exact ⟨some A, cap, fun _ _ => undef, rfl, .inl rfl, fun i j hi => by omega, fun i hi => by omega, fun i j u hi => by omega⟩
    | sl _ _ cap _ q off z hc hF hsz hx hh => exact ⟨_, cap, z, rfl, .inr ⟨q, off, rfl, fun i j hi hj => (hx i j hi hj).1⟩, fun i j hi hj => (hx i j hi hj).2, hsz, hh⟩
  unfold slOf at hs
  split at hs
  · simp only [Option.some.injEq, Prod.mk.injEq] at hs
    obtain ⟨rfl, rfl, rfl, rfl⟩ := hs
    cases hv with
    | im _ _ hd => exact ofRd hd
  · split at hs <;> (try cases hs)
    rename_i hbx
    obtain ⟨_, rfl, _⟩ := hv.own_inv
    obtain ⟨_, hB⟩ := h.at hbx
    cases hB with
    | rowNil wr sz g hz hρ ho => rw [hρ]; exact ⟨none, 0, fun _ _ => undef, rfl, .inl rfl, fun i j hi => by omega, fun i hi => by omega, fun i j u hi => by omega⟩
    | rowFull wr _ _ _ A2 hz hw hρ ho hd => rw [hρ]; exact ofRd hd
    | row wr _ _ cap _ ty k xs fz hz hρ ho hk hfz hs hc h1 hg hh =>
      rw [hρ]
      have hbd : ∀ i j, i < m → j < sz → i * sz + j < xs.size := by
        intro i j hi hj
        have : (i + 1) * sz ≤ cap * sz := Nat.mul_le_mul_right _ (by omega)
        rw [Nat.add_mul, Nat.one_mul] at this
        omega
      refine ⟨_, cap, fun i j => xs.getD (i * sz + j) undef, rfl, .inr ⟨k, 0, rfl, fun i j hi hj => ?_⟩, fun i j hi hj => ?_, hg, fun i j u hi hu => ?_⟩
      · have hlt := hbd i j hi hj
        rw [Nat.zero_add, cellAt hk, Array.getElem?_eq_getElem hlt]
        simp only [Array.getD_eq_getD_getElem?, Array.getElem?_eq_getElem hlt, Option.getD_some]
      · have hlt := hbd i j hi hj
        simp only [Array.getD_eq_getD_getElem?, Array.getElem?_eq_getElem hlt, Option.getD_some]
        exact h1 _ _ (Array.getElem?_eq_getElem hlt)
      · obtain ⟨x, hx, hr⟩ := hh i j u hi hu
        simp only [Array.getD_eq_getD_getElem?, hx, Option.getD_some]
        exact hr
  · cases hs

theorem byteAt_get {s : ByteArray} {i : Nat} (hi : i < s.size) : byteAt s i = (s.data[i].toNat : Int) := by
  unfold byteAt
  rw [Int.toNat_natCast, List.getElem?_eq_getElem (by simpa using hi)]
  simp

theorem conv_bytes (h : Rel base w0 ks st a w c) {s t : TypeId} {x : Operand} {y : ByteArray} {e' : TypeId} (hop : o.op = .convert s t x) (e1 : P.underlying s = some .string) (e2 : P.underlying t = some (.slice e')) (hx : a.eval x = .string y) (hb : bytesTy P t = true) :
    MonoOK P base w0 ks st a w c o (.own st.h.length) [.row true false 1 y.size (.typ (.int .u8 .nil) (byteG y))] := by
  have he : P.underlying e' = some (.int .u8) := by
    unfold bytesTy at hb
    rw [e2] at hb
    simp only at hb
    split at hb
    · assumption
    · cases hb
  have hrun := run_bytes_of_string (P := P) w s t e' y e1 e2 he
  have hcap : y.size ≤ grownCap w y.size 0 e' := by simp only [grownCap, Question.cut]; omega
  have hsz : (bytesRow y (grownCap w y.size 0 e')).size = grownCap w y.size 0 e' * 1 := by
    simp only [bytesRow, Array.size_append, Array.size_map, Array.size_replicate, Nat.mul_one]
    have : y.data.size = y.size := rfl
    omega
  have hrow := row_new_fz h.drew e' ((bytesRow y (grownCap w y.size 0 e')).size, (bytesRow y (grownCap w y.size 0 e')).size + 1) (sz := 1) (n := y.size) (g := .typ (.int .u8 .nil) (byteG y)) (by omega) hsz hcap
    (fun i z hz => by
      unfold bytesRow at hz
      rw [Array.getElem?_append] at hz
      split at hz
      · simp only [Array.getElem?_map, Option.map_eq_some_iff] at hz
        obtain ⟨_, _, rfl⟩ := hz
        rfl
      · rw [Array.getElem?_replicate] at hz
        split at hz <;> (try cases hz)
        rfl)
    (fun i hi => rfl)
    (fun i j u hi hu => by
      obtain rfl : j = 0 := by
        have := (List.getElem?_eq_some_iff.1 hu).1
        simp only [Cells.fn, Ty.cells, List.length_singleton] at this
        omega
      simp only [Cells.fn, Ty.cells, byteG, List.getElem?_cons_zero, Option.some.injEq] at hu
      subst hu
      have hi' : i < y.data.size := hi
      refine ⟨.int .u8 (y.data[i].toNat : Int), ?_, ?_⟩
      · unfold bytesRow
        rw [Nat.mul_one, Nat.add_zero, Array.getElem?_append_left (by simpa using hi'), Array.getElem?_map, Array.getElem?_eq_getElem hi']
        rfl
      · rw [byteAt_get hi]
        exact .int _ _)
    (fun j hj => by simp only; omega)
  refine ⟨_, _, _, ?_, hrow.1, hrow.2, fun h => by cases h⟩
  simp only [execOp, hop, hx, Sem.run_bind, hrun, Result.andThen_ok, Sem.run_pure]
  rfl

theorem bytesC_some {g : Cells} {n : Nat} {s : ByteArray} (h : bytesC g n = some s) : ∃ G, g = .typ (.int .u8 .nil) G ∧ s = bytesT n G := by
  unfold bytesC at h
  split at h
  · split at h <;> (try cases h)
    rename_i t G e
    subst e
    exact ⟨G, rfl, rfl⟩
  · cases h

theorem fold_bytes (l : List Int) : l.foldl (fun r n => r.push (UInt8.ofNat n.toNat)) ByteArray.empty = ⟨(l.map fun n => UInt8.ofNat n.toNat).toArray⟩ := by
  have key : ∀ (l : List Int) (r : ByteArray), l.foldl (fun r n => r.push (UInt8.ofNat n.toNat)) r = ⟨r.data ++ (l.map fun n => UInt8.ofNat n.toNat).toArray⟩ := by
    intro l
    induction l with
    | nil => intro r; simp
    | cons n l ih => intro r; simp only [List.foldl_cons, ih]; simp [ByteArray.push]
  rw [key]
  have he0 : ByteArray.empty.data = #[] := rfl
  rw [he0]
  simp

theorem conv_text (h : Rel base w0 ks st a w c) {s t : TypeId} {x : Operand} {e' : TypeId} {nl : Bool} {n : Nat} {G : Nat → Tup (.int .u8 .nil)} (hop : o.op = .convert s t x) (e1 : P.underlying s = some (.slice e')) (e2 : P.underlying t = some .string)
    (hs : slOf st.h (ev st x) = some (nl, 1, n, .typ (.int .u8 .nil) G)) (hb : bytesTy P s = true) : MonoOK P base w0 ks st a w c o (.str (bytesT n G)) [] := by
  have he : P.underlying e' = some (.int .u8) := by
    unfold bytesTy at hb
    rw [e1] at hb
    simp only at hb
    split at hb
    · assumption
    · cases hb
  obtain ⟨A, cap, z, hy, hm, hz1, hzg, hzr⟩ := slOf_reads h hs (h.ev x)
  have hzv : ∀ i, i < n → z i 0 = .int .u8 (G i).1 := by
    intro i hi
    have := hzr i 0 (.int .u8 (G i).1) hi rfl
    exact (Rv.im (c := c) _ _ this).int_inv
  refine .stay h (x := .string (bytesT n G)) ?_ (.im _ _ (.str _))
  have hconv : (convert s t (.slice A n cap)).run P w = .ok (.string (bytesT n G)) w := by
    rw [run_convert_bytes_string w s t e' A n cap e1 he e2]
    cases A with
    | none =>
      rcases hm with rfl | ⟨q, off, hq, _⟩
      · simp only [Conv.bytesToString, Sem.run_pure]
        rfl
      · cases hq
    | some q =>
      have hcell : ∀ (j : Nat) v, (((List.range n).map fun i => (G i).1).map (Value.int .u8))[j]? = some v → w.cell? (q.add j) = some v := by
        intro j v hj
        simp only [List.getElem?_map, Option.map_eq_some_iff] at hj
        obtain ⟨_, ⟨i, hi, rfl⟩, rfl⟩ := hj
        obtain ⟨hi1, hi2⟩ := List.getElem?_eq_some_iff.1 hi
        simp at hi1 hi2
        subst hi2
        rcases hm with rfl | ⟨q', off, hq, hc⟩
        · omega
        · cases hq
          have := hc j 0 hi1 (by omega)
          rw [hzv j hi1] at this
          rw [addp]
          simpa using this
      have hl := run_loadCells_list (P := P) w q _ hcell
      simp only [List.length_map, List.length_range] at hl
      rw [run_bytesToString w q n cap _ hl, fold_bytes]
      simp only [bytesT, List.map_map]
      rfl
  simp only [execOp, hop, hy, Sem.run_bind, hconv, Result.andThen_ok, Sem.run_pure]

theorem mono_convert (h : Rel base w0 ks st a w c) {s t : TypeId} {x : Operand} (hop : o.op = .convert s t x) (he : evMono P st st.h.length o.type o.op = some (b, v, bs)) : MonoOK P base w0 ks st a w c o v bs := by
  rw [hop] at he
  simp only [evMono] at he
  have hx := h.ev x
  split at he
  · rename_i k k' n e1 e2 e
    simp only [Option.some.injEq, Prod.mk.injEq] at he
    obtain ⟨_, rfl, rfl⟩ := he
    rw [e] at hx
    have := hx.int_inv
    exact .stay h (x := .int k (k.wrap n)) (by simp [execOp, hop, this, convert, run_underlying e1, run_underlying e2, Conv.intToInt]) (.im _ _ (.int _ _))
  · rename_i y e1 e2 e
    simp only [Option.some.injEq, Prod.mk.injEq] at he
    obtain ⟨_, rfl, rfl⟩ := he
    rw [e] at hx
    have := hx.str_inv
    exact .stay h (x := .string y) (by simp [execOp, hop, this, convert, run_underlying e1, run_underlying e2]) (.im _ _ (.str _))
  · rename_i k' n e1 e2 e
    simp only [Option.some.injEq, Prod.mk.injEq] at he
    obtain ⟨_, rfl, rfl⟩ := he
    rw [e] at hx
    have := hx.int_inv
    exact .stay h (x := .string (Utf8.encode n)) (by simp [execOp, hop, this, convert, run_underlying e1, run_underlying e2, Conv.intToString]) (.im _ _ (.str _))
  · rename_i e' y e1 e2 e
    split at he <;> (try cases he)
    rename_i hb
    rw [e] at hx
    exact conv_bytes h hop e1 e2 hx.str_inv hb
  · rename_i e' e1 e2
    split at he <;> (try cases he)
    rename_i hb
    split at he <;> (try cases he)
    rename_i nl sz n g hs
    split at he <;> (try cases he)
    rename_i hsz
    subst hsz
    split at he <;> (try cases he)
    rename_i y hy
    obtain ⟨G, rfl, rfl⟩ := bytesC_some hy
    exact conv_text h hop e1 e2 hs hb
  · cases he

end
end Go.Rv
