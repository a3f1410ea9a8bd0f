/- Rv, part F: operations that write nothing that was there do as the evaluator says. Of no program. -/
import Derived.Test.YtmoeohjaafpmgaaRvE
import Derived.Laws.Append
import Derived.Laws.MakeOwn
set_option linter.unusedVariables false
set_option linter.unusedSimpArgs false
set_option linter.unusedSectionVars false
namespace Go.Rv
open Go Go.RowKit
variable [Fx]

theorem cells_sound {w : World} {c : Cx} {v : V} {x : Value} (h : Rv w c v x) {vs : List V} (hv : v.cells = some vs) :
    vs.length = x.cells.size ∧ (∀ (i : Nat) y, x.cells[i]? = some y → one y) ∧ ∀ (i : Nat) u y, vs[i]? = some u → x.cells[i]? = some y → Rv w c u y := by
  have single : ∀ {v : V} {x : Value}, Rv w c v x → one x → [v].length = x.cells.size ∧ (∀ (i : Nat) y, x.cells[i]? = some y → one y) ∧ ∀ (i : Nat) u y, [v][i]? = some u → x.cells[i]? = some y → Rv w c u y := by
    intro v x h h1
    have hc : x.cells = #[x] := by cases x <;> first | rfl | (simp [one, Value.oneCell'] at h1)
    rw [hc]
    refine ⟨rfl, fun i y hy => ?_, fun i u y hu hy => ?_⟩
    · cases i with
      | zero => simp at hy; subst hy; exact h1
      | succ i => simp at hy
    · cases i with
      | zero => simp at hu hy; subst hu; subst hy; exact h
      | succ i => simp at hu
  cases v with
  | agg cs =>
    simp only [V.cells, Option.some.injEq] at hv
    subst hv
    obtain ⟨xs, rfl, hl, h1, hh⟩ := h.agg_inv
    exact ⟨hl, h1, hh⟩
  | tup vs => simp [V.cells] at hv
  | dead => simp [V.cells] at hv
  | bool b => simp only [V.cells, Option.some.injEq] at hv; subst hv; exact single h (by rw [h.bool_inv]; rfl)
  | int k n => simp only [V.cells, Option.some.injEq] at hv; subst hv; exact single h (by rw [h.int_inv]; rfl)
  | str s => simp only [V.cells, Option.some.injEq] at hv; subst hv; exact single h (by rw [h.str_inv]; rfl)
  | sl a b n g =>
    simp only [V.cells, Option.some.injEq] at hv; subst hv
    refine single h ?_
    cases h with
    | im _ _ h => cases h <;> rfl
  | own r =>
    simp only [V.cells, Option.some.injEq] at hv; subst hv
    obtain ⟨_, _, A, n, cap, rfl⟩ := h.own_inv
    exact single h rfl
  | ref r o =>
    simp only [V.cells, Option.some.injEq] at hv; subst hv
    obtain ⟨_, b, _, rfl⟩ := h.ref_inv
    exact single h rfl
  | eptr cs =>
    simp only [V.cells, Option.some.injEq] at hv; subst hv
    refine single h ?_
    cases h with
    | im _ _ h => cases h; rfl
  | wptr r s i o =>
    simp only [V.cells, Option.some.injEq] at hv; subst hv
    obtain ⟨_, b, n, cap, _, rfl⟩ := h.wptr_inv
    exact single h rfl
  | mp r =>
    simp only [V.cells, Option.some.injEq] at hv; subst hv
    obtain ⟨_, b, _, rfl⟩ := h.mp_inv
    exact single h rfl
  | nilp =>
    simp only [V.cells, Option.some.injEq] at hv; subst hv
    refine single h ?_
    cases h with
    | im _ _ h => cases h; rfl
  | nilm =>
    simp only [V.cells, Option.some.injEq] at hv; subst hv
    refine single h ?_
    cases h with
    | im _ _ h => cases h; rfl
  | nilf =>
    simp only [V.cells, Option.some.injEq] at hv; subst hv
    refine single h ?_
    cases h with
    | im _ _ h => cases h; rfl
  | nili =>
    simp only [V.cells, Option.some.injEq] at hv; subst hv
    refine single h ?_
    cases h with
    | im _ _ h => cases h; rfl
  | func fn a b =>
    simp only [V.cells, Option.some.injEq] at hv; subst hv
    obtain ⟨ys, zs, rfl, _⟩ := h.func_inv
    exact single h rfl
  | iface t u =>
    simp only [V.cells, Option.some.injEq] at hv; subst hv
    obtain ⟨y, rfl, _⟩ := h.iface_inv
    exact single h rfl

theorem putAt_length {β : Type} (cs : List β) (off : Nat) (vs : List β) (h : off + vs.length ≤ cs.length) : (putAt cs off vs).length = cs.length := by
  simp [putAt]; omega
theorem putAt_get {β : Type} (cs : List β) (off : Nat) (vs : List β) (h : off + vs.length ≤ cs.length) (i : Nat) :
    (putAt cs off vs)[i]? = if off ≤ i ∧ i < off + vs.length then vs[i - off]? else cs[i]? := by
  unfold putAt
  by_cases h1 : i < off
  · rw [List.append_assoc, List.getElem?_append_left (by simp; omega), List.getElem?_take, if_pos h1, if_neg (by omega)]
  · by_cases h2 : i < off + vs.length
    · rw [List.getElem?_append_left (by simp; omega), List.getElem?_append_right (by simp; omega), if_pos (by omega)]
      congr 1
      simp
      omega
    · rw [List.getElem?_append_right (by simp; omega), if_neg (by omega), List.getElem?_drop]
      congr 1
      simp
      omega

/-- Instr.fill's inner fold is putAt. -/
theorem fold_set (off : Nat) : ∀ (l : List Value) (k : Nat) (cells : Array Value), off + k + l.length ≤ cells.size →
    ((l.zipIdx k).foldl (fun cs (p : Value × Nat) => cs.setIfInBounds (off + p.2) p.1) cells).toList = putAt cells.toList (off + k) l := by
  intro l
  induction l with
  | nil => intro k cells _; simp [putAt]
  | cons x l ih =>
    intro k cells h
    simp only [List.length_cons] at h
    simp only [List.zipIdx_cons, List.foldl_cons]
    rw [ih (k + 1) _ (by simp; omega)]
    apply List.ext_getElem?
    intro i
    rw [putAt_get _ _ _ (by simp; omega), putAt_get _ _ _ (by simp; omega)]
    simp only [Array.toList_setIfInBounds, List.length_cons, List.getElem?_set, Array.length_toList]
    by_cases h1 : i = off + k
    · subst h1
      rw [if_neg (by omega), if_pos rfl, if_pos (by omega), if_pos (by omega)]
      simp
    · by_cases h2 : off + (k + 1) ≤ i ∧ i < off + (k + 1) + l.length
      · rw [if_pos h2, if_pos (by omega)]
        rw [show i - (off + k) = (i - (off + (k + 1))) + 1 by omega, List.getElem?_cons_succ]
      · rw [if_neg h2, if_neg (by omega), if_neg (by omega)]

theorem fill_sound {w : World} {c : Cx} {place : Nat → Option (Nat × Nat)} : ∀ (ps : List (Nat × V)) (qs : List (Nat × Value)) (cs cs' : List V) (ys : Array Value), fillV place cs ps = some cs' →
    ps.map (·.1) = qs.map (·.1) → (∀ (i : Nat) p q, ps[i]? = some p → qs[i]? = some q → Rv w c p.2 q.2) → cs.length = ys.size → (∀ (i : Nat) y, ys[i]? = some y → one y) → (∀ (i : Nat) u y, cs[i]? = some u → ys[i]? = some y → Rv w c u y) →
    ∃ ys' : Array Value, Instr.fill place ys qs = some ys' ∧ cs'.length = ys'.size ∧ (∀ (i : Nat) y, ys'[i]? = some y → one y) ∧ ∀ (i : Nat) u y, cs'[i]? = some u → ys'[i]? = some y → Rv w c u y := by
  intro ps
  induction ps with
  | nil =>
    intro qs cs cs' ys hf hq _ hl h1 hh
    cases qs with
    | cons q qs => simp at hq
    | nil =>
      simp only [fillV, Option.some.injEq] at hf
      subst hf
      exact ⟨ys, rfl, hl, h1, hh⟩
  | cons p ps ih =>
    intro qs cs cs' ys hf hq hr hl h1 hh
    cases qs with
    | nil => simp at hq
    | cons q qs =>
      obtain ⟨i, v⟩ := p
      obtain ⟨j, x⟩ := q
      simp only [List.map_cons, List.cons.injEq] at hq
      obtain ⟨rfl, hq⟩ := hq
      simp only [fillV] at hf
      cases hp : place i with
      | none => rw [hp] at hf; cases hf
      | some os =>
        obtain ⟨off, size⟩ := os
        rw [hp] at hf
        cases hc : v.cells with
        | none => rw [hc] at hf; cases hf
        | some vs =>
          rw [hc] at hf
          simp only at hf
          split at hf
          · rename_i hle
            obtain ⟨rfl, hle⟩ := hle
            obtain ⟨hvl, hv1, hvr⟩ := cells_sound (x := x) (hr 0 _ _ rfl rfl) hc
            have hfold := fold_set off x.cells.toList 0 ys (by simp; omega)
            have hset : x.cells.zipIdx.foldl (fun cs (p : Value × Nat) => cs.setIfInBounds (off + p.2) p.1) ys = (putAt ys.toList off x.cells.toList).toArray := by
              apply Array.ext'
              rw [← Array.foldl_toList, Array.toList_zipIdx, hfold]
              simp
            have hpl := putAt_length ys.toList off x.cells.toList (by simp; omega)
            obtain ⟨ys', e1, e2, e3, e4⟩ := ih qs _ cs' (putAt ys.toList off x.cells.toList).toArray hf hq (fun k p q hp hq => hr (k + 1) p q hp hq)
              (by rw [putAt_length _ _ _ hle]; simp [hpl, hl])
              (fun k y hy => by
                simp only [List.getElem?_toArray] at hy
                rw [putAt_get _ _ _ (by simp; omega)] at hy
                split at hy
                · exact hv1 _ y (by simpa using hy)
                · exact h1 _ y (by simpa using hy))
              (fun k u y hu hy => by
                simp only [List.getElem?_toArray] at hy
                rw [putAt_get _ _ _ (by simp; omega)] at hy
                rw [putAt_get _ _ _ hle] at hu
                simp only [Array.length_toList] at hy
                split at hu
                · rename_i hk
                  rw [if_pos (by omega)] at hy
                  exact hvr _ u y hu (by simpa using hy)
                · rename_i hk
                  rw [if_neg (by omega)] at hy
                  exact hh _ u y hu (by simpa using hy))
            refine ⟨ys', ?_, e2, e3, e4⟩
            simp only [Instr.fill, hp]
            rw [if_neg (by simp; omega), hset]
            exact e1
          · cases hf

theorem heap_new (w : World) (o : Obj) : (w.alloc o).heap[w.heap.size]? = some o := by
  show (w.heap.push o)[w.heap.size]? = _
  simp

theorem rel_append_nil (st : St) : ({ st with h := st.h ++ [] } : St) = st := by cases st; simp

section
variable {P : Program} {base : Base} {w0 : World} {ks : List (Array Value)} {st : St} {a : Act} {w : World} {c : Cx} {o : Oper} {v : V} {bs : List B}

/-- The operation yields a value as the evaluator says; new places lie behind the old ones. -/
def MonoOK (P : Program) (base : Base) (w0 : World) (ks : List (Array Value)) (st : St) (a : Act) (w : World) (c : Cx) (o : Oper) (v : V) (bs : List B) : Prop :=
  ∃ x w' c', (execOp a.eval o).run P w = .ok (.value x) w' ∧ Rel base w0 ks { st with h := st.h ++ bs } a w' c' ∧ Rv w' c' v x ∧ (bs = [] → w' = w ∧ c' = c)

theorem MonoOK.stay (h : Rel base w0 ks st a w c) {x : Value} (hr : (execOp a.eval o).run P w = .ok (.value x) w) (hv : Rv w c v x) : MonoOK P base w0 ks st a w c o v [] :=
  ⟨x, w, c, hr, by rw [rel_append_nil]; exact h, hv, fun _ => ⟨rfl, rfl⟩⟩

theorem mono_move (h : Rel base w0 ks st a w c) {x : Operand} (hop : o.op = .move x ∨ o.op = .assign x) {b : Bool} (he : evMono P st st.h.length o.type o.op = some (b, v, bs)) (hb : b = true) : MonoOK P base w0 ks st a w c o v bs := by
  have hrun : (execOp a.eval o).run P w = .ok (.value (a.eval x)) w := by rcases hop with hop | hop <;> simp [execOp, hop]
  have he' : movV P st st.h.length o.type x = some (b, v, bs) := by rcases hop with hop | hop <;> (rw [hop] at he; exact he)
  clear he
  unfold movV at he'
  split at he'
  · split at he'
    · rename_i hz
      simp only [Option.some.injEq, Prod.mk.injEq] at he'
      obtain ⟨_, rfl, rfl⟩ := he'
      refine ⟨_, w, c.push (.slice none 0 0) none, hrun, h.pushNone _ (.rowNil _ _ _ hz ?_ ?_), ?_, fun h => by cases h⟩
      · simp [Cx.push]
      · simp [Cx.push]
      · rw [← h.hm]
        exact .own c.m (by simp [Cx.push]) none 0 0 (by simp [Cx.push])
    · cases he'
  · simp only [Option.some.injEq, Prod.mk.injEq] at he'
    obtain ⟨_, rfl, rfl⟩ := he'
    exact .stay h hrun (h.ev x)

/-- A new variable. -/
theorem box_new (h : Rel base w0 ks st a w c) (e : TypeId) {cs : List V} {xs : Array Value} (hl : cs.length = xs.size) (h1 : ∀ (i : Nat) x, xs[i]? = some x → one x) (hh : ∀ (i : Nat) u y, cs[i]? = some u → xs[i]? = some y → Rv w c u y) :
    Rel base w0 ks { st with h := st.h ++ [.box cs] } a (w.alloc (.cells xs e)) (c.push (.pointer (some ⟨w.heap.size, 0, none⟩)) (some w.heap.size)) ∧
    Rv (w.alloc (.cells xs e)) (c.push (.pointer (some ⟨w.heap.size, 0, none⟩)) (some w.heap.size)) (.ref st.h.length 0) (.pointer (some ⟨w.heap.size, 0, none⟩)) := by
  refine ⟨h.push _ _ (.box cs e w.heap.size xs (by simp [Cx.push]) (by simp [Cx.push]) (heap_new _ _) hl h1 fun i u y hu hy => (hh i u y hu hy).push h.lt _ _), ?_⟩
  rw [← h.hm]
  exact .ref c.m 0 w.heap.size (by simp [Cx.push]) (by simp [Cx.push])

theorem zcells_sound {e : TypeId} (hz : 0 < sizeT P e) (hl : (zcells P e).length = sizeT P e) : ∃ z : Value, (∀ W, (zeroValue e).run P W = .ok z W) ∧ z.cells.toList = zcells P e ∧ ∀ (i : Nat) y, z.cells[i]? = some y → one y := by
  unfold zcells at hl ⊢
  cases hi : P.info? e with
  | none => rw [hi] at hl; simp at hl; omega
  | some i =>
    rw [hi] at hl
    simp only at hl ⊢
    cases hzz : i.zero with
    | none => rw [hzz] at hl; simp at hl; omega
    | some z =>
      rw [hzz] at hl
      simp only at hl ⊢
      split at hl
      · rename_i hall
        rw [if_pos hall]
        refine ⟨z, fun W => by simp [zeroValue, typeInfo, hi, hzz], rfl, fun j y hy => ?_⟩
        rw [Array.all_eq_true] at hall
        obtain ⟨hj, rfl⟩ := Array.getElem?_eq_some_iff.1 hy
        exact hall j hj
      · simp at hl; omega
theorem zero1_rd {v : V} {z : Value} (h : zero1 v z = true) (F : Foot) : Rd w F v z := by
  unfold zero1 at h
  split at h
  · exact .slNil _ _
  · rename_i a b
    obtain rfl : a = b := by simpa using h
    exact .bool _
  · rename_i k a k' b
    simp only [Bool.and_eq_true, decide_eq_true_eq, beq_iff_eq] at h
    obtain ⟨rfl, rfl⟩ := h
    exact .int _ _
  · rename_i a b
    obtain rfl : a = b := by simpa using h
    exact .str _
  · cases h
theorem zeroOK_rd : ∀ (vs : List V) (zs : List Value), zeroOK vs zs = true → vs.length = zs.length ∧ ∀ (F : Foot) (i : Nat) v z, vs[i]? = some v → zs[i]? = some z → Rd w F v z
  | [], [], _ => ⟨rfl, fun F i v z hv => by simp at hv⟩
  | [], _ :: _, h => by cases h
  | _ :: _, [], h => by cases h
  | v :: vs, z :: zs, h => by
    simp only [zeroOK, Bool.and_eq_true] at h
    obtain ⟨h1, h2⟩ := zeroOK_rd vs zs h.2
    refine ⟨congrArg (· + 1) h1, fun F i u y hu hy => ?_⟩
    cases i with
    | zero => cases hu; cases hy; exact zero1_rd h.1 F
    | succ i => exact h2 F i u y hu hy
theorem zeroT_sound {e : TypeId} (hz : 0 < sizeT P e) (hl : (zeroT P e).length = sizeT P e) (w : World) (c : Cx) :
    ∃ z : Value, (∀ W, (zeroValue e).run P W = .ok z W) ∧ z.cells.size = sizeT P e ∧ (∀ (i : Nat) y, z.cells[i]? = some y → one y) ∧ ∀ (i : Nat) u y, (zeroT P e)[i]? = some u → z.cells[i]? = some y → Rd w c.F u y := by
  unfold zeroT at hl ⊢
  cases ht : tyZ P e with
  | none =>
    rw [ht] at hl
    simp only at hl ⊢
    have hl' : (zcells P e).length = sizeT P e := by simpa [zeroT0] using hl
    obtain ⟨z, h1, h2, h3⟩ := zcells_sound hz hl'
    refine ⟨z, h1, by rw [← Array.length_toList, h2, hl'], h3, fun j u y hu hy => ?_⟩
    obtain ⟨t, ht, rfl⟩ := getElem?_map_some hu
    have : t = y := by
      have h4 : z.cells.toList[j]? = some y := by simpa using hy
      rw [h2, ht] at h4; exact Option.some.inj h4
    rw [this]; exact cst1_rd _ _ _
  | some t =>
    rw [ht] at hl
    simp only at hl ⊢
    have hok : zeroOK (t.cells t.zero) (zcells P e) = true := by
      unfold tyZ at ht
      split at ht
      · rename_i t' _
        cases hc : zeroOK (t'.cells t'.zero) (zcells P e) with
        | false => rw [hc] at ht; cases ht
        | true => rw [hc] at ht; cases ht; exact hc
      · cases ht
    obtain ⟨hlen, hrd⟩ := zeroOK_rd (w := w) _ _ hok
    obtain ⟨z, h1, h2, h3⟩ := zcells_sound hz (hlen.symm.trans hl)
    refine ⟨z, h1, by rw [← Array.length_toList, h2, ← hlen, hl], h3, fun j u y hu hy => hrd c.F j u y hu ?_⟩
    rw [← h2]
    simpa using hy

theorem mono_alloc (h : Rel base w0 ks st a w c) {e : TypeId} (hop : o.op = .alloc e) {b : Bool} (he : evMono P st st.h.length o.type o.op = some (b, v, bs)) : MonoOK P base w0 ks st a w c o v bs := by
  rw [hop] at he
  simp only [evMono] at he
  split at he
  · rename_i hsb
    simp only [Option.some.injEq, Prod.mk.injEq] at he
    obtain ⟨_, rfl, rfl⟩ := he
    have hzc : zcells P e = [.pointer none, .slice none 0 0] ∧ sizeT P e = 2 := by
      unfold isSB at hsb
      split at hsb <;> (try cases hsb)
      split at hsb <;> (try cases hsb)
      simp only [Bool.and_eq_true] at hsb
      refine ⟨?_, by simpa using hsb.1.1.2⟩
      have := hsb.2
      split at this
      · assumption
      · cases this
    obtain ⟨z, hz1, hz2, hz3⟩ := zcells_sound (P := P) (e := e) (by rw [hzc.2]; omega) (by rw [hzc.1, hzc.2]; rfl)
    rw [hzc.1] at hz2
    have hzc2 : z.cells = #[.pointer none, .slice none 0 0] := by apply Array.ext'; rw [hz2]
    let cx : Cx := (c.push (.pointer (some ⟨w.heap.size, 0, none⟩)) (some w.heap.size)).push (.slice none 0 0) none
    have hρm : cx.ρ c.m = .pointer (some ⟨w.heap.size, 0, none⟩) := by
      show (if c.m = c.m + 1 then _ else if c.m = c.m then _ else _) = _
      rw [if_neg (by omega), if_pos rfl]
    have hρm1 : cx.ρ (c.m + 1) = .slice none 0 0 := by
      show (if c.m + 1 = c.m + 1 then _ else _) = _
      rw [if_pos rfl]
    have hom : cx.o c.m = some w.heap.size := by
      show (if c.m = c.m + 1 then _ else if c.m = c.m then _ else _) = _
      rw [if_neg (by omega), if_pos rfl]
    have hom1 : cx.o (c.m + 1) = none := by
      show (if c.m + 1 = c.m + 1 then _ else _) = _
      rw [if_pos rfl]
    have h1 : Rel base w0 ks { st with h := st.h ++ [.sb e .dead] } a (w.alloc (.cells z.cells e)) (c.push (.pointer (some ⟨w.heap.size, 0, none⟩)) (some w.heap.size)) :=
      h.push _ _ (.sb e _ w.heap.size (.pointer none) (.slice none 0 0) (by simp [Cx.push]) (by simp [Cx.push]) (by rw [hzc2]; exact heap_new _ _) (.inl rfl) rfl (.dead _ _ _))
    have h2 : Rel base w0 ks { st with h := st.h ++ [.sb e .dead] ++ [.bs (sbE P e) ByteArray.empty] } a (w.alloc (.cells z.cells e)) cx :=
      h1.pushNone (.slice none 0 0) (.bsNil _ (by show cx.ρ (c.m + 1) = _; exact hρm1) (by show cx.o (c.m + 1) = _; exact hom1))
    have hcm : c.m = st.h.length := h.hm
    have hB : BR (w.alloc (.cells z.cells e)) cx st.h.length (.sb e (.own (st.h.length + 1))) := by
      rw [← hcm]
      exact .sb e _ w.heap.size (.pointer none) (.slice none 0 0) hρm hom (by rw [hzc2]; exact heap_new _ _) (.inl rfl) rfl (.own _ (by show c.m + 1 < c.m + 1 + 1; omega) none 0 0 hρm1)
    refine ⟨.pointer (some ⟨w.heap.size, 0, none⟩), w.alloc (.cells z.cells e), cx, ?_, ⟨h2.len, h2.tm, h2.ls, h2.sv, by simpa using h2.hm, ?_, h2.inj, h2.ge, h2.nF, h2.lt, h2.bel, h2.dn, h2.bs, h2.ff, h2.pn⟩, ?_, fun h => by cases h⟩
    · simp [execOp, hop, Instr.alloc, hz1, newVar, newRow]
    · intro r b hr
      have hr : (st.h ++ [.sb e (.own (st.h.length + 1)), .bs (sbE P e) ByteArray.empty])[r]? = some b := hr
      by_cases hrm : r = st.h.length
      · subst hrm
        rw [List.getElem?_append_right (Nat.le_refl _)] at hr
        simp only [Nat.sub_self, List.getElem?_cons_zero, Option.some.injEq] at hr
        subst hr
        exact hB
      · refine h2.hp r b ?_
        show (st.h ++ [.sb e .dead] ++ [.bs (sbE P e) ByteArray.empty])[r]? = some b
        rw [List.append_assoc]
        by_cases hlt : r < st.h.length
        · rw [List.getElem?_append_left hlt] at hr ⊢
          exact hr
        · rw [List.getElem?_append_right (by omega)] at hr ⊢
          obtain ⟨d, hd⟩ : ∃ d, r - st.h.length = d + 1 := ⟨r - st.h.length - 1, by omega⟩
          rw [hd] at hr ⊢
          exact hr
    · rw [← hcm]
      exact .ref c.m 0 w.heap.size (by show c.m < c.m + 1 + 1; omega) hρm
  split at he
  · rename_i hz
    simp only [Option.some.injEq, Prod.mk.injEq] at he
    obtain ⟨_, rfl, rfl⟩ := he
    obtain ⟨z, hz1, hz2, hz3, hz4⟩ := zeroT_sound hz.1 hz.2 w c
    have hb := box_new h e (xs := z.cells) (by rw [hz2]; exact hz.2) hz3 fun i u y hu hy => .im _ _ (hz4 i u y hu hy)
    refine ⟨_, _, _, ?_, hb.1, hb.2, fun h => by cases h⟩
    simp [execOp, hop, Instr.alloc, hz1, newVar, newRow]
  · cases he

theorem mono_box (h : Rel base w0 ks st a w c) {e : TypeId} {x : Operand} (hop : o.op = .box e x) {b : Bool} (he : evMono P st st.h.length o.type o.op = some (b, v, bs)) : MonoOK P base w0 ks st a w c o v bs := by
  rw [hop] at he
  simp only [evMono] at he
  split at he
  · rename_i cs hc
    simp only [Option.some.injEq, Prod.mk.injEq] at he
    obtain ⟨_, rfl, rfl⟩ := he
    obtain ⟨h1, h2, h3⟩ := cells_sound (h.evT (P := P) e x) hc
    have hb := box_new h e h1 h2 h3
    refine ⟨_, _, _, ?_, hb.1, hb.2, fun h => by cases h⟩
    simp [execOp, hop, Instr.box, newVar, newRow]
  · cases he

theorem mono_load (h : Rel base w0 ks st a w c) {t : TypeId} {x : Operand} (hop : o.op = .load t x) {b : Bool} (he : evMono P st st.h.length o.type o.op = some (b, v, bs)) (hb : b = true) : MonoOK P base w0 ks st a w c o v bs := by
  rw [hop] at he
  simp only [evMono] at he
  split at he
  · rename_i hok
    split at he
    · rename_i b' cs hr
      simp only [Option.some.injEq, Prod.mk.injEq] at he
      obtain ⟨rfl, rfl, rfl⟩ := he
      obtain ⟨k, off, ys, hx, hl, hc, hh⟩ := readAt_sound h hr hb (h.ev x)
      have hd : ∃ d, P.underlying t = some d := by
        cases hu : P.underlying t with
        | some d => exact ⟨d, rfl⟩
        | none => simp [okT, hu] at hok
      obtain ⟨d, hd⟩ := hd
      refine .stay h ?_ (mkV_sound hok hl (fun j hj => (hc j (by omega)).2) hh)
      simp only [execOp, hop, Instr.loadAt, hx, Instr.sureAddr]
      simp [run_loadVar' hd hok fun j hj => (hc j hj).1]
    · cases he
  · cases he

end
end Go.Rv
