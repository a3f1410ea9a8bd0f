/- Rv, part I: what is built: structs, slices; slicing; all operations that write nothing that was there. Of no program. -/
import Derived.Test.YtmoeohjaafpmgaaRvHa
import Derived.Laws.Slices
set_option linter.unusedVariables false
set_option linter.unusedSimpArgs false
set_option linter.unusedSectionVars false
namespace Go.Rv
open Go Go.RowKit
variable [Fx]
section
variable {P : Program} {base : Base} {w0 : World} {ks : List (Array Value)} {st : St} {a : Act} {w : World} {c : Cx} {o : Oper} {v : V} {bs : List B} {b : Bool}

theorem im_rd : ∀ (n : Nat) (v : V) (x : Value), imV n v = true → Rv w c v x → Rd w c.F v x := by
  intro n
  induction n with
  | zero => intro v x h; cases h
  | succ n ih =>
    intro v x h hv
    have leaf : ∀ {v : V}, ¬ Loc v → (∀ cs, v ≠ .agg cs) → (∀ cs, v ≠ .tup cs) → (∀ f a b, v ≠ .func f a b) → (∀ t u, v ≠ .iface t u) → Rv w c v x → Rd w c.F v x := by
      intro v hl h1 h2 h3 h4 h
      cases h with
      | im _ _ h => exact h
      | agg cs => exact absurd rfl (h1 cs)
      | tup cs => exact absurd rfl (h2 cs)
      | own => exact absurd trivial hl
      | ref => exact absurd trivial hl
      | wptr => exact absurd trivial hl
      | mp => exact absurd trivial hl
      | func f a b => exact absurd rfl (h3 f a b)
      | iface t u => exact absurd rfl (h4 t u)
    cases v with
    | agg cs =>
      obtain ⟨xs, rfl, hl, h1, hh⟩ := hv.agg_inv
      simp only [imV, List.all_eq_true] at h
      exact .agg cs xs hl h1 fun i u y hu hy => ih u y (h u (List.mem_of_getElem? hu)) (hh i u y hu hy)
    | tup cs =>
      obtain ⟨xs, rfl, hl, hh⟩ := hv.tup_inv
      simp only [imV, List.all_eq_true] at h
      exact .tup cs xs hl fun i u y hu hy => ih u y (h u (List.mem_of_getElem? hu)) (hh i u y hu hy)
    | func fn fs cs =>
      obtain ⟨ys, zs, rfl, hl, hl', hh, hh'⟩ := hv.func_inv
      simp only [imV, Bool.and_eq_true, List.all_eq_true] at h
      exact .func fn fs cs ys zs hl hl' (fun i u y hu hy => ih u y (h.1 u (List.mem_of_getElem? hu)) (hh i u y hu hy)) fun i u y hu hy => ih u y (h.2 u (List.mem_of_getElem? hu)) (hh' i u y hu hy)
    | iface t u =>
      obtain ⟨y, rfl, hh⟩ := hv.iface_inv
      exact .iface t u y (ih u y h hh)
    | own r => simp [imV] at h
    | ref r o => simp [imV] at h
    | wptr r s i o => simp [imV] at h
    | mp r => simp [imV] at h
    | bool b => exact leaf (by simp [Loc]) (by simp) (by simp) (by simp) (by simp) hv
    | int k m => exact leaf (by simp [Loc]) (by simp) (by simp) (by simp) (by simp) hv
    | str s => exact leaf (by simp [Loc]) (by simp) (by simp) (by simp) (by simp) hv
    | sl a b d e => exact leaf (by simp [Loc]) (by simp) (by simp) (by simp) (by simp) hv
    | eptr a => exact leaf (by simp [Loc]) (by simp) (by simp) (by simp) (by simp) hv
    | nilp => exact leaf (by simp [Loc]) (by simp) (by simp) (by simp) (by simp) hv
    | nilm => exact leaf (by simp [Loc]) (by simp) (by simp) (by simp) (by simp) hv
    | nilf => exact leaf (by simp [Loc]) (by simp) (by simp) (by simp) (by simp) hv
    | nili => exact leaf (by simp [Loc]) (by simp) (by simp) (by simp) (by simp) hv
    | dead => exact leaf (by simp [Loc]) (by simp) (by simp) (by simp) (by simp) hv

theorem run_mapM {α β : Type} {f : α → Sem β} {g : α → β} (W : World) : ∀ (l : List α), (∀ x ∈ l, (f x).run P W = .ok (g x) W) → (l.mapM f).run P W = .ok (l.map g) W := by
  intro l
  induction l with
  | nil => intro _; simp
  | cons x l ih =>
    intro h
    simp only [List.mapM_cons, Sem.run_bind, h x (by simp), Result.andThen_ok, ih fun y hy => h y (by simp [hy]), Sem.run_pure, List.map_cons]

theorem run_build {r0 : Nat} (h : Rel base w0 ks st a w c) {t : TypeId} {parts : Array (Nat × Operand)} (hop : o.op = .build t parts) (he : evMono P st r0 o.type (.build t parts) = some (b, v, bs)) :
    bs = [] ∧ ∃ y, (∀ W, (execOp a.eval o).run P W = .ok (.value y) W) ∧ Rv w c v y := by
  simp only [evMono] at he
  have hq : ∀ ty : Nat × Operand → TypeId, (parts.toList.map fun p => (p.1, evT P st (ty p) p.2)).map (·.1) = (parts.map fun p => (p.1, a.eval p.2)).toList.map (·.1) := by intro ty; simp
  have hr : ∀ (ty : Nat × Operand → TypeId) (i : Nat) p q, (parts.toList.map fun p => (p.1, evT P st (ty p) p.2))[i]? = some p → (parts.map fun p => (p.1, a.eval p.2)).toList[i]? = some q → Rv w c p.2 q.2 := by
    intro ty i p q hp hq
    obtain ⟨z, hz, rfl⟩ := getElem?_map_some hp
    have hz' : parts[i]? = some z := by simpa using hz
    simp only [Array.toList_map, List.getElem?_map, Array.getElem?_toList, hz', Option.map_some, Option.some.injEq] at hq
    subst hq
    exact h.evT _ z.2
  split at he
  · rename_i fs hu
    split at he <;> (try cases he)
    rename_i hz
    rw [Option.map_eq_some_iff] at he
    obtain ⟨cs, hcs, he⟩ := he
    simp only [Prod.mk.injEq] at he
    obtain ⟨_, rfl, rfl⟩ := he
    obtain ⟨z, hz1, hz2, hz3, hz4⟩ := zeroT_sound hz.1 hz.2.1 w c
    obtain ⟨ys, e1, e2, e3, e4⟩ := fill_sound _ _ _ _ z.cells hcs (hq _) (hr _) (by rw [hz2]; exact hz.2.1) hz3 fun i u y hu hy => .im _ _ (hz4 i u y hu hy)
    have hall := hz.2.2
    rw [List.all_eq_true] at hall
    have hml := fun W => run_mapM (P := P) (f := fun f : Field => (do pure (f.offset, ← sizeOf f.type) : Sem (Nat × Nat))) (g := fun f => (f.offset, sizeT P f.type)) W fs.toList (fun f hf => by
      simp only [Sem.run_bind, run_sizeT_pos (of_decide_eq_true (hall f hf)), Result.andThen_ok, Sem.run_pure])
    have hm : ∀ W, (fs.mapM fun f : Field => (do pure (f.offset, ← sizeOf f.type) : Sem (Nat × Nat))).run P W = .ok (fs.map fun f => (f.offset, sizeT P f.type)) W := by
      intro W
      rw [Array.mapM_eq_mapM_toList]
      simp only [Sem.run_map]
      rw [hml]
      simp only [Result.andThen_ok]
      congr 1
      apply Array.ext'
      simp
    have hp : (fun i : Nat => (fs.map fun f : Field => (f.offset, sizeT P f.type))[i]?) = fun i : Nat => (fs[i]?).map fun f : Field => (f.offset, sizeT P f.type) := by funext i; simp
    refine ⟨rfl, .agg ys, fun W => ?_, .agg cs ys e2 e3 e4⟩
    simp only [execOp, hop, Instr.build, Sem.run_bind, hz1, Result.andThen_ok, run_underlying hu, hm, hp, e1, Sem.run_pure]
  · rename_i n e' hu
    split at he <;> (try cases he)
    rename_i hz
    rw [Option.map_eq_some_iff] at he
    obtain ⟨cs, hcs, he⟩ := he
    simp only [Prod.mk.injEq] at he
    obtain ⟨_, rfl, rfl⟩ := he
    obtain ⟨z, hz1, hz2, hz3, hz4⟩ := zeroT_sound hz.1 hz.2.1 w c
    obtain ⟨ys, e1, e2, e3, e4⟩ := fill_sound _ _ _ _ z.cells hcs (hq _) (hr _) (by rw [hz2]; exact hz.2.1) hz3 fun i u y hu hy => .im _ _ (hz4 i u y hu hy)
    refine ⟨rfl, .agg ys, fun W => ?_, .agg cs ys e2 e3 e4⟩
    simp only [execOp, hop, Instr.build, Sem.run_bind, hz1, Result.andThen_ok, run_underlying hu, run_sizeT_pos hz.2.2, e1, Sem.run_pure]
  · cases he

theorem mono_build (h : Rel base w0 ks st a w c) {t : TypeId} {parts : Array (Nat × Operand)} (hop : o.op = .build t parts) (he : evMono P st st.h.length o.type o.op = some (b, v, bs)) : MonoOK P base w0 ks st a w c o v bs := by
  rw [hop] at he
  obtain ⟨rfl, x, h1, h2⟩ := run_build h hop he
  exact .stay h (x := x) (h1 w) h2

theorem fill_row {sz : Nat} (hz : 0 < sz) : ∀ (vs : List V) (qs : List (Nat × Value)) (l : List (List V)) (k : Nat) (ys : Array Value), rowV sz vs = some l → qs.map (·.1) = List.range' k vs.length → qs.length = vs.length →
    (∀ (i : Nat) u q, vs[i]? = some u → qs[i]? = some q → Rv w c u q.2) → (k + vs.length) * sz ≤ ys.size → (∀ (i : Nat) y, ys[i]? = some y → one y) →
    ∃ ys' : Array Value, Instr.fill (fun i => some (i * sz, sz)) ys qs = some ys' ∧ ys'.size = ys.size ∧ (∀ (i : Nat) y, ys'[i]? = some y → one y) ∧ l.length = vs.length ∧ (∀ (i : Nat) e, l[i]? = some e → e.length = sz) ∧
      (∀ (i j : Nat) e u, l[i]? = some e → e[j]? = some u → ∃ x, ys'[(k + i) * sz + j]? = some x ∧ Rd w c.F u x) ∧ ∀ p, p < k * sz → ys'[p]? = ys[p]? := by
  intro vs
  induction vs with
  | nil =>
    intro qs l k ys hl hq hlen _ _ h1
    simp only [rowV, Option.some.injEq] at hl
    subst hl
    cases qs with
    | nil => exact ⟨ys, rfl, rfl, h1, rfl, fun i e he => by simp at he, fun i j e u he => by simp at he, fun _ _ => rfl⟩
    | cons q qs => simp at hlen
  | cons v vs ih =>
    intro qs l k ys hl hq hlen hr hle h1
    cases qs with
    | nil => simp at hlen
    | cons q qs =>
      obtain ⟨i, x⟩ := q
      simp only [List.map_cons, List.length_cons, List.range'_succ, List.cons.injEq] at hq
      obtain ⟨rfl, hq⟩ := hq
      simp only [rowV] at hl
      split at hl <;> (try cases hl)
      rename_i cs l' hc hl'
      split at hl <;> (try cases hl)
      rename_i hcs
      obtain ⟨hvl, hv1, hvr⟩ := cells_sound (x := x) (hr 0 _ _ rfl rfl) hc
      simp only [List.length_cons] at hle
      have hle2 : i * sz + sz ≤ ys.size := by
        have : (i + 1) * sz ≤ (i + (vs.length + 1)) * sz := Nat.mul_le_mul_right _ (by omega)
        rw [Nat.add_mul, Nat.one_mul] at this
        omega
      have hfold := fold_set (i * sz) x.cells.toList 0 ys (by simp; omega)
      have hset : x.cells.zipIdx.foldl (fun cs (p : Value × Nat) => cs.setIfInBounds (i * sz + p.2) p.1) ys = (putAt ys.toList (i * sz) x.cells.toList).toArray := by
        apply Array.ext'
        rw [← Array.foldl_toList, Array.toList_zipIdx, hfold]
        simp
      have hpl := putAt_length ys.toList (i * sz) x.cells.toList (by simp; omega)
      obtain ⟨ys', e1, e2, e3, e4, e5, e6, e7⟩ := ih qs l' (i + 1) (putAt ys.toList (i * sz) x.cells.toList).toArray hl' hq (by simpa using hlen) (fun k u q hu hq => hr (k + 1) u q hu hq)
        (by simp only [List.size_toArray, hpl, Array.length_toList]; rw [show i + 1 + vs.length = i + (vs.length + 1) by omega]; exact hle)
        (fun k y hy => by
          simp only [List.getElem?_toArray] at hy
          rw [putAt_get _ _ _ (by simp; omega)] at hy
          split at hy
          · exact hv1 _ y (by simpa using hy)
          · exact h1 _ y (by simpa using hy))
      refine ⟨ys', ?_, by rw [e2]; simp [hpl], e3, by simp [e4], fun j e he => ?_, fun p j e u he hu => ?_, fun p hp => ?_⟩
      · simp only [Instr.fill]
        rw [if_neg (by simp; omega), hset]
        exact e1
      · cases j with
        | zero => simp only [List.getElem?_cons_zero, Option.some.injEq] at he; subst he; exact hcs.1
        | succ j => exact e5 j e he
      · cases p with
        | zero =>
          simp only [List.getElem?_cons_zero, Option.some.injEq] at he
          subst he
          have hj : j < cs.length := (List.getElem?_eq_some_iff.1 hu).1
          have hjx : j < x.cells.size := by omega
          refine ⟨x.cells[j], ?_, im_rd dep u _ ?_ (hvr j u _ hu (Array.getElem?_eq_getElem hjx))⟩
          · rw [Nat.add_zero, e7 _ (by rw [Nat.add_mul, Nat.one_mul]; omega)]
            simp only [List.getElem?_toArray]
            rw [putAt_get _ _ _ (by simp; omega), if_pos (by simp; omega)]
            rw [show i * sz + j - i * sz = j by omega]
            simp [Array.getElem?_eq_getElem hjx]
          · have := hcs.2
            rw [List.all_eq_true] at this
            exact this u (List.mem_of_getElem? hu)
        | succ p =>
          obtain ⟨y, hy1, hy2⟩ := e6 p j e u he hu
          rw [show i + 1 + p = i + (p + 1) by omega] at hy1
          exact ⟨y, hy1, hy2⟩
      · rw [e7 p (by rw [Nat.add_mul, Nat.one_mul]; omega)]
        simp only [List.getElem?_toArray]
        rw [putAt_get _ _ _ (by simp; omega), if_neg (by omega)]
        simp

theorem fill_lit {sz : Nat} (hz : 0 < sz) : ∀ (vs : List V) (qs : List (Nat × Value)) (cs : List V) (k : Nat) (ys : Array Value), litV sz vs = some cs → qs.map (·.1) = List.range' k vs.length → qs.length = vs.length →
    (∀ (i : Nat) u q, vs[i]? = some u → qs[i]? = some q → Rv w c u q.2) → (k + vs.length) * sz ≤ ys.size → (∀ (i : Nat) y, ys[i]? = some y → one y) →
    ∃ ys' : Array Value, Instr.fill (fun i => some (i * sz, sz)) ys qs = some ys' ∧ ys'.size = ys.size ∧ (∀ (i : Nat) y, ys'[i]? = some y → one y) ∧ cs.length = vs.length * sz ∧
      (∀ (i : Nat) u y, cs[i]? = some u → ys'[k * sz + i]? = some y → Rv w c u y) ∧ ∀ p, p < k * sz → ys'[p]? = ys[p]? := by
  intro vs
  induction vs with
  | nil =>
    intro qs l k ys hl hq hlen _ _ h1
    simp only [litV, Option.some.injEq] at hl
    subst hl
    cases qs with
    | nil => exact ⟨ys, rfl, rfl, h1, by simp, fun i u y he => by simp at he, fun _ _ => rfl⟩
    | cons q qs => simp at hlen
  | cons v vs ih =>
    intro qs l k ys hl hq hlen hr hle h1
    cases qs with
    | nil => simp at hlen
    | cons q qs =>
      obtain ⟨i, x⟩ := q
      simp only [List.map_cons, List.length_cons, List.range'_succ, List.cons.injEq] at hq
      obtain ⟨rfl, hq⟩ := hq
      simp only [litV] at hl
      split at hl <;> (try cases hl)
      rename_i cs l' hc hl'
      split at hl <;> (try cases hl)
      rename_i hcs
      obtain ⟨hvl, hv1, hvr⟩ := cells_sound (x := x) (hr 0 _ _ rfl rfl) hc
      simp only [List.length_cons] at hle
      have hle2 : i * sz + sz ≤ ys.size := by
        have : (i + 1) * sz ≤ (i + (vs.length + 1)) * sz := Nat.mul_le_mul_right _ (by omega)
        rw [Nat.add_mul, Nat.one_mul] at this
        omega
      have hfold := fold_set (i * sz) x.cells.toList 0 ys (by simp; omega)
      have hset : x.cells.zipIdx.foldl (fun cs (p : Value × Nat) => cs.setIfInBounds (i * sz + p.2) p.1) ys = (putAt ys.toList (i * sz) x.cells.toList).toArray := by
        apply Array.ext'
        rw [← Array.foldl_toList, Array.toList_zipIdx, hfold]
        simp
      have hpl := putAt_length ys.toList (i * sz) x.cells.toList (by simp; omega)
      obtain ⟨ys', e1, e2, e3, e4, e6, e7⟩ := ih qs l' (i + 1) (putAt ys.toList (i * sz) x.cells.toList).toArray hl' hq (by simpa using hlen) (fun k u q hu hq => hr (k + 1) u q hu hq)
        (by simp only [List.size_toArray, hpl, Array.length_toList]; rw [show i + 1 + vs.length = i + (vs.length + 1) by omega]; exact hle)
        (fun k y hy => by
          simp only [List.getElem?_toArray] at hy
          rw [putAt_get _ _ _ (by simp; omega)] at hy
          split at hy
          · exact hv1 _ y (by simpa using hy)
          · exact h1 _ y (by simpa using hy))
      refine ⟨ys', ?_, by rw [e2]; simp [hpl], e3, by simp [e4, hcs, Nat.add_mul, Nat.add_comm], fun j u y hu hy => ?_, fun p hp => ?_⟩
      · simp only [Instr.fill]
        rw [if_neg (by simp; omega), hset]
        exact e1
      · by_cases hj : j < cs.length
        · rw [List.getElem?_append_left hj] at hu
          have hjx : j < x.cells.size := by omega
          rw [e7 _ (by rw [Nat.add_mul, Nat.one_mul]; omega)] at hy
          simp only [List.getElem?_toArray] at hy
          rw [putAt_get _ _ _ (by simp; omega), if_pos (by simp; omega)] at hy
          rw [show i * sz + j - i * sz = j by omega] at hy
          exact hvr j u y hu (by simpa using hy)
        · rw [List.getElem?_append_right (by omega)] at hu
          refine e6 (j - cs.length) u y hu ?_
          rw [Nat.add_mul, Nat.one_mul, show i * sz + sz + (j - cs.length) = i * sz + j by omega]
          exact hy
      · rw [e7 p (by rw [Nat.add_mul, Nat.one_mul]; omega)]
        simp only [List.getElem?_toArray]
        rw [putAt_get _ _ _ (by simp; omega), if_neg (by omega)]
        simp

theorem lit_new (h : Rel base w0 ks st a w c) {t e' : TypeId} {n : Nat} {parts : Array (Nat × Operand)} {cs : List V} (hop : o.op = .buildSlice t n parts) (hu : P.underlying t = some (.slice e')) (hz0 : 0 < sizeT P e') (hz1 : n * sizeT P e' ≤ 16777216)
    (hz2 : (zeroT P e').length = sizeT P e') (hz3 : parts.toList.map (·.1) = List.range n) (hcs : litV (sizeT P e') (parts.toList.map fun p => evT P st e' p.2) = some cs) : MonoOK P base w0 ks st a w c o (.own st.h.length) [.lit (sizeT P e') n cs] := by
  obtain ⟨z, hzr, hzs, hzo, _⟩ := zeroT_sound hz0 hz2 w c
  have hlen : parts.toList.length = n := by have := congrArg List.length hz3; simpa using this
  obtain ⟨ys, e1, e2, e3, e4, e6, _⟩ := fill_lit (w := w) (c := c) hz0 (parts.toList.map fun p => evT P st e' p.2) (parts.map fun p => (p.1, a.eval p.2)).toList cs 0
    ((Array.range (n * sizeT P e')).map (z.cells[· % z.cells.size]!)) hcs
    (by simp only [Array.toList_map, List.map_map, List.length_map, hlen]; rw [← List.range_eq_range', ← hz3]; simp) (by simp)
    (fun i u q hu hq => by
      obtain ⟨p, hp, rfl⟩ := getElem?_map_some hu
      have hp' : parts[i]? = some p := by simpa using hp
      simp only [Array.toList_map, List.getElem?_map, Array.getElem?_toList, hp', Option.map_some, Option.some.injEq] at hq
      subst hq
      exact h.evT _ p.2)
    (by simp only [List.length_map, hlen, Array.size_map, Array.size_range, Nat.zero_add]; omega)
    (fun i y hy => by
      simp only [Array.getElem?_map] at hy
      cases hj : (Array.range (n * sizeT P e'))[i]? with
      | none => rw [hj] at hy; cases hy
      | some j =>
        rw [hj] at hy
        simp only [Option.map_some, Option.some.injEq] at hy
        subst hy
        have hlt : j % z.cells.size < z.cells.size := Nat.mod_lt _ (by omega)
        rw [getElem!_pos z.cells (j % z.cells.size) hlt]
        exact hzo _ _ (Array.getElem?_eq_getElem hlt))
  simp only [List.length_map, hlen] at e4
  have hys : ys.size = n * sizeT P e' := by rw [e2]; simp
  have hcell : ∀ (i : Nat) u y, cs[i]? = some u → ys[i]? = some y → Rv w c u y := fun i u y hu hy => e6 i u y hu (by simpa using hy)
  have hm : Same c.F w (w.alloc (.cells ys e')) := fun k hk => Below.heap_alloc w _ k (h.lt k hk)
  refine ⟨.slice (some ⟨w.heap.size, 0, none⟩) n n, w.alloc (.cells ys e'), c.push (.slice (some ⟨w.heap.size, 0, none⟩) n n) (some w.heap.size), ?_, h.push _ _ (.lit _ n cs e' w.heap.size ys hz0 (by simp [Cx.push]) (by simp [Cx.push]) (heap_new _ _) (by rw [e4, hys]) hys e3 fun i u y hu hy => (hcell i u y hu hy).push h.lt _ _), ?_, fun h => by cases h⟩
  · have hn0 : ¬ (n * sizeT P e' > 2 ^ 24) := by omega
    by_cases hn : n * sizeT P e' = 0
    · have hya : (Array.range (n * sizeT P e')).map (z.cells[· % z.cells.size]!) = (Array.range (n * sizeT P e')).map ((#[] : Array Value)[· % (#[] : Array Value).size]!) := by
        rw [hn]; simp
      rw [hya] at e1
      simp only [execOp, hop, Instr.buildSlice, Sem.run_bind, run_underlying hu, Result.andThen_ok, run_sizeT_pos hz0, Sem.run_ite, if_neg hn0, if_pos hn, Sem.run_pure, e1, newRow, run_newObj, World.alloc_eq]
    · simp only [execOp, hop, Instr.buildSlice, Sem.run_bind, run_underlying hu, Result.andThen_ok, run_sizeT_pos hz0, Sem.run_ite, if_neg hn0, if_neg hn, hzr, Sem.run_pure, e1, newRow, run_newObj, World.alloc_eq]
  · rw [← h.hm]
    exact .own c.m (by simp [Cx.push]) _ _ _ (by simp [Cx.push])

theorem mono_buildSlice (h : Rel base w0 ks st a w c) {t : TypeId} {n : Nat} {parts : Array (Nat × Operand)} (hop : o.op = .buildSlice t n parts) (he : evMono P st st.h.length o.type o.op = some (b, v, bs)) : MonoOK P base w0 ks st a w c o v bs := by
  rw [hop] at he
  simp only [evMono] at he
  split at he <;> (try cases he)
  rename_i e' hu
  split at he <;> (try cases he)
  rename_i hz
  obtain ⟨hz0, hz1, hz2, hz3⟩ := hz
  split at he
  rotate_left
  · split at he <;> (try cases he)
    rename_i cs hcs
    exact lit_new h hop hu hz0 hz1 hz2 hz3 hcs
  rename_i l hl
  simp only [Option.some.injEq, Prod.mk.injEq] at he
  obtain ⟨rfl, rfl, rfl⟩ := he
  obtain ⟨z, hzr, hzs, hzo, _⟩ := zeroT_sound hz0 hz2 w c
  have hlen : parts.toList.length = n := by have := congrArg List.length hz3; simpa using this
  obtain ⟨ys, e1, e2, e3, e4, e5, e6, _⟩ := fill_row (w := w) (c := c) hz0 (parts.toList.map fun p => evT P st e' p.2) (parts.map fun p => (p.1, a.eval p.2)).toList l 0
    ((Array.range (n * sizeT P e')).map (z.cells[· % z.cells.size]!)) hl
    (by simp only [Array.toList_map, List.map_map, List.length_map, hlen]; rw [← List.range_eq_range', ← hz3]; simp) (by simp)
    (fun i u q hu hq => by
      obtain ⟨p, hp, rfl⟩ := getElem?_map_some hu
      have hp' : parts[i]? = some p := by simpa using hp
      simp only [Array.toList_map, List.getElem?_map, Array.getElem?_toList, hp', Option.map_some, Option.some.injEq] at hq
      subst hq
      exact h.evT _ p.2)
    (by simp only [List.length_map, hlen, Array.size_map, Array.size_range, Nat.zero_add]; omega)
    (fun i y hy => by
      simp only [Array.getElem?_map] at hy
      cases hj : (Array.range (n * sizeT P e'))[i]? with
      | none => rw [hj] at hy; cases hy
      | some j =>
        rw [hj] at hy
        simp only [Option.map_some, Option.some.injEq] at hy
        subst hy
        have hlt : j % z.cells.size < z.cells.size := Nat.mod_lt _ (by omega)
        rw [getElem!_pos z.cells (j % z.cells.size) hlt]
        exact hzo _ _ (Array.getElem?_eq_getElem hlt))
  simp only [List.length_map, hlen] at e4
  have hrow := row_new h e' (n := n) (cap := n) (g := Cells.ofL (tyT P 8 e') l) (xs := ys) hz0 (by rw [e2]; simp) (Nat.le_refl _) e3
    (fun i hi => by
      rw [Cells.ofL_fn _ _ _ (by omega)]
      rw [List.getD_eq_getElem?_getD, List.getElem?_eq_getElem (by omega : i < l.length)]
      exact e5 i _ (List.getElem?_eq_getElem (by omega)))
    (fun i j u hi hu => by
      rw [Cells.ofL_fn _ _ _ (by omega)] at hu
      rw [List.getD_eq_getElem?_getD, List.getElem?_eq_getElem (by omega : i < l.length)] at hu
      have := e6 i j _ u (List.getElem?_eq_getElem (by omega)) hu
      rwa [Nat.zero_add] at this)
  refine ⟨_, _, _, ?_, hrow.1, hrow.2, fun h => by cases h⟩
  have hn0 : ¬ (n * sizeT P e' > 2 ^ 24) := by omega
  by_cases hn : n * sizeT P e' = 0
  · have hya : (Array.range (n * sizeT P e')).map (z.cells[· % z.cells.size]!) = (Array.range (n * sizeT P e')).map ((#[] : Array Value)[· % (#[] : Array Value).size]!) := by
      rw [hn]; simp
    rw [hya] at e1
    simp only [execOp, hop, Instr.buildSlice, Sem.run_bind, run_underlying hu, Result.andThen_ok, run_sizeT_pos hz0, Sem.run_ite, if_neg hn0, if_pos hn, Sem.run_pure, e1, newRow, run_newObj, World.alloc_eq]
  · simp only [execOp, hop, Instr.buildSlice, Sem.run_bind, run_underlying hu, Result.andThen_ok, run_sizeT_pos hz0, Sem.run_ite, if_neg hn0, if_neg hn, hzr, Sem.run_pure, e1, newRow, run_newObj, World.alloc_eq]

theorem wrap_i64 {x : Int} (h0 : 0 ≤ x) (h1 : x ≤ 140737488355328) : IntKind.i64.wrap x = x := by
  unfold IntKind.wrap
  have e1 : IntKind.i64.bits = 64 := rfl
  have e2 : IntKind.i64.signed = true := rfl
  simp only [e1, e2]
  have : x % (2 ^ 64 : Int) = x := Int.emod_eq_of_lt h0 (by omega)
  rw [this]
  rw [if_neg]
  simp
  omega

theorem mono_makeSlice (h : Rel base w0 ks st a w c) {t : TypeId} {l m : Operand} (hop : o.op = .makeSlice t l m) (he : evMono P st st.h.length o.type o.op = some (b, v, bs)) (hb : b = true) : MonoOK P base w0 ks st a w c o v bs := by
  rw [hop] at he
  simp only [evMono] at he
  have hl := h.ev l
  have hm := h.ev m
  split at he <;> (try cases he)
  rename_i e' k x k' y hu el em
  split at he <;> (try cases he)
  rename_i hz
  obtain ⟨hz0, hz1, hz2⟩ := hz
  simp only [Bool.and_eq_true, decide_eq_true_eq] at hb
  obtain ⟨⟨hb0, hb1⟩, hb2⟩ := hb
  rw [el] at hl
  rw [em] at hm
  have hl := hl.int_inv
  have hm := hm.int_inv
  obtain ⟨z, hzr, hzs, hzo, hzd⟩ := zeroT_sound hz0 hz2 w c
  have hinfo : ∃ i, P.info? e' = some i := by
    cases hi : P.info? e' with
    | some i => exact ⟨i, rfl⟩
    | none => simp [sizeT, hi] at hz0
  obtain ⟨i, hi⟩ := hinfo
  have hby : P.bytesOf e' = i.bytes := by simp [Program.bytesOf, hi]
  rw [hby] at hz1 hb2
  have hy : y ≤ 140737488355328 := by
    have : (1 : Int) * y ≤ (i.bytes : Int) * y := Int.mul_le_mul_of_nonneg_right (by omega) (by omega)
    omega
  have w1 : IntKind.i64.wrap x = x := wrap_i64 hb0 (by omega)
  have w2 : IntKind.i64.wrap y = y := wrap_i64 (by omega) hy
  have hrow := row_new h e' (n := x.toNat) (cap := y.toNat) (g := repC P e') (xs := (Array.range (y.toNat * sizeT P e')).map (z.cells[· % z.cells.size]!)) hz0 (by simp) (by omega)
    (fun j u hu => by
      simp only [Array.getElem?_map] at hu
      cases hj : (Array.range (y.toNat * sizeT P e'))[j]? with
      | none => rw [hj] at hu; cases hu
      | some q =>
        rw [hj] at hu
        simp only [Option.map_some, Option.some.injEq] at hu
        subst hu
        have hlt : q % z.cells.size < z.cells.size := Nat.mod_lt _ (by omega)
        rw [getElem!_pos z.cells (q % z.cells.size) hlt]
        exact hzo _ _ (Array.getElem?_eq_getElem hlt))
    (fun _ _ => by rw [repC_fn]; exact hz2)
    (fun p j u hp hu => by
      rw [repC_fn] at hu
      have hj : j < (zeroT P e').length := (List.getElem?_eq_some_iff.1 hu).1
      have hjz : j < z.cells.size := by omega
      have hpos : p * sizeT P e' + j < y.toNat * sizeT P e' := by
        have : (p + 1) * sizeT P e' ≤ y.toNat * sizeT P e' := Nat.mul_le_mul_right _ (by omega)
        rw [Nat.add_mul, Nat.one_mul] at this
        omega
      refine ⟨z.cells[j], ?_, hzd j u _ hu (Array.getElem?_eq_getElem hjz)⟩
      simp only [Array.getElem?_map, Array.getElem?_range, hpos, if_true, Option.map_some]
      have hmod : (p * sizeT P e' + j) % z.cells.size = j := by
        rw [hzs, Nat.mul_comm, Nat.mul_add_mod, Nat.mod_eq_of_lt (by omega)]
      rw [getElem!_pos z.cells _ (by rw [hmod]; exact hjz)]
      simp only [hmod])
  refine ⟨_, _, _, ?_, hrow.1, hrow.2, fun h => by cases h⟩
  have ht : (decide (y < 0) || decide ((i.bytes : Int) * y > 2 ^ 48)) = false := by
    rw [Bool.or_eq_false_iff]
    exact ⟨decide_eq_false (by omega), decide_eq_false (by omega)⟩
  have hc : ¬ ((decide (y < 0) || decide ((i.bytes : Int) * y > 2 ^ 48)) = true ∨ x < 0 ∨ x > y) := by
    rw [ht]; simp; omega
  have hti : ∀ W : World, (typeInfo e').run P W = .ok i W := fun W => by simp [typeInfo, hi]
  simp only [execOp, hop, Instr.makeSlice, Sem.run_bind, run_underlying hu, hl, hm, asInt, asIntOf, Result.andThen_ok, Sem.run_pure, hti, w1, w2]
  by_cases hn : y.toNat * sizeT P e' = 0
  · have hya : (Array.range (y.toNat * sizeT P e')).map (z.cells[· % z.cells.size]!) = (Array.range (y.toNat * sizeT P e')).map ((#[] : Array Value)[· % (#[] : Array Value).size]!) := by
      rw [hn]; simp
    rw [hya]
    simp only [ht, Bool.false_or, Sem.run_ite]
    rw [if_neg (by simp; omega)]
    simp only [Sem.run_pure, Result.andThen_ok, run_askRoom, run_sizeT_pos hz0, hn, if_true, newRow, Sem.run_bind, run_newObj, World.alloc_eq]
  · simp only [ht, Bool.false_or, Sem.run_ite]
    rw [if_neg (by simp; omega)]
    simp only [Sem.run_pure, Result.andThen_ok, run_askRoom, run_sizeT_pos hz0, hn, if_false, newRow, Sem.run_bind, run_newObj, World.alloc_eq, hzr]

/-- A cut of what nobody writes. -/
theorem cut_rd {F : Foot} {nl : Bool} {sz n : Nat} {g : Cells} {A : Option Addr} {cap : Nat} (hd : Rd w F (.sl nl sz n g) (.slice A n cap)) (l u : Nat) (hl : l ≤ u) (hu : u ≤ n) :
    Rd w F (.sl nl sz (u - l) (Cells.shift l g)) (sliced A l u cap sz) := by
  cases hd with
  | slNil =>
    obtain rfl : u = 0 := by omega
    obtain rfl : l = 0 := by omega
    exact .slNil _ _
  | slE _ _ _ A =>
    obtain rfl : u = 0 := by omega
    obtain rfl : l = 0 := by omega
    unfold sliced
    split
    · exact .slE _ _ _ _
    · exact .slE _ _ _ _
  | sl _ _ _ _ q off ys hc hF hsz hcell hh =>
    unfold sliced
    have hmain : ∀ off', (off' = off + l * sz ∨ u - l = 0) → Rd w F (.sl false sz (u - l) (Cells.shift l g)) (.slice (some ⟨q, off', none⟩) (u - l) (cap - l)) := by
      intro off' ho
      refine .sl sz (u - l) (cap - l) _ q off' (fun i j => ys (l + i) j) (by omega) hF (fun i hi => by rw [Cells.shift_fn]; exact hsz (l + i) (by omega)) (fun i j hi hj => ?_) fun i j v hi hv => hh (l + i) j v (by omega) (by rwa [Cells.shift_fn] at hv)
      have ho : off' = off + l * sz := by omega
      have := hcell (l + i) j (by omega) hj
      rw [Nat.add_mul] at this
      rwa [show off + (l * sz + i * sz + j) = off' + (i * sz + j) by omega] at this
    split
    · exact hmain off (.inr (by omega))
    · simp only [Option.map_some, addp]
      exact hmain _ (.inl rfl)

theorem sl_form {nl : Bool} {sz n : Nat} {g : Cells} {x : Value} (hv : Rv w c (.sl nl sz n g) x) : ∃ A cap, x = .slice A n cap ∧ n ≤ cap ∧ Rd w c.F (.sl nl sz n g) (.slice A n cap) := by
  cases hv with
  | im _ _ hd =>
    cases hd with
    | slNil => exact ⟨none, 0, rfl, Nat.le_refl _, .slNil _ _⟩
    | slE _ cap _ A => exact ⟨some A, cap, rfl, Nat.zero_le _, .slE _ _ _ _⟩
    | sl _ _ cap _ q off ys hc hF hsz hcell hh => exact ⟨_, cap, rfl, hc, .sl sz n cap g q off ys hc hF hsz hcell hh⟩

theorem elem_of {t e : TypeId} (hu : P.underlying t = some (.slice e)) : P.underlying t = some (.slice (P.elem t)) ∧ P.elem t = e := by
  have : P.elem t = e := by simp [Program.elem, hu]
  exact ⟨by rw [this]; exact hu, this⟩

theorem mono_slice (h : Rel base w0 ks st a w c) {t : TypeId} {x : Operand} {lo hi mx : Option Operand} (hop : o.op = .slice t x lo hi mx) (he : evMono P st st.h.length o.type o.op = some (b, v, bs)) (hb : b = true) : MonoOK P base w0 ks st a w c o v bs := by
  rw [hop] at he
  simp only [evMono] at he
  have hx := h.ev x
  have opnd : ∀ {q : Option Operand} {k : IntKind} {n : Int}, q.map (ev st) = some (.int k n) → q.map a.eval = some (.int k n) := by
    intro q k n hq
    cases q with
    | none => cases hq
    | some y =>
      simp only [Option.map_some, Option.some.injEq] at hq ⊢
      have hy := h.ev y
      rw [hq] at hy
      exact hy.int_inv
  have opnn : ∀ {q : Option Operand}, q.map (ev st) = none → q.map a.eval = none := by
    intro q hq
    cases q with
    | none => rfl
    | some y => cases hq
  split at he
  · rename_i s hu ex
    rw [ex] at hx
    have hx := hx.str_inv
    have hrun : ∀ X, (Instr.slice t (.string s) (lo.map a.eval) (hi.map a.eval) (mx.map a.eval)).run P w = .ok X w → (execOp a.eval o).run P w = .ok (.value X) w := by
      intro X hX
      simp only [execOp, hop, hx, Sem.run_bind, run_sliceAt_string w t _ _ _ _ hu, hX, Result.andThen_ok, Sem.run_pure]
    split at he
    · rename_i e1 e2
      simp only [Option.some.injEq, Prod.mk.injEq] at he
      obtain ⟨rfl, rfl, rfl⟩ := he
      refine .stay h (hrun _ ?_) (.im _ _ (.str _))
      rw [opnn e1, opnn e2]
      simp [Instr.slice, run_underlying hu, Instr.sliceBounds]
    · rename_i k l e1 e2
      simp only [Option.some.injEq, Prod.mk.injEq] at he
      obtain ⟨rfl, rfl, rfl⟩ := he
      simp only [Bool.and_eq_true, decide_eq_true_eq] at hb
      refine .stay h (hrun _ ?_) (.im _ _ (.str _))
      rw [opnd e1, opnn e2]
      simp [Instr.slice, run_underlying hu, Instr.sliceBounds, run_sliceBound, hb.1, hb.2]
    · rename_i k u e1 e2
      simp only [Option.some.injEq, Prod.mk.injEq] at he
      obtain ⟨rfl, rfl, rfl⟩ := he
      simp only [Bool.and_eq_true, decide_eq_true_eq] at hb
      refine .stay h (hrun _ ?_) (.im _ _ (.str _))
      rw [opnn e1, opnd e2]
      simp [Instr.slice, run_underlying hu, Instr.sliceBounds, run_sliceBound, hb.1, hb.2]
    · rename_i k l k' u e1 e2
      simp only [Option.some.injEq, Prod.mk.injEq] at he
      obtain ⟨rfl, rfl, rfl⟩ := he
      simp only [Bool.and_eq_true, decide_eq_true_eq] at hb
      obtain ⟨⟨⟨hb1, hb2⟩, hb3⟩, hb4⟩ := hb
      refine .stay h (hrun _ ?_) (.im _ _ (.str _))
      rw [opnd e1, opnd e2]
      have e3 : (u.toNat : Int) = u := Int.toNat_of_nonneg hb1
      have hlu : l ≤ (u.toNat : Int) := by omega
      simp [Instr.slice, run_underlying hu, Instr.sliceBounds, run_sliceBound, hb1, hb2, hb3, hlu, e3, hb4]
    · cases he
  · rename_i e' nl sz n g hu ex
    split at he <;> (try cases he)
    rename_i hz
    obtain ⟨rfl, hz⟩ := hz
    rw [ex] at hx
    obtain ⟨A, cap, hxs, hcap, hrd⟩ := sl_form hx
    obtain ⟨hue, hel⟩ := elem_of hu
    have hsz : ∀ W : World, (sizeOf (P.elem t)).run P W = .ok (sizeT P e') W := fun W => by rw [hel]; exact run_sizeT_pos hz W
    have hrun : ∀ X, (Instr.slice t (.slice A n cap) (lo.map a.eval) (hi.map a.eval) (mx.map a.eval)).run P w = .ok X w → (execOp a.eval o).run P w = .ok (.value X) w := by
      intro X hX
      simp only [execOp, hop, hxs, Sem.run_bind, run_sliceAt_slice w t _ _ _ _ hue, hX, Result.andThen_ok, Sem.run_pure]
    split at he
    · rename_i e1 e2 e3
      simp only [Option.some.injEq, Prod.mk.injEq] at he
      obtain ⟨rfl, rfl, rfl⟩ := he
      have hc := cut_rd hrd 0 n (Nat.zero_le _) (Nat.le_refl _)
      refine .stay h (hrun (sliced A 0 n cap (sizeT P e')) ?_) ?_
      · rw [opnn e1, opnn e2, opnn e3, run_slice_all w t A n cap hue, hsz]
        rfl
      · simp only [Nat.sub_zero, Nat.zero_add, Cells.shift_zero] at hc
        exact .im _ _ hc
    · rename_i k l e1 e2 e3
      simp only [Option.some.injEq, Prod.mk.injEq] at he
      obtain ⟨rfl, rfl, rfl⟩ := he
      simp only [Bool.and_eq_true, decide_eq_true_eq] at hb
      have hc := cut_rd hrd l.toNat n (by omega) (Nat.le_refl _)
      refine .stay h (hrun _ ?_) (.im _ _ hc)
      rw [opnd e1, opnn e2, opnn e3, run_slice_l w t A n cap hue k l hb.1 hb.2, hsz]
      rfl
    · rename_i k u e1 e2 e3
      simp only [Option.some.injEq, Prod.mk.injEq] at he
      obtain ⟨rfl, rfl, rfl⟩ := he
      simp only [Bool.and_eq_true, decide_eq_true_eq] at hb
      have hc := cut_rd hrd 0 u.toNat (Nat.zero_le _) (by omega)
      refine .stay h (hrun (sliced A 0 u.toNat cap (sizeT P e')) ?_) ?_
      · rw [opnn e1, opnd e2, opnn e3, run_slice_h w t A n cap hue k u hb.1 (by omega), hsz]
        rfl
      · simp only [Nat.sub_zero, Nat.zero_add, Cells.shift_zero] at hc
        exact .im _ _ hc
    · rename_i k l k' u e1 e2 e3
      simp only [Option.some.injEq, Prod.mk.injEq] at he
      obtain ⟨rfl, rfl, rfl⟩ := he
      simp only [Bool.and_eq_true, decide_eq_true_eq] at hb
      obtain ⟨⟨⟨hb1, hb2⟩, hb3⟩, hb4⟩ := hb
      have hc := cut_rd hrd l.toNat u.toNat (by omega) (by omega)
      refine .stay h (hrun _ ?_) (.im _ _ hc)
      rw [opnd e1, opnd e2, opnn e3, run_slice_lh w t A n cap hue k k' l u hb3 hb4 (by omega), hsz]
      rfl
    · rename_i k u k' m e1 e2 e3
      simp only [Option.some.injEq, Prod.mk.injEq] at he
      obtain ⟨rfl, rfl, rfl⟩ := he
      simp only [Bool.and_eq_true, decide_eq_true_eq] at hb
      obtain ⟨⟨hb1, hb2⟩, rfl⟩ := hb
      have hval : (Instr.slice t (.slice A n cap) none (some (.int k u)) (some (.int k' u))).run P w = .ok (.slice A u.toNat u.toNat) w := by
        have s1 := run_sliceBound (P := P) w k' u cap .slice3Acap hb1 (by omega)
        have s2 := run_sliceBound (P := P) w k u u.toNat .slice3B hb1 (by omega)
        simp only [Instr.slice, Sem.run_bind, run_underlying hu, Result.andThen_ok, Instr.sliceBounds, Sem.run_pure, if_true]
        rw [s1]
        simp only [Result.andThen_ok]
        rw [s2]
        simp only [Result.andThen_ok, run_sizeT_pos hz, Sem.run_pure, Nat.sub_zero]
        cases A with
        | none => simp
        | some A => simp [Addr.add]
      rw [← opnn e1, ← opnd e2, ← opnd e3] at hval
      cases hrd with
      | slNil =>
        obtain rfl : u = 0 := by omega
        refine ⟨_, w, c.push (.slice none 0 0) none, hrun _ hval, h.pushNone _ (.rowNil _ _ _ hz (by simp [Cx.push]) (by simp [Cx.push])), ?_, fun h => by cases h⟩
        rw [← h.hm]
        exact .own c.m (by simp [Cx.push]) none 0 0 (by simp [Cx.push])
      | slE _ _ _ A =>
        have hu0 : u.toNat = 0 := by omega
        rw [hu0] at hval ⊢
        refine ⟨_, w, c.push (.slice (some A) 0 0) none, hrun _ hval, h.pushNone _ (.rowFull _ _ _ _ A hz rfl (by simp [Cx.push]) (by simp [Cx.push]) (.slE _ _ _ _)), ?_, fun h => by cases h⟩
        rw [← h.hm]
        exact .own c.m (by simp [Cx.push]) _ _ _ (by simp [Cx.push])
      | sl _ _ _ _ q off ys hc hF hsz' hcell hh =>
        have hc2 : Rd w c.F (.sl false (sizeT P e') u.toNat g) (.slice (some ⟨q, off, none⟩) u.toNat u.toNat) :=
          .sl _ _ _ _ q off ys (Nat.le_refl _) hF (fun i hi => hsz' i (by omega)) (fun i j hi hj => hcell i j (by omega) hj) fun i j v hi hv => hh i j v (by omega) hv
        refine ⟨_, w, c.push (.slice (some ⟨q, off, none⟩) u.toNat u.toNat) none, hrun _ hval, h.pushNone _ (.rowFull _ _ _ _ ⟨q, off, none⟩ hz rfl (by simp [Cx.push]) (by simp [Cx.push]) hc2), ?_, fun h => by cases h⟩
        rw [← h.hm]
        exact .own c.m (by simp [Cx.push]) _ _ _ (by simp [Cx.push])
    · cases he
  · cases he

/-- EVERY OPERATION THAT WRITES NOTHING THAT WAS THERE. -/
theorem evMono_sound (h : Rel base w0 ks st a w c) (he : evMono P st st.h.length o.type o.op = some (b, v, bs)) (hb : b = true) : MonoOK P base w0 ks st a w c o v bs := by
  cases hop : o.op with
  | move x => exact mono_move h (.inl hop) he hb
  | assign x => exact mono_move h (.inr hop) he hb
  | alloc e => exact mono_alloc h hop he
  | box e x => exact mono_box h hop he
  | build t ps => exact mono_build h hop he
  | buildSlice t n ps => exact mono_buildSlice h hop he
  | load t x => exact mono_load h hop he hb
  | nilCheck x => exact mono_nilCheck h hop he
  | binOp op t x y t' =>
    rw [hop] at he
    simp only [evMono] at he
    split at he <;> (try cases he)
    rename_i hbin
    obtain ⟨z, hz1, hz2⟩ := evBin_sound h (h.ev x) (h.ev y) hbin hb
    refine .stay h (x := z) ?_ hz2
    simp only [execOp, hop]
    simp only [Sem.run_bind] at hz1 ⊢
    simp [hz1]
  | unOp op t x => exact mono_unOp h hop he
  | convert s t x => exact mono_convert h hop he
  | makeInterface t x => exact mono_makeInterface h hop he
  | typeAssert x xt at_ ok => exact mono_typeAssert h hop he
  | makeFunc fn f g => exact mono_makeFunc h hop he
  | makeSlice t l m => exact mono_makeSlice h hop he hb
  | makeMap t r => exact mono_makeMap h hop he
  | range t x => exact mono_range h hop he
  | lookup t x i ok => exact mono_lookup h hop he
  | slice t x lo hi mx => exact mono_slice h hop he hb
  | fieldAddr t x f => exact mono_fieldAddr h hop he
  | field t x f => exact mono_field h hop he
  | indexAddr t x i => exact mono_indexAddr h hop he hb
  | index t x i => exact mono_index h hop he hb
  | extract x j => exact mono_extract h hop he
  | call cl =>
    obtain ⟨callee, args, tys⟩ := cl
    cases callee with
    | builtin bi =>
      cases bi <;> first
        | exact mono_len h hop he
        | exact mono_min h hop he
        | exact mono_max h hop he
        | exact mono_cap h hop he
        | (rw [hop] at he; simp [evMono] at he)
    | value f => rw [hop] at he; simp [evMono] at he
    | invoke r m => rw [hop] at he; simp [evMono] at he
  | _ => rw [hop] at he; simp [evMono] at he

end
end Go.Rv
