/- Rv, part G: operators. Of no program. -/
import Derived.Test.YtmoeohjaafpmgaaRvF
set_option linter.unusedVariables false
set_option linter.unusedSimpArgs false
set_option linter.unusedSectionVars false
namespace Go.Rv
open Go Go.RowKit
variable [Fx]

/-- CellsOK, one by one. -/
def CellsOK (w : World) (c : Cx) (A : List V) (xs : Array Value) : Prop := A.length = xs.size ∧ ∀ (i : Nat) v x, A[i]? = some v → xs[i]? = some x → Rv w c v x

theorem CellsOK.cut {w : World} {c : Cx} {A : List V} {xs : Array Value} (h : CellsOK w c A xs) (off n : Nat) : CellsOK w c ((A.drop off).take n) (xs.extract off (off + n)) := by
  refine ⟨by simp [h.1]; omega, fun i v x hv hx => ?_⟩
  rw [List.getElem?_take] at hv
  split at hv
  · rename_i hi
    rw [List.getElem?_drop] at hv
    rw [Array.getElem?_extract] at hx
    split at hx
    · exact h.2 _ v x hv hx
    · cases hx
  · cases hv

section
variable {P : Program} {w : World} {c : Cx}

def valOf (P : Program) (t : TypeId) (xs : Array Value) : Value := if aggT P t then .agg xs else xs.getD 0 undef

theorem run_part {t : TypeId} {d : TypeDesc} (hu : P.underlying t = some d) (xs : Array Value) (off : Nat) (h : aggT P t = false → off < xs.size ∧ 0 < sizeT P t) (W : World) : (part t xs off).run P W = .ok (valOf P t (xs.extract off (off + sizeT P t))) W := by
  obtain ⟨i, hi⟩ := info_of_underlying hu
  simp only [part, Sem.run_bind, run_isAgg hu, Result.andThen_ok, valOf]
  cases e : aggT P t with
  | true => simp only [if_true, Sem.run_bind, run_sizeT hi, Result.andThen_ok, Sem.run_pure]
  | false =>
    obtain ⟨h1, h2⟩ := h e
    simp only [Bool.false_eq_true, if_false, Array.getElem?_eq_getElem h1, Sem.run_pure]
    congr 1
    have h3 : 0 < (xs.extract off (off + sizeT P t)).size := by simp; omega
    rw [Array.getD_eq_getD_getElem?, Array.getElem?_eq_getElem h3]
    simp

theorem loop_eq {g : Nat → Option Bool × Unit → Sem (ForInStep (Option Bool × Unit))} {r : Nat → Bool} (W : World) : ∀ (l : List Nat), (∀ i ∈ l, ∀ s, (g i s).run P W = .ok (if r i then .yield (none, ()) else .done (some false, ())) W) →
    (forIn (m := Sem) l ((none : Option Bool), ()) g).run P W = .ok (if l.foldr (fun i acc => r i && acc) true then (none, ()) else (some false, ())) W := by
  intro l
  induction l with
  | nil => intro _; simp
  | cons i l ih =>
    intro h
    have ih := ih fun j hj => h j (by simp [hj])
    simp only [List.forIn_cons, Sem.run_bind, h i (by simp), Result.andThen_ok, List.foldr_cons]
    have e : r i = true ∨ r i = false := by cases r i <;> simp
    rcases e with e | e
    · simp only [e, if_true, Bool.true_and]; exact ih
    · simp [e]

theorem foldr_some {β : Type} {f : β → Option Bool} : ∀ {l : List β} {r : Bool}, l.foldr (fun i acc => match f i, acc with | some x, some y => some (x && y) | _, _ => none) (some true) = some r →
    (∀ i ∈ l, ∃ x, f i = some x) ∧ r = l.foldr (fun i acc => (f i).getD false && acc) true := by
  intro l
  induction l with
  | nil => intro r h; simp only [List.foldr_nil, Option.some.injEq] at h; subst h; exact ⟨fun i hi => by simp at hi, rfl⟩
  | cons i l ih =>
    intro r h
    simp only [List.foldr_cons] at h
    split at h
    · rename_i x y hx hy
      simp only [Option.some.injEq] at h
      obtain ⟨h1, h2⟩ := ih hy
      refine ⟨fun j hj => ?_, ?_⟩
      · rcases List.mem_cons.1 hj with rfl | hj
        · exact ⟨x, hx⟩
        · exact h1 j hj
      · rw [List.foldr_cons, hx, Option.getD_some, ← h2, ← h]
    · cases h

theorem eqT_underlying {d : Nat} {t : TypeId} {A B : List V} {r : Bool} (h : eqT P d t A B = some r) : ∃ u, P.underlying t = some u := by
  cases d with
  | zero => cases h
  | succ d =>
    cases e : P.underlying t with
    | some u => exact ⟨u, rfl⟩
    | none => simp [eqT, e] at h

theorem eqT_scalar {d : Nat} {t : TypeId} {A B : List V} {r : Bool} (h : eqT P d t A B = some r) (hs : aggT P t = false) : A ≠ [] ∧ B ≠ [] := by
  cases d with
  | zero => cases h
  | succ d =>
    simp only [eqT] at h
    split at h
    · split at h
      · exact ⟨by simp, by simp⟩
      · cases h
    · split at h
      · exact ⟨by simp, by simp⟩
      · cases h
    · split at h
      · exact ⟨by simp, by simp⟩
      · cases h
    · rename_i e; simp [aggT, e] at hs
    · rename_i e; simp [aggT, e] at hs
    · cases h

theorem eqT_sound : ∀ (d : Nat) (t : TypeId) (A B : List V) (r : Bool) (xs ys : Array Value), eqT P d t A B = some r → CellsOK w c A xs → CellsOK w c B ys → ∀ D, d ≤ D → ∀ W, (Op.equalIn D t (valOf P t xs) (valOf P t ys)).run P W = .ok r W := by
  intro d
  induction d with
  | zero => intro t A B r xs ys h; cases h
  | succ d ih =>
    intro t A B r xs ys h hA hB D hD W
    obtain ⟨D, rfl⟩ : ∃ m, D = m + 1 := ⟨D - 1, by omega⟩
    have one1 : ∀ {v : V} {zs : Array Value}, CellsOK w c [v] zs → Rv w c v (zs.getD 0 undef) := by
      intro v zs h
      have : 0 < zs.size := by have := h.1; simp at this; omega
      rw [Array.getD_eq_getD_getElem?, Array.getElem?_eq_getElem this]
      exact h.2 0 v _ rfl (Array.getElem?_eq_getElem this)
    simp only [eqT] at h
    split at h
    · rename_i k e
      split at h
      · split at h
        · rename_i hk
          subst hk
          simp only [Option.some.injEq] at h
          have h1 := (one1 hA).int_inv
          have h2 := (one1 hB).int_inv
          rw [valOf, valOf, aggT, e]
          simp only [Bool.false_eq_true, if_false]
          rw [h1, h2]
          rw [run_equalIn_int W D t _ _ _ _ e, h]
        · cases h
      · cases h
    · rename_i e
      split at h
      · simp only [Option.some.injEq] at h
        have h1 := (one1 hA).bool_inv
        have h2 := (one1 hB).bool_inv
        rw [valOf, valOf, aggT, e]
        simp only [Bool.false_eq_true, if_false]
        rw [h1, h2]
        rw [run_equalIn_bool' W D t _ _ e, h]
      · cases h
    · rename_i e
      split at h
      · simp only [Option.some.injEq] at h
        have h1 := (one1 hA).str_inv
        have h2 := (one1 hB).str_inv
        rw [valOf, valOf, aggT, e]
        simp only [Bool.false_eq_true, if_false]
        rw [h1, h2]
        rw [run_equalIn_string W D t _ _ e, h]
      · cases h
    · rename_i fs e
      split at h
      · cases h
      · rename_i hp
        have hp : P.stoodInHeld t = false := by simpa using hp
        have hfs : P.fieldsOf t = fs := by simp [Program.fieldsOf, e]
        rw [valOf, valOf, aggT, e]
        simp only [if_true]
        rw [run_equalIn_struct W D t xs ys (by rw [hfs]; exact e) hp, hfs]
        clear e hfs
        generalize fs.toList = l at h
        clear hp
        revert r
        induction l with
        | nil => intro r h; simp only [List.foldr_nil, Option.some.injEq] at h; subst h; simp [Op.eqFields]
        | cons f l ihl =>
          intro r h
          simp only [List.foldr_cons] at h
          split at h
          · cases h
          · rename_i hname
            split at h
            · rename_i x y hx hy
              simp only [Option.some.injEq] at h
              have ihl := ihl y hy
              obtain ⟨u, hu⟩ := eqT_underlying hx
              have bd : ∀ {A : List V} {zs : Array Value}, CellsOK w c A zs → (A.drop f.offset).take (sizeT P f.type) ≠ [] → f.offset < zs.size ∧ 0 < sizeT P f.type := by
                intro A zs hA hne
                have : 0 < ((A.drop f.offset).take (sizeT P f.type)).length := List.length_pos_iff.2 hne
                simp at this
                have := hA.1
                omega
              have p1 := run_part hu xs f.offset (fun hs => bd hA (eqT_scalar hx hs).1) W
              have p2 := run_part hu ys f.offset (fun hs => bd hB (eqT_scalar hx hs).2) W
              have p3 := ih f.type _ _ x _ _ hx (hA.cut _ _) (hB.cut _ _) D (by omega) W
              simp only [Op.eqFields]
              rw [if_pos hname]
              simp only [Sem.run_bind, p1, p2, p3, Result.andThen_ok]
              cases x with
              | true => simp only [Bool.not_true, Bool.false_eq_true, if_false]; rw [ihl, ← h]; simp
              | false => rw [← h]; simp
            · cases h
    · rename_i n e' e
      split at h
      · rename_i hz
        obtain ⟨h1, h2⟩ := foldr_some h
        rw [valOf, valOf, aggT, e]
        simp only [if_true]
        have bd : ∀ {A : List V} {zs : Array Value} {off : Nat}, CellsOK w c A zs → (A.drop off).take (sizeT P e') ≠ [] → off < zs.size ∧ 0 < sizeT P e' := by
          intro A zs off hA hne
          have : 0 < ((A.drop off).take (sizeT P e')).length := List.length_pos_iff.2 hne
          simp at this
          have := hA.1
          omega
        simp only [Op.equalIn, Sem.run_bind, run_underlying e, run_sizeT_pos hz, Result.andThen_ok]
        rw [Std.Legacy.Range.forIn_eq_forIn_range']
        have hrg : ([:n] : Std.Legacy.Range).size = n := by simp [Std.Legacy.Range.size]
        rw [hrg]
        have hr' : List.range' ([:n] : Std.Legacy.Range).start n ([:n] : Std.Legacy.Range).step = List.range n := by rw [List.range_eq_range']
        rw [hr']
        rw [loop_eq (r := fun i => (eqT P d e' ((A.drop (i * sizeT P e')).take (sizeT P e')) ((B.drop (i * sizeT P e')).take (sizeT P e'))).getD false) W (List.range n) (fun i hi s => by
            obtain ⟨x, hx⟩ := h1 i hi
            obtain ⟨u, hu⟩ := eqT_underlying hx
            have p1 := run_part hu xs (i * sizeT P e') (fun hs => bd hA (eqT_scalar hx hs).1) W
            have p2 := run_part hu ys (i * sizeT P e') (fun hs => bd hB (eqT_scalar hx hs).2) W
            have p3 := ih e' _ _ x _ _ hx (hA.cut _ _) (hB.cut _ _) D (by omega) W
            simp only [Sem.run_bind, p1, p2, p3, Result.andThen_ok, hx, Option.getD_some]
            cases x <;> simp)]
        rw [← h2]
        cases r <;> simp
      · cases h
    · cases h

/-! ### Operators -/
theorem nilB_sound {base : Base} {w0 : World} {ks : List (Array Value)} {st : St} {a : Act} (h : Rel base w0 ks st a w c) {op : BinOp} {t : TypeId} {ox oy : Operand} {X Y : V} {r : Bool} {x y : Value}
    (hx : Rv w c X x) (hy : Rv w c Y y) {d : Option TypeDesc} (hd : P.underlying t = d) (hr : nilB st.h d X Y = some r) (hop : op = .eql ∨ op = .neq) (hcst : (Region.isConst ox || Region.isConst oy) = true) :
    (eqGuard op t ox oy x y).run P w = .ok () w ∧ (Op.equal t x y).run P w = .ok r w ∧ (∀ W : World, (binOp .eql t x y).run P W = ((Op.equal t x y).run P W).andThen fun b w' => .ok (.bool b) w') ∧ (∀ W : World, (binOp .neq t x y).run P W = ((Op.equal t x y).run P W).andThen fun b w' => .ok (.bool (!b)) w') := by
  have fin : (∀ D, (Op.equalIn (D + 1) t x y).run P w = .ok r w) → (Op.equal t x y).run P w = .ok r w := fun hE => hE 9999
  have inv : ∀ {v : V} {z : Value}, Rv w c v z → (∀ cs, v ≠ .agg cs) → ¬ Loc v → (∀ cs, v ≠ .tup cs) → (∀ f a b, v ≠ .func f a b) → (∀ t u, v ≠ .iface t u) → Rd w c.F v z := by
    intro v z hz h1 hl h2 h3 h4
    cases hz with
    | im _ _ h => exact h
    | agg cs => exact absurd rfl (h1 cs)
    | tup cs => exact absurd rfl (h2 cs)
    | own => exact absurd trivial hl
    | ref => exact absurd trivial hl
    | wptr => exact absurd trivial hl
    | mp => exact absurd trivial hl
    | func f a b => exact absurd rfl (h3 f a b)
    | iface t u => exact absurd rfl (h4 t u)
  unfold nilB at hr
  split at hr <;> (try cases hr)
  · have hx := inv hx (by simp) (by simp [Loc]) (by simp) (by simp) (by simp); cases hx
    have hy := inv hy (by simp) (by simp [Loc]) (by simp) (by simp) (by simp); cases hy
    exact ⟨by rcases hop with rfl | rfl <;> simp [eqGuard], fin fun D => by simp only [Op.equalIn, Sem.run_bind, run_underlying hd, Result.andThen_ok]; rfl, fun W => by simp [binOp], fun W => by simp [binOp]⟩
  · obtain ⟨_, b, _, rfl⟩ := hx.ref_inv
    have hy := inv hy (by simp) (by simp [Loc]) (by simp) (by simp) (by simp); cases hy
    exact ⟨by rcases hop with rfl | rfl <;> simp [eqGuard], fin fun D => by simp only [Op.equalIn, Sem.run_bind, run_underlying hd, Result.andThen_ok]; rfl, fun W => by simp [binOp], fun W => by simp [binOp]⟩
  · have hx := inv hx (by simp) (by simp [Loc]) (by simp) (by simp) (by simp); cases hx
    have hy := inv hy (by simp) (by simp [Loc]) (by simp) (by simp) (by simp); cases hy
    exact ⟨by rcases hop with rfl | rfl <;> simp [eqGuard], fin fun D => by simp only [Op.equalIn, Sem.run_bind, run_underlying hd, Result.andThen_ok]; rfl, fun W => by simp [binOp], fun W => by simp [binOp]⟩
  · obtain ⟨_, b, _, _, _, rfl⟩ := hx.wptr_inv
    have hy := inv hy (by simp) (by simp [Loc]) (by simp) (by simp) (by simp); cases hy
    exact ⟨by rcases hop with rfl | rfl <;> simp [eqGuard], fin fun D => by simp only [Op.equalIn, Sem.run_bind, run_underlying hd, Result.andThen_ok]; rfl, fun W => by simp [binOp], fun W => by simp [binOp]⟩
  · have hx := inv hx (by simp) (by simp [Loc]) (by simp) (by simp) (by simp); cases hx
    have hy := inv hy (by simp) (by simp [Loc]) (by simp) (by simp) (by simp); cases hy
    exact ⟨by rcases hop with rfl | rfl <;> simp [eqGuard], fin fun D => by simp only [Op.equalIn, Sem.run_bind, run_underlying hd, Result.andThen_ok]; rfl, fun W => by simp [binOp], fun W => by simp [binOp]⟩
  · obtain ⟨_, b, _, rfl⟩ := hx.mp_inv
    have hy := inv hy (by simp) (by simp [Loc]) (by simp) (by simp) (by simp); cases hy
    exact ⟨by rcases hop with rfl | rfl <;> simp [eqGuard], fin fun D => by simp only [Op.equalIn, Sem.run_bind, run_underlying hd, Result.andThen_ok]; rfl, fun W => by simp [binOp], fun W => by simp [binOp]⟩
  · have hx := inv hx (by simp) (by simp [Loc]) (by simp) (by simp) (by simp); cases hx
    have hy := inv hy (by simp) (by simp [Loc]) (by simp) (by simp) (by simp); cases hy
    exact ⟨by rcases hop with rfl | rfl <;> simp [eqGuard], fin fun D => by simp only [Op.equalIn, Sem.run_bind, run_underlying hd, Result.andThen_ok]; rfl, fun W => by simp [binOp], fun W => by simp [binOp]⟩
  · obtain ⟨_, _, rfl, _⟩ := hx.func_inv
    have hy := inv hy (by simp) (by simp [Loc]) (by simp) (by simp) (by simp); cases hy
    exact ⟨by rcases hop with rfl | rfl <;> simp [eqGuard], fin fun D => by simp only [Op.equalIn, Sem.run_bind, run_underlying hd, Result.andThen_ok]; rfl, fun W => by simp [binOp], fun W => by simp [binOp]⟩
  · have hx := inv hx (by simp) (by simp [Loc]) (by simp) (by simp) (by simp); cases hx
    have hy := inv hy (by simp) (by simp [Loc]) (by simp) (by simp) (by simp); cases hy
    refine ⟨?_, fin fun D => by simp only [Op.equalIn, Sem.run_bind, run_underlying hd, Result.andThen_ok]; rfl, fun W => by simp [binOp], fun W => by simp [binOp]⟩
    cases ox <;> cases oy <;> simp only [Region.isConst, Bool.or_self, Bool.or_true, Bool.or_false, Bool.false_eq_true] at hcst <;> rcases hop with rfl | rfl <;> simp [eqGuard]
  · obtain ⟨_, rfl, _⟩ := hx.iface_inv
    have hy := inv hy (by simp) (by simp [Loc]) (by simp) (by simp) (by simp); cases hy
    exact ⟨by rcases hop with rfl | rfl <;> simp [eqGuard], fin fun D => by simp only [Op.equalIn, Sem.run_bind, run_underlying hd, Result.andThen_ok]; rfl, fun W => by simp [binOp], fun W => by simp [binOp]⟩
  · have hy := inv hy (by simp) (by simp [Loc]) (by simp) (by simp) (by simp); cases hy
    have hx := inv hx (by simp) (by simp [Loc]) (by simp) (by simp) (by simp)
    cases hx <;> exact ⟨by rcases hop with rfl | rfl <;> simp [eqGuard], fin fun D => by simp only [Op.equalIn, Sem.run_bind, run_underlying hd, Result.andThen_ok]; rfl, fun W => by simp [binOp], fun W => by simp [binOp]⟩
  · have hy := inv hy (by simp) (by simp [Loc]) (by simp) (by simp) (by simp); cases hy
    obtain ⟨_, rfl, _⟩ := hx.own_inv
    split at hr <;> (try cases hr)
    rename_i hb2
    obtain ⟨_, hB⟩ := h.at hb2
    cases hB with
    | rowNil wr sz g hz hρ ho => rw [hρ] at fin ⊢; exact ⟨by rcases hop with rfl | rfl <;> simp [eqGuard], fin fun D => by simp only [Op.equalIn, Sem.run_bind, run_underlying hd, Result.andThen_ok]; rfl, fun W => by simp [binOp], fun W => by simp [binOp]⟩
    | rowFull wr _ _ _ A2 hz hw hρ ho hd2 => rw [hρ] at fin ⊢; exact ⟨by rcases hop with rfl | rfl <;> simp [eqGuard], fin fun D => by simp only [Op.equalIn, Sem.run_bind, run_underlying hd, Result.andThen_ok]; rfl, fun W => by simp [binOp], fun W => by simp [binOp]⟩
    | row wr _ _ cap _ ty k' xs fz hz hρ ho hk' hfz hs hc h1 hg hh => rw [hρ] at fin ⊢; exact ⟨by rcases hop with rfl | rfl <;> simp [eqGuard], fin fun D => by simp only [Op.equalIn, Sem.run_bind, run_underlying hd, Result.andThen_ok]; rfl, fun W => by simp [binOp], fun W => by simp [binOp]⟩

theorem evBin_sound {base : Base} {w0 : World} {ks : List (Array Value)} {st : St} {a : Act} (h : Rel base w0 ks st a w c) {op : BinOp} {t : TypeId} {ox oy : Operand} {X Y v : V} {b : Bool} {x y : Value}
    (hx : Rv w c X x) (hy : Rv w c Y y) (he : evBin P st.h (Region.isConst ox || Region.isConst oy) op t X Y = some (b, v)) (hb : b = true) :
    ∃ z, (do eqGuard op t ox oy x y; binOp op t x y : Sem Value).run P w = .ok z w ∧ Rv w c v z := by
  unfold evBin at he
  split at he
  · rename_i k m k' n
    obtain rfl := hx.int_inv
    obtain rfl := hy.int_inv
    have hg : (eqGuard op t ox oy (.int k m) (.int k' n)).run P w = .ok () w := by cases op <;> simp [eqGuard]
    split at he
    · simp only [Option.some.injEq, Prod.mk.injEq] at he
      obtain ⟨rfl, rfl⟩ := he
      have hb := of_decide_eq_true hb
      refine ⟨_, ?_, .im _ _ (.int _ _)⟩
      simp only [Sem.run_bind, hg, Result.andThen_ok]
      simp [binOp, Op.shift, show ¬ (n < 0) by omega]
    · simp only [Option.some.injEq, Prod.mk.injEq] at he
      obtain ⟨rfl, rfl⟩ := he
      have hb := of_decide_eq_true hb
      refine ⟨_, ?_, .im _ _ (.int _ _)⟩
      simp only [Sem.run_bind, hg, Result.andThen_ok]
      simp [binOp, Op.shift, show ¬ (n < 0) by omega]
    all_goals
      split at he
      · rename_i hk
        subst hk
        simp only [Option.some.injEq, Prod.mk.injEq] at he
        obtain ⟨rfl, rfl⟩ := he
        first
        | (refine ⟨_, ?_, .im _ _ (.int _ _)⟩
           simp only [Sem.run_bind, hg, Result.andThen_ok, binOp, ne_eq, not_true_eq_false, if_false, Op.intArith, Op.intBits, Sem.run_pure]
           done)
        | (refine ⟨_, ?_, .im _ _ (.bool _)⟩
           simp only [Sem.run_bind, hg, Result.andThen_ok, binOp, ne_eq, not_true_eq_false, if_false, Op.intCmp, Sem.run_pure]
           done)
        | (have hb : ¬ n = 0 := by simpa using hb
           refine ⟨_, ?_, .im _ _ (.int _ _)⟩
           simp only [Sem.run_bind, hg, Result.andThen_ok, binOp, ne_eq, not_true_eq_false, if_false, Op.intDiv, hb, Sem.run_pure]
           done)
      · cases he
  · rename_i m n
    obtain rfl := hx.str_inv
    obtain rfl := hy.str_inv
    have hg : (eqGuard op t ox oy (.string m) (.string n)).run P w = .ok () w := by cases op <;> simp [eqGuard]
    split at he
    · simp only [Option.some.injEq, Prod.mk.injEq] at he
      obtain ⟨rfl, rfl⟩ := he
      have hb := Nat.le_of_ble_eq_true hb
      have hb : ((m.size + n.size : Nat) : Int) ≤ IntKind.i64.max := by
        rw [show IntKind.i64.max = 9223372036854775807 from rfl]; omega
      refine ⟨.string (m ++ n), ?_, .im _ _ (.str _)⟩
      simp only [Sem.run_bind, hg, Result.andThen_ok, binOp, Op.stringOp]
      rw [if_neg (by omega)]
      rfl
    all_goals first
      | (simp only [Option.some.injEq, Prod.mk.injEq] at he
         obtain ⟨rfl, rfl⟩ := he
         exact ⟨_, by simp only [Sem.run_bind, hg, Result.andThen_ok, binOp, Op.stringOp]; rfl, .im _ _ (.bool _)⟩)
      | cases he
  · rename_i m n
    obtain rfl := hx.bool_inv
    obtain rfl := hy.bool_inv
    have hg : (eqGuard op t ox oy (.bool m) (.bool n)).run P w = .ok () w := by cases op <;> simp [eqGuard]
    split at he
    · split at he
      · rename_i hu
        simp only [Option.some.injEq, Prod.mk.injEq] at he
        obtain ⟨rfl, rfl⟩ := he
        refine ⟨_, ?_, .im _ _ (.bool _)⟩
        simp only [Sem.run_bind, hg, Result.andThen_ok, binOp, Op.equal, Op.maxDepth]
        rw [run_equalIn_bool' w 9999 t m n hu]
        rfl
      · cases he
    · split at he
      · rename_i hu
        simp only [Option.some.injEq, Prod.mk.injEq] at he
        obtain ⟨rfl, rfl⟩ := he
        refine ⟨_, ?_, .im _ _ (.bool _)⟩
        simp only [Sem.run_bind, hg, Result.andThen_ok, binOp, Op.equal, Op.maxDepth]
        rw [run_equalIn_bool' w 9999 t m n hu]
        rfl
      · cases he
    · cases he
  · rename_i A B
    obtain ⟨xs, rfl, hxl, hx1, hxr⟩ := hx.agg_inv
    obtain ⟨ys, rfl, hyl, hy1, hyr⟩ := hy.agg_inv
    have key : ∀ {r : Bool}, P.eqGuardType P.depth t = false → aggT P t = true → eqT P 6 t A B = some r → (eqGuard op t ox oy (.agg xs) (.agg ys)).run P w = .ok () w ∧ (Op.equal t (.agg xs) (.agg ys)).run P w = .ok r w := by
      intro r hm hagg hr
      refine ⟨run_eqGuard_agg w op t ox oy xs ys hm, ?_⟩
      have := eqT_sound (w := w) (c := c) 6 t A B r xs ys hr ⟨hxl, hxr⟩ ⟨hyl, hyr⟩ 10000 (by omega) w
      rw [valOf, valOf, hagg] at this
      exact this
    split at he
    · split at he
      · cases he
      · rename_i hm
        rw [Option.map_eq_some_iff] at he
        obtain ⟨r, hr, he⟩ := he
        simp only [Prod.mk.injEq] at he
        obtain ⟨rfl, rfl⟩ := he
        simp only [Bool.or_eq_true, not_or, Bool.not_eq_true, Bool.not_eq_false'] at hm
        obtain ⟨k1, k2⟩ := key hm.1 hm.2 hr
        refine ⟨_, ?_, .im _ _ (.bool _)⟩
        simp only [Sem.run_bind, k1, Result.andThen_ok, binOp, k2]
        rfl
    · split at he
      · cases he
      · rename_i hm
        rw [Option.map_eq_some_iff] at he
        obtain ⟨r, hr, he⟩ := he
        simp only [Prod.mk.injEq] at he
        obtain ⟨rfl, rfl⟩ := he
        simp only [Bool.or_eq_true, not_or, Bool.not_eq_true, Bool.not_eq_false'] at hm
        obtain ⟨k1, k2⟩ := key hm.1 hm.2 hr
        refine ⟨_, ?_, .im _ _ (.bool _)⟩
        simp only [Sem.run_bind, k1, Result.andThen_ok, binOp, k2]
        rfl
    · cases he
  · split at he
    · cases he
    · rename_i hcst
      have hcst : (Region.isConst ox || Region.isConst oy) = true := by
        cases e : (Region.isConst ox || Region.isConst oy) with
        | true => rfl
        | false => rw [e] at hcst; exact absurd rfl hcst
      have key : ∀ {r : Bool}, nilB st.h (P.underlying t) X Y = some r → (op = .eql ∨ op = .neq) → (eqGuard op t ox oy x y).run P w = .ok () w ∧ (Op.equal t x y).run P w = .ok r w ∧ (∀ W : World, (binOp .eql t x y).run P W = ((Op.equal t x y).run P W).andThen fun b w' => .ok (.bool b) w') ∧ (∀ W : World, (binOp .neq t x y).run P W = ((Op.equal t x y).run P W).andThen fun b w' => .ok (.bool (!b)) w') :=
        fun hr hop => nilB_sound h hx hy rfl hr hop hcst
      split at he
      · rename_i r hr
        simp only [Option.some.injEq, Prod.mk.injEq] at he
        obtain ⟨rfl, rfl⟩ := he
        obtain ⟨k1, k2, k3, k4⟩ := key hr (.inl rfl)
        exact ⟨_, by simp only [Sem.run_bind, k1, Result.andThen_ok, k3, k2], .im _ _ (.bool _)⟩
      · rename_i r hr
        simp only [Option.some.injEq, Prod.mk.injEq] at he
        obtain ⟨rfl, rfl⟩ := he
        obtain ⟨k1, k2, k3, k4⟩ := key hr (.inr rfl)
        exact ⟨_, by simp only [Sem.run_bind, k1, Result.andThen_ok, k4, k2], .im _ _ (.bool _)⟩
      · cases he

end
end Go.Rv
