/- Rv, part Ld: regions whose order is drawn. Of no program. -/
import Derived.Test.YtmoeohjaafpmgaaRvL
import Derived.Laws.Panics
set_option linter.unusedVariables false
set_option linter.unusedSimpArgs false
set_option linter.unusedSectionVars false
namespace Go.Rv
open Go Go.RowKit
variable [Fx]
section
variable {P : Program} {α : Type} {res : α} {base : Base} {w0 : World} {ks : List (Array Value)} {st : St} {a : Act} {w : World} {c : Cx}

theorem scalar_rd : ∀ n v, scalarV n v = true → ∀ {w w' : World} {c : Cx} {F : Foot} {x : Value}, Rv w c v x → Rd w' F v x ∧ ∀ {w2 : World} {c2 : Cx} {y : Value}, Rv w2 c2 v y → y = x := by
  intro n
  induction n with
  | zero => intro v h; cases h
  | succ n ih =>
    intro v h w w' c F x hv
    cases v with
    | bool b => have := hv.bool_inv; subst this; exact ⟨.bool _, fun h2 => h2.bool_inv⟩
    | int k m => have := hv.int_inv; subst this; exact ⟨.int _ _, fun h2 => h2.int_inv⟩
    | str s => cases hv with | im _ _ hd => cases hd; exact ⟨.str _, fun h2 => by cases h2 with | im _ _ hd => cases hd; rfl⟩
    | agg cs =>
      obtain ⟨xs, rfl, hl, h1, hh⟩ := hv.agg_inv
      simp only [scalarV, List.all_eq_true] at h
      refine ⟨.agg cs xs hl h1 fun i u y hu hy => (ih u (h u (List.mem_of_getElem? hu)) (hh i u y hu hy)).1, fun {w2 c2 y} h2 => ?_⟩
      obtain ⟨ys, rfl, hl2, _, hh2⟩ := h2.agg_inv
      congr 1
      apply Array.ext (by omega)
      intro i hi hi'
      have hc : i < cs.length := by omega
      exact (ih _ (h _ (List.getElem_mem hc)) (w' := w) (F := F) (hh i _ _ (List.getElem?_eq_getElem hc) (Array.getElem?_eq_getElem (by omega)))).2 (hh2 i _ _ (List.getElem?_eq_getElem hc) (Array.getElem?_eq_getElem (by omega)))
    | tup cs =>
      obtain ⟨xs, rfl, hl, hh⟩ := hv.tup_inv
      simp only [scalarV, List.all_eq_true] at h
      refine ⟨.tup cs xs hl fun i u y hu hy => (ih u (h u (List.mem_of_getElem? hu)) (hh i u y hu hy)).1, fun {w2 c2 y} h2 => ?_⟩
      obtain ⟨ys, rfl, hl2, hh2⟩ := h2.tup_inv
      congr 1
      apply Array.ext (by omega)
      intro i hi hi'
      have hc : i < cs.length := by omega
      exact (ih _ (h _ (List.getElem_mem hc)) (w' := w) (F := F) (hh i _ _ (List.getElem?_eq_getElem hc) (Array.getElem?_eq_getElem (by omega)))).2 (hh2 i _ _ (List.getElem?_eq_getElem hc) (Array.getElem?_eq_getElem (by omega)))
    | _ => cases h

theorem rv_rd0 (hm : c.m = 0) {v : V} {x : Value} (h : Rv w c v x) : Rd w c.F v x := by
  induction h with
  | im v x h => exact h
  | agg cs xs hl h1 h ih => exact .agg cs xs hl h1 ih
  | tup cs xs hl h ih => exact .tup cs xs hl ih
  | own r hr => omega
  | ref r off b hr => omega
  | wptr r sz i off b n cap hr => omega
  | mp r b hr => omega
  | func fn fs cs ys zs hl hl' h h' ih ih' => exact .func fn fs cs ys zs hl hl' ih ih'
  | iface t v x h ih => exact .iface t v x ih

/-! ### Operations that yield the same in every world -/
variable {o : Oper} {v : V} {b : Bool} {r0 : Nat}
theorem run_extract (h : Rel base w0 ks st a w c) {x : Operand} {j : Nat} (hop : o.op = .extract x j) (he : evMono P st r0 o.type (.extract x j) = some (b, v, [])) :
    ∃ y, (∀ W, (execOp a.eval o).run P W = .ok (.value y) W) ∧ Rv w c v y := by
  simp only [evMono] at he
  have hx := h.ev x
  split at he
  · rename_i vs e
    split at he
    · rename_i u hu
      simp only [Option.some.injEq, Prod.mk.injEq] at he
      obtain ⟨_, rfl, _⟩ := he
      rw [e] at hx
      obtain ⟨xs, hxs, hl, hh⟩ := hx.tup_inv
      have hj : j < xs.size := by rw [← hl]; exact (List.getElem?_eq_some_iff.1 hu).1
      exact ⟨xs[j], fun W => by simp [execOp, hop, hxs, Instr.extract, Array.getElem?_eq_getElem hj], hh j u _ hu (Array.getElem?_eq_getElem hj)⟩
    · cases he
  · cases he

/-- What yields, yields in every world, and turns none. -/
def Par {β : Type} (P : Program) (m : Sem β) : Prop := ∀ w v w', m.run P w = .ok v w' → w' = w ∧ ∀ W, m.run P W = .ok v W
theorem Par.pure {β : Type} (v : β) : Par P (pure v : Sem β) := fun w u w' h => by
  simp only [Sem.run_pure, Result.ok.injEq] at h
  obtain ⟨rfl, rfl⟩ := h
  exact ⟨rfl, fun W => rfl⟩
theorem Par.bind {β γ : Type} {m : Sem β} {f : β → Sem γ} (hm : Par P m) (hf : ∀ v, Par P (f v)) : Par P (m >>= f) := fun w u w' h => by
  rw [Sem.run_bind] at h
  cases e : m.run P w with
  | ok v w1 =>
    obtain ⟨rfl, hW⟩ := hm w v w1 e
    rw [e] at h
    obtain ⟨h1, h2⟩ := hf v _ u w' h
    exact ⟨h1, fun W => by rw [Sem.run_bind, hW W]; exact h2 W⟩
  | halt hl w1 => rw [e] at h; cases h
theorem Par.congr {β : Type} {m m' : Sem β} (h : ∀ W, m.run P W = m'.run P W) (h' : Par P m') : Par P m := fun w u w' e => by
  rw [h] at e
  obtain ⟨h1, h2⟩ := h' w u w' e
  exact ⟨h1, fun W => by rw [h]; exact h2 W⟩
theorem Par.never {β : Type} {m : Sem β} (h : ∀ w, ∃ hl w', m.run P w = .halt hl w') : Par P m := fun w u w' e => by
  obtain ⟨hl, w1, h1⟩ := h w
  rw [h1] at e; cases e
theorem Par.stuck {β : Type} (s : String) : Par P (stuck s : Sem β) := Par.never fun w => ⟨_, _, rfl⟩
theorem Par.of {β : Type} {m : Sem β} {v : β} (h : ∀ W, m.run P W = .ok v W) : Par P m := fun w u w' e => by
  rw [h w] at e
  cases e
  exact ⟨rfl, h⟩
theorem Par.asIntOf (x : Value) : Par P (asIntOf x) := by
  cases x with
  | int k i => exact Par.pure _
  | pointer p => cases p <;> first | exact Par.pure _ | exact Par.never fun w => ⟨_, _, rfl⟩
  | _ => exact Par.never fun w => ⟨_, _, rfl⟩
theorem Par.sliceBound (x : Value) (y : Nat) (code : BoundsCode) : Par P (Instr.sliceBound x y code) := by
  unfold Instr.sliceBound
  refine Par.bind (Par.asIntOf x) fun p => ?_
  obtain ⟨k, i⟩ := p
  simp only
  split
  · exact Par.pure _
  · exact Par.never fun w => by obtain ⟨s, w', h⟩ := run_boundsPanic (P := P) (w := w) (α := Nat) k i y code; exact ⟨_, _, h⟩
theorem Par.sliceBounds (b : Bool) (n cap : Nat) (lo hi mx : Option Value) : Par P (Instr.sliceBounds b n cap lo hi mx) := by
  unfold Instr.sliceBounds
  cases mx <;> cases hi <;> cases lo <;> dsimp only <;> repeat (first | exact Par.pure _ | exact Par.sliceBound _ _ _ | exact Par.never fun w => ⟨_, _, rfl⟩ | refine Par.bind ?_ fun _ => ?_)
theorem Par.ite {β : Type} {c : Prop} [Decidable c] {m m' : Sem β} (h : Par P m) (h' : Par P m') : Par P (if c then m else m') := by split <;> assumption
theorem run_slice_any {t : TypeId} {x : Operand} {lo hi mx : Option Operand} (hop : o.op = .slice t x lo hi mx) (hx : (∃ s, a.eval x = .string s ∧ P.underlying t = some .string) ∨ ∃ A n cap e, a.eval x = .slice A n cap ∧ P.underlying t = some (.slice e))
    {y : Value} {w' : World} (hrun : (execOp a.eval o).run P w = .ok (.value y) w') : ∀ W, (execOp a.eval o).run P W = .ok (.value y) W := by
  have key : Par P (execOp a.eval o) := by
    rcases hx with ⟨s, hs, hu⟩ | ⟨A, n, cap, e, hs, hu⟩
    · refine Par.congr (m' := (do pure (.value (← Instr.slice t (.string s) (lo.map a.eval) (hi.map a.eval) (mx.map a.eval))) : Sem Next)) (fun W => ?_) (Par.bind ?_ fun _ => Par.pure _)
      · simp only [execOp, hop, hs, Sem.run_bind, run_sliceAt_string W t _ _ _ _ hu]
      · refine Par.congr (m' := (do
            if (mx.map a.eval).isSome then Go.stuck "Slice: full slice of a string"
            let (l, h, _) ← Instr.sliceBounds false s.size s.size (lo.map a.eval) (hi.map a.eval) none
            pure (.string (s.extract l h)) : Sem Value)) (fun W => ?_) (Par.ite (Par.bind (Par.never fun w => ⟨_, _, rfl⟩) fun _ => Par.bind (Par.sliceBounds _ _ _ _ _ _) fun _ => Par.pure _) (Par.bind (Par.sliceBounds _ _ _ _ _ _) fun _ => Par.pure _))
        unfold Instr.slice
        rw [Sem.run_bind, run_underlying hu]
        rfl
    · obtain ⟨hue, _⟩ := elem_of hu
      have hse : Par P (sizeOf e) := by
        cases hi : P.info? e with
        | some i => exact Par.of fun W => run_sizeT hi W
        | none => exact Par.never fun w => by simp [sizeOf, typeInfo, hi]
      refine Par.congr (m' := (do pure (.value (← Instr.slice t (.slice A n cap) (lo.map a.eval) (hi.map a.eval) (mx.map a.eval))) : Sem Next)) (fun W => ?_) (Par.bind ?_ fun _ => Par.pure _)
      · simp only [execOp, hop, hs, Sem.run_bind, run_sliceAt_slice W t _ _ _ _ hue]
      · refine Par.congr (m' := (do
            let (l, h, m) ← Instr.sliceBounds true n cap (lo.map a.eval) (hi.map a.eval) (mx.map a.eval)
            let size ← sizeOf e
            pure (.slice (if m = l then A else A.map (·.add (l * size))) (h - l) (m - l)) : Sem Value)) (fun W => ?_) (Par.bind (Par.sliceBounds _ _ _ _ _ _) fun _ => Par.bind hse fun _ => Par.pure _)
        unfold Instr.slice
        rw [Sem.run_bind, run_underlying hu]
        rfl
  exact (key w _ w' hrun).2

theorem run_nilCheck (h : Rel base w0 ks st a w c) {x : Operand} (hop : o.op = .nilCheck x) (he : evMono P st r0 o.type (.nilCheck x) = some (b, v, [])) :
    ∃ y, (∀ W, (execOp a.eval o).run P W = .ok (.value y) W) ∧ Rv w c v y := by
  simp only [evMono] at he
  have hx := h.ev x
  split at he
  · rename_i r off e
    simp only [Option.some.injEq, Prod.mk.injEq] at he
    obtain ⟨_, rfl, _⟩ := he
    rw [e] at hx
    obtain ⟨_, k, _, hk⟩ := id hx.ref_inv
    exact ⟨_, fun W => by simp [execOp, hop, hk]; rfl, by rw [← hk]; exact hx⟩
  · rename_i cs e
    simp only [Option.some.injEq, Prod.mk.injEq] at he
    obtain ⟨_, rfl, _⟩ := he
    rw [e] at hx
    cases hx with
    | im _ _ hd =>
      generalize hy : a.eval x = y at hd
      have hd' := hd
      cases hd with
      | eptr _ q off ys => exact ⟨_, fun W => by simp [execOp, hop, hy], .im _ _ hd'⟩
  · rename_i r s i off e
    simp only [Option.some.injEq, Prod.mk.injEq] at he
    obtain ⟨_, rfl, _⟩ := he
    rw [e] at hx
    obtain ⟨_, k, _, _, _, hk⟩ := id hx.wptr_inv
    exact ⟨_, fun W => by simp [execOp, hop, hk]; rfl, by rw [← hk]; exact hx⟩
  · rename_i f fs cs e
    simp only [Option.some.injEq, Prod.mk.injEq] at he
    obtain ⟨_, rfl, _⟩ := he
    rw [e] at hx
    obtain ⟨ys, zs, hk, _⟩ := id hx.func_inv
    exact ⟨_, fun W => by simp [execOp, hop, hk]; rfl, by rw [← hk]; exact hx⟩
  · cases he

theorem run_load_same (h : Rel base w0 ks st a w c) {t : TypeId} {x : Operand} (hop : o.op = .load t x) (he : evMono P st r0 o.type (.load t x) = some (b, v, [])) (hb : b = true) :
    ∃ y, (∀ W : World, (∀ k, k < w.heap.size → W.heap[k]? = w.heap[k]?) → (execOp a.eval o).run P W = .ok (.value y) W) ∧ Rv w c v y := by
  simp only [evMono] at he
  split at he
  · rename_i hok
    split at he
    · rename_i b' cs hr
      simp only [Option.some.injEq, Prod.mk.injEq] at he
      obtain ⟨rfl, rfl, _⟩ := he
      obtain ⟨k, off, ys, hx, hl, hc, hh⟩ := readAt_sound h hr hb (h.ev x)
      have hd : ∃ d, P.underlying t = some d := by
        cases hu : P.underlying t with
        | some d => exact ⟨d, rfl⟩
        | none => simp [okT, hu] at hok
      obtain ⟨d, hd⟩ := hd
      refine ⟨_, fun W hW => ?_, mkV_sound hok hl (fun j hj => (hc j (by omega)).2) hh⟩
      have hcW : ∀ j, j < sizeT P t → W.cell? ⟨k, off + j, none⟩ = some (ys j) := by
        intro j hj
        have h1 := (hc j hj).1
        have hlt : k < w.heap.size := by
          rcases Nat.lt_or_ge k w.heap.size with h' | h'
          · exact h'
          · simp [World.cell?, Array.getElem?_eq_none h'] at h1
        rw [← h1]
        exact World.cell?_of_block (hW k hlt)
      simp only [execOp, hop, Instr.loadAt, hx, Instr.sureAddr]
      simp [run_loadVar' hd hok hcW]
    · cases he
  · cases he

theorem run_fieldAddr (h : Rel base w0 ks st a w c) {t : TypeId} {x : Operand} {f : Nat} (hop : o.op = .fieldAddr t x f) (he : evMono P st r0 o.type (.fieldAddr t x f) = some (b, v, [])) :
    ∃ y, (∀ W, (execOp a.eval o).run P W = .ok (.value y) W) ∧ Rv w c v y := by
  simp only [evMono] at he
  split at he <;> (try cases he)
  rename_i fs hu
  split at he <;> (try cases he)
  rename_i fd hf
  split at he <;> (try cases he)
  rename_i hz
  have hx := h.ev x
  have hrun : ∀ (k off : Nat), a.eval x = .pointer (some ⟨k, off, none⟩) → ∀ W, (execOp a.eval o).run P W = .ok (.value (.pointer (some ⟨k, off + fd.offset, none⟩))) W := by
    intro k off hk W
    simp [execOp, hop, hk, Instr.fieldAt, run_underlying hu, hf, Instr.sureAddr, fieldPlace, run_sizeT_pos hz, show ¬ sizeT P fd.type = 0 by omega, addp]
  split at he
  · rename_i r off e
    simp only [Option.some.injEq, Prod.mk.injEq] at he
    obtain ⟨_, rfl, _⟩ := he
    rw [e] at hx
    obtain ⟨hlt, k, hk, hxk⟩ := hx.ref_inv
    exact ⟨_, hrun k off hxk, .ref r _ k hlt hk⟩
  · rename_i cs e
    simp only [Option.some.injEq, Prod.mk.injEq] at he
    obtain ⟨_, rfl, _⟩ := he
    rw [e] at hx
    cases hx with
    | im _ _ hd =>
      generalize hy : a.eval x = y at hd
      cases hd with
      | eptr _ k off ys hF hx hh =>
        refine ⟨_, hrun k off hy, (.im _ _ (.eptr _ k _ (fun j => ys (fd.offset + j)) hF (fun j hj => ?_) fun j u hu => ?_))⟩
        · simp only [List.length_drop] at hj
          have := hx (fd.offset + j) (by omega)
          rwa [show off + (fd.offset + j) = off + fd.offset + j by omega] at this
        · rw [List.getElem?_drop] at hu
          exact hh _ u hu
  · rename_i r s i off e
    simp only [Option.some.injEq, Prod.mk.injEq] at he
    obtain ⟨_, rfl, _⟩ := he
    rw [e] at hx
    obtain ⟨hlt, k, n, cap, hk, hxk⟩ := hx.wptr_inv
    refine ⟨_, hrun k _ hxk, ?_⟩
    rw [Nat.add_assoc]
    exact .wptr r s i _ k n cap hlt hk
  · cases he

theorem run_indexAddr (h : Rel base w0 ks st a w c) {t : TypeId} {x i : Operand} (hop : o.op = .indexAddr t x i) (he : evMono P st r0 o.type (.indexAddr t x i) = some (b, v, [])) (hb : b = true) :
    ∃ y, (∀ W, (execOp a.eval o).run P W = .ok (.value y) W) ∧ Rv w c v y := by
  simp only [evMono] at he
  have hx := h.ev x
  have hi := h.ev i
  split at he
  · rename_i n e' r off k j hu ex ei
    split at he <;> (try cases he)
    rename_i hz
    simp only [Bool.and_eq_true, decide_eq_true_eq] at hb
    rw [ex] at hx
    rw [ei] at hi
    have hi := hi.int_inv
    obtain ⟨hlt, q, hq, hxq⟩ := hx.ref_inv
    refine ⟨.pointer (some ⟨q, off + j.toNat * sizeT P e', none⟩), fun W => ?_, .ref r _ q hlt hq⟩
    simp [execOp, hop, hxq, hi, Instr.indexAt, Instr.sureAddr, asIntOf, run_underlying hu, hb.1, hb.2, run_sizeT_pos hz, addp]
  · rename_i e' nl sz n g k j hu ex ei
    split at he <;> (try cases he)
    rename_i hz
    obtain ⟨rfl, hz⟩ := hz
    simp only [Bool.and_eq_true, decide_eq_true_eq] at hb
    rw [ex] at hx
    rw [ei] at hi
    have hi := hi.int_inv
    cases hx with
    | im _ _ hd =>
      generalize hy : a.eval x = y at hd
      cases hd with
      | slNil => omega
      | slE => omega
      | sl _ _ cap _ q off ys hc hF hsz hcell hh =>
        have hj : j.toNat < n := by omega
        refine ⟨.pointer (some ⟨q, off + j.toNat * sizeT P e', none⟩), fun W => ?_, (.im _ _ (.eptr _ q _ (fun m => ys j.toNat m) hF (fun m hm => ?_) fun m u hu => hh _ m u hj hu))⟩
        · simp [execOp, hop, hy, hi, Instr.indexAt, asIntOf, run_underlying hu, hb.1, hb.2, run_sizeT_pos hz, addp]
        · rw [hsz _ hj] at hm
          have := hcell j.toNat m hj hm
          rwa [show off + (j.toNat * sizeT P e' + m) = off + j.toNat * sizeT P e' + m by omega] at this
  · rename_i e' r k j hu ex ei
    rw [ex] at hx
    rw [ei] at hi
    have hi := hi.int_inv
    obtain ⟨hlt, hxr, _⟩ := hx.own_inv
    split at he <;> (try cases he)
    · rename_i wr nl sz n g hbx
      split at he <;> (try cases he)
      rename_i hz
      simp only [Bool.and_eq_true, decide_eq_true_eq] at hb
      obtain ⟨_, hB⟩ := h.at hbx
      obtain ⟨rfl, hfull⟩ := hz
      cases hB with
      | rowNil wr sz g hz hρ ho => omega
      | rowFull wr _ _ _ A2 hz hw hρ ho hd2 => cases hw; cases hfull
      | row wr _ _ cap _ ty k' xs fz hz hρ ho hk' hfz hs hc h1 hg hh =>
        refine ⟨.pointer (some ⟨k', 0 + j.toNat * sizeT P e', none⟩), fun W => ?_, ?_⟩
        · rw [hρ] at hxr
          simp [execOp, hop, hxr, hi, Instr.indexAt, asIntOf, run_underlying hu, hb.1, hb.2, run_sizeT_pos hz, addp]
        · rw [Nat.zero_add]
          exact .wptr r _ _ 0 k' n cap hlt hρ
    · rename_i sz n cs hbx
      split at he <;> (try cases he)
      rename_i hz
      simp only [Bool.and_eq_true, decide_eq_true_eq] at hb
      obtain ⟨_, hB⟩ := h.at hbx
      obtain rfl := hz
      cases hB with
      | lit _ _ _ ty k' xs hz hρ ho hk' hl hs h1 hh =>
        refine ⟨.pointer (some ⟨k', 0 + j.toNat * sizeT P e', none⟩), fun W => ?_, ?_⟩
        · rw [hρ] at hxr
          simp [execOp, hop, hxr, hi, Instr.indexAt, asIntOf, run_underlying hu, hb.1, hb.2, run_sizeT_pos hz, addp]
        · rw [Nat.zero_add]
          exact .wptr r _ _ 0 k' n n hlt hρ
  · cases he

/-! ### What nobody writes, as it was when the region began -/
def baseF (c : Cx) : Base := ⟨Fx.blk, c.F, fun _ => none⟩
def cxF (c : Cx) : Cx := ⟨c.F, fun _ => undef, fun _ => none, 0⟩

/-- Temporaries that are known by what nobody writes. -/
structure TF (w1 : World) (c : Cx) (tF : List V) (a : Act) : Prop where
  len : tF.length = a.tmps.size
  lt : ∀ k, c.F k → k < w1.heap.size
  tm : ∀ (i : Nat) v x, tF[i]? = some v → a.tmps[i]? = some x → Rd w1 c.F v x
  tab : Fx.tab w1
/-- What nobody writes, and the package variables. -/
def FT (c : Cx) : Foot := fun k => c.F k ∨ Fx.blk k

theorem TF.rel {w1 : World} {tF : List V} (h : TF w1 c tF a) (W : World) (hW' : Same (FT c) w1 W) : Rel (baseF c) W [] (bare tF) { tmps := a.tmps, defers := [] } W (cxF c) := by
  have hW : Same c.F w1 W := fun k hk => hW' k (.inl hk)
  have hT : Fx.tab W := Fx.stab w1 W (fun k hk => hW' k (.inr hk)) h.tab
  refine ⟨h.len, fun i v x hv hx => .im _ _ ((h.tm i v x hv hx).mono hW fun _ hk => hk), rfl, fun i vs ys hv => by simp [bare] at hv, rfl, fun r b hb => by simp [bare] at hb, fun r s k hr => by simp [cxF] at hr, fun r k hr => by simp [cxF] at hr, fun r k hr => by simp [cxF] at hr, fun k hk => ?_, Keep.refl _ _, rfl, ⟨fun k hk => Fx.lt W k hT hk, fun k hk => hk, hT⟩, fun k hk => .inl hk, fun j k hj => by simp [baseF] at hj⟩
  have h1 := h.lt k hk
  have h2 := hW k hk
  rw [Array.getElem?_eq_getElem h1] at h2
  exact (Array.getElem?_eq_some_iff.1 h2).1

theorem TF.put {w1 : World} {tF : List V} (h : TF w1 c tF a) (d : Option Tmp) {v : V} {x : Value} (hv : Rd w1 c.F v x) : TF w1 c (setT tF d v) (a.put d x) := by
  cases d with
  | none => exact h
  | some d =>
    refine ⟨by simpa [setT, Act.put] using h.len, h.lt, fun i u y hu hy => ?_, h.tab⟩
    simp only [setT] at hu
    simp only [Act.put] at hy
    rw [List.getElem?_set] at hu
    rw [Array.getElem?_setIfInBounds] at hy
    split at hu
    · rename_i e
      rw [if_pos e] at hy
      split at hu <;> (try cases hu)
      split at hy <;> (try cases hy)
      exact hv
    · rename_i e
      rw [if_neg e] at hy
      exact h.tm i u y hu hy

theorem TF.know {w1 : World} {tF : List V} (h : TF w1 c tF a) {d : Tmp} {t : Bool} (hd : a.tmps[d]? = some (.bool t)) : TF w1 c (setT tF (some d) (.bool t)) a := by
  refine ⟨by simpa [setT] using h.len, h.lt, fun i u y hu hy => ?_, h.tab⟩
  simp only [setT] at hu
  rw [List.getElem?_set] at hu
  split at hu
  · rename_i e
    subst e
    split at hu <;> (try cases hu)
    rw [hd] at hy
    cases hy
    exact .bool _
  · exact h.tm i u y hu hy

theorem TF.start (h : Rel base w0 ks st a w c) : TF w c (st.t.map (V.sub deadV dep)) a := by
  refine ⟨by simpa using h.len, h.lt, fun i v x hv hx => ?_, h.tabNow⟩
  obtain ⟨u, hu, rfl⟩ := getElem?_map_some hv
  exact Rv.subRd (Same.refl _ _) (fun _ hk => hk) (fun v x _ _ => .dead _) dep u x (h.tm i u x hu hx)

theorem execOp_eval {a a' : Act} (h : a.tmps = a'.tmps) (o : Oper) : execOp a.eval o = execOp a'.eval o := by
  have : a.eval = a'.eval := by
    funext x
    cases x <;> simp [Act.eval, h]
  rw [this]

/-- The worlds of a region: nothing is written at all, or what nobody writes is as it was. -/
def SF (pu : Bool) (w1 : World) (c : Cx) (W : World) : Prop := if pu then W = w1 else Same (FT c) w1 W

theorem evFl_sound {w1 : World} {c1 : Cx} {tF : List V} {pu : Bool} {o : Oper} {v vF : V} (h : Rel base w0 ks st a w c) (hF : TF w1 c1 tF a) (hS : SF pu w1 c1 w) (he : evFl P pu o st tF = some (true, v, vF)) :
    ∃ x, (∀ W, SF pu w1 c1 W → (execOp a.eval o).run P W = .ok (.value x) W) ∧ Rv w c v x ∧ Rd w1 c1.F vF x := by
  have hr1 := hF.rel w1 (Same.refl _ _)
  have hev : ∀ x, ({ tmps := a.tmps, defers := [] } : Act).eval x = a.eval x := by intro x; cases x <;> rfl
  have hex : execOp ({ tmps := a.tmps, defers := [] } : Act).eval o = execOp a.eval o := execOp_eval rfl o
  have mv : ∀ {x : Operand}, (o.op = .move x ∨ o.op = .assign x) → some (true, evT P st o.type x, evT P (bare tF) o.type x) = some (true, v, vF) → ∃ x, (∀ W, SF pu w1 c1 W → (execOp a.eval o).run P W = .ok (.value x) W) ∧ Rv w c v x ∧ Rd w1 c1.F vF x := by
    intro x hop he
    simp only [Option.some.injEq, Prod.mk.injEq, true_and] at he
    obtain ⟨rfl, rfl⟩ := he
    refine ⟨a.eval x, fun W _ => by rcases hop with hop | hop <;> simp [execOp, hop], h.evT _ x, ?_⟩
    have := rv_rd0 (c := cxF c1) rfl (hr1.evT (P := P) o.type x)
    rwa [hev] at this
  -- of the three kinds of places
  have place : ∀ {b : Bool} {v : V}, (∃ y, (∀ W, (execOp a.eval o).run P W = .ok (.value y) W) ∧ Rv w c v y) → (∃ y, (∀ W, SF pu w1 c1 W → (execOp a.eval o).run P W = .ok (.value y) W) ∧ Rv w c v y ∧ Rd w1 c1.F .dead y) := by
    rintro b v ⟨y, h1, h2⟩
    exact ⟨y, fun W _ => h1 W, h2, .dead _⟩
  have both : ∀ {v v' : V}, (∃ y, (∀ W, (execOp a.eval o).run P W = .ok (.value y) W) ∧ Rv w c v y) → (∃ y, (∀ W, (execOp ({ tmps := a.tmps, defers := [] } : Act).eval o).run P W = .ok (.value y) W) ∧ Rv w1 (cxF c1) v' y) →
      (∃ y, (∀ W, SF pu w1 c1 W → (execOp a.eval o).run P W = .ok (.value y) W) ∧ Rv w c v y ∧ Rd w1 c1.F v' y) := by
    rintro v v' ⟨y, h1, h2⟩ ⟨z, h3, h4⟩
    have e := h3 w1
    rw [hex, h1 w1] at e
    simp only [Result.ok.injEq, Next.value.injEq, and_true] at e
    subst e
    exact ⟨y, fun W _ => h1 W, h2, rv_rd0 (c := cxF c1) rfl h4⟩
  have scal : evFl P pu o st tF = (cond pu
      (match evMono P st st.h.length o.type o.op with | some (b, v, []) => some (b, v, .dead) | _ => none)
      (match evMono P (bare tF) 0 o.type o.op with | some (b, v, []) => if scalarV dep v then some (b, v, v) else none | _ => none)) →
      ∃ x, (∀ W, SF pu w1 c1 W → (execOp a.eval o).run P W = .ok (.value x) W) ∧ Rv w c v x ∧ Rd w1 c1.F vF x := by
    intro hsc
    rw [hsc] at he
    cases pu with
    | true =>
      simp only [cond_true] at he
      split at he <;> (try cases he)
      rename_i hm
      obtain ⟨x, w', c', hrun, hrel, hrv, hw⟩ := evMono_sound h hm rfl
      obtain ⟨rfl, rfl⟩ := hw rfl
      simp only [SF, if_true] at hS
      refine ⟨x, fun W hW => ?_, hrv, .dead _⟩
      simp only [SF, if_true] at hW
      rw [hW, ← hS]
      exact hrun
    | false =>
      simp only [cond_false] at he
      split at he <;> (try cases he)
      rename_i b u hm
      split at he <;> (try cases he)
      rename_i hs
      have hSw : Same (FT c1) w1 w := hS
      obtain ⟨x, w', c', hrun, hrel, hrv, hw⟩ := evMono_sound (hF.rel w hSw) hm rfl
      obtain ⟨rfl, rfl⟩ := hw rfl
      rw [hex] at hrun
      obtain ⟨h1, h2⟩ := scalar_rd dep _ hs (w' := w1) (F := c1.F) hrv
      refine ⟨x, fun W hW => ?_, .im _ _ (scalar_rd dep _ hs (w' := w') (F := c.F) hrv).1, h1⟩
      obtain ⟨y, w2, c2, hrun2, _, hrv2, hw2⟩ := evMono_sound (hF.rel W hW) hm rfl
      obtain ⟨rfl, rfl⟩ := hw2 rfl
      rw [hex, h2 hrv2] at hrun2
      exact hrun2
  cases hop : o.op with
  | move x => exact mv (.inl hop) (by simpa only [evFl, hop] using he)
  | assign x => exact mv (.inr hop) (by simpa only [evFl, hop] using he)
  | pick oc ox oy =>
    simp only [evFl, hop] at he
    have hc := h.ev oc
    have hx := h.ev ox
    have hy := h.ev oy
    split at he
    rotate_left
    · split at he <;> (try cases he)
      rename_i t et
      rw [et] at hc
      have hc := hc.bool_inv
      have hrun : ∀ W, (execOp a.eval o).run P W = .ok (.value (if t then a.eval ox else a.eval oy)) W := fun W => by simp [execOp, hop, hc, asBool]
      have hx1 := rv_rd0 (c := cxF c1) rfl (hr1.ev ox)
      have hy1 := rv_rd0 (c := cxF c1) rfl (hr1.ev oy)
      rw [hev] at hx1 hy1
      cases t with
      | true => simp only [cond_true, Option.some.injEq, Prod.mk.injEq, true_and] at he; obtain ⟨rfl, rfl⟩ := he; exact ⟨_, fun W _ => hrun W, hx, hx1⟩
      | false => simp only [cond_false, Option.some.injEq, Prod.mk.injEq, true_and] at he; obtain ⟨rfl, rfl⟩ := he; exact ⟨_, fun W _ => hrun W, hy, hy1⟩
    rename_i u hu
    simp only [Option.some.injEq, Prod.mk.injEq, true_and] at he
    obtain ⟨rfl, rfl⟩ := he
    unfold pickV at hu
    split at hu
    · rename_i t x y e1 e2 e3
      cases hu
      rw [e1] at hc; rw [e2] at hx; rw [e3] at hy
      have hc := hc.bool_inv; have hx := hx.bool_inv; have hy := hy.bool_inv
      refine ⟨.bool (cond t x y), fun W _ => ?_, .im _ _ (.bool _), .bool _⟩
      cases t <;> simp [execOp, hop, hc, hx, hy, asBool]
    · rename_i t k x k' y e1 e2 e3
      split at hu <;> (try cases hu)
      rename_i e
      subst e
      rw [e1] at hc; rw [e2] at hx; rw [e3] at hy
      have hc := hc.bool_inv; have hx := hx.int_inv; have hy := hy.int_inv
      refine ⟨.int k (cond t x y), fun W _ => ?_, .im _ _ (.int _ _), .int _ _⟩
      cases t <;> simp [execOp, hop, hc, hx, hy, asBool]
    · cases hu
  | fieldAddr t x f =>
    simp only [evFl, hop] at he
    split at he <;> (try cases he)
    rename_i hm
    have h1 := run_fieldAddr h hop hm
    unfold memV
    split
    · rename_i hm2
      exact both h1 (run_fieldAddr hr1 hop hm2)
    · exact place (b := true) h1
  | indexAddr t x i =>
    simp only [evFl, hop] at he
    split at he <;> (try cases he)
    rename_i b v' hm
    split at he
    · rename_i b' v'' hm2
      simp only [Option.some.injEq, Prod.mk.injEq, Bool.and_eq_true] at he
      obtain ⟨⟨rfl, rfl⟩, rfl, rfl⟩ := he
      exact both (run_indexAddr h hop hm rfl) (run_indexAddr hr1 hop hm2 rfl)
    · simp only [Option.some.injEq, Prod.mk.injEq] at he
      obtain ⟨rfl, rfl, rfl⟩ := he
      exact place (b := true) (run_indexAddr h hop hm rfl)
  | slice t x lo hi mx =>
    simp only [evFl, hop] at he
    split at he <;> (try cases he)
    rename_i b v' hm
    have hfm : ∀ {base : Base} {w0 : World} {ks : List (Array Value)} {st : St} {a : Act} {w : World} {c : Cx} {b : Bool} {v : V}, Rel base w0 ks st a w c → evMono P st st.h.length o.type (.slice t x lo hi mx) = some (b, v, []) → b = true →
        ∃ y, (∀ W, (execOp a.eval o).run P W = .ok (.value y) W) ∧ Rv w c v y := by
      intro base w0 ks st a w c b v h hm hb
      have hx := h.ev x
      have hform : (∃ s, a.eval x = .string s ∧ P.underlying t = some .string) ∨ ∃ A n cap e, a.eval x = .slice A n cap ∧ P.underlying t = some (.slice e) := by
        have hm2 := hm
        simp only [evMono] at hm2
        split at hm2
        · rename_i s hu ex
          rw [ex] at hx
          exact .inl ⟨s, hx.str_inv, hu⟩
        · rename_i e nl sz n g hu ex
          rw [ex] at hx
          obtain ⟨A, cap, hxs, _, _⟩ := sl_form hx
          exact .inr ⟨A, n, cap, e, hxs, hu⟩
        · cases hm2
      rw [← hop] at hm
      obtain ⟨y, w', c', hrun, _, hrv, hw⟩ := evMono_sound h hm hb
      obtain ⟨rfl, rfl⟩ := hw rfl
      exact ⟨y, run_slice_any hop hform hrun, hrv⟩
    split at he
    · rename_i b' v'' hm2
      simp only [Option.some.injEq, Prod.mk.injEq, Bool.and_eq_true] at he
      obtain ⟨⟨rfl, rfl⟩, rfl, rfl⟩ := he
      exact both (hfm h hm rfl) (hfm hr1 hm2 rfl)
    · simp only [Option.some.injEq, Prod.mk.injEq] at he
      obtain ⟨rfl, rfl, rfl⟩ := he
      exact place (b := true) (hfm h hm rfl)
  | nilCheck x =>
    simp only [evFl, hop] at he
    split at he <;> (try cases he)
    rename_i hm
    have h1 := run_nilCheck h hop hm
    unfold memV
    split
    · rename_i hm2
      exact both h1 (run_nilCheck hr1 hop hm2)
    · exact place (b := true) h1
  | build t ps =>
    simp only [evFl, hop] at he
    split at he <;> (try cases he)
    rename_i hm
    have h1 := (run_build h hop hm).2
    unfold memV
    split
    · rename_i hm2
      exact both h1 (run_build hr1 hop hm2).2
    · exact place (b := true) h1
  | extract x j =>
    simp only [evFl, hop] at he
    split at he <;> (try cases he)
    rename_i hm
    have h1 := run_extract h hop hm
    unfold memV
    split
    · rename_i hm2
      exact both h1 (run_extract hr1 hop hm2)
    · exact place (b := true) h1
  | _ => exact scal (by simp only [evFl, hop]; rfl)


theorem pickFl_spec {ops : Array Oper} {listed : Array Bool} : ∀ (l : List Nat) (i : Nat), pickFl ops listed l = some i → i ∈ l ∧ Region.free .any ops listed i = true := by
  intro l
  induction l with
  | nil => intro i h; cases h
  | cons j l ih =>
    intro i h
    simp only [pickFl] at h
    by_cases hc : (flAt ops j && Region.free .any ops listed j) = true
    · rw [if_pos hc] at h
      cases h
      rw [Bool.and_eq_true] at hc
      exact ⟨List.mem_cons_self, hc.2⟩
    · rw [if_neg hc] at h
      obtain ⟨h1, h2⟩ := ih i h
      exact ⟨List.mem_cons_of_mem _ h1, h2⟩

/-- The guard of an operation, on the machine. -/
theorem guard_wanted {ops : Array Oper} {o : Oper} {d : Tmp} {want b : Bool} (h : Rel base w0 ks st a w c) (hg : guardT ops o = some (some d, want)) (hd : st.t.getD d .dead = .bool b) :
    a.tmps[d]? = some (.bool b) ∧ Region.wanted o (yielded ops a.tmps) = decide (b = want) := by
  have hdt : st.t[d]? = some (.bool b) := by
    rw [List.getD_eq_getElem?_getD] at hd
    cases e : st.t[d]? with
    | none => rw [e] at hd; cases hd
    | some v => rw [e] at hd; simp only [Option.getD_some] at hd; rw [hd]
  have hlt : d < a.tmps.size := by rw [← h.len]; exact (List.getElem?_eq_some_iff.1 hdt).1
  have hav : a.tmps[d]? = some (.bool b) := by
    have := (h.tm d _ _ hdt (Array.getElem?_eq_getElem hlt)).bool_inv
    rw [Array.getElem?_eq_getElem hlt, this]
  refine ⟨hav, ?_⟩
  unfold guardT at hg
  split at hg <;> (try cases hg)
  rename_i j want' hgo
  simp only [Option.some.injEq, Prod.mk.injEq] at hg
  obtain ⟨hj, rfl⟩ := hg
  have hyl : yielded ops a.tmps j = some b := by
    unfold yielded
    rw [hj]
    simp only [Option.bind_some, hav]
  simp only [Region.wanted, hgo, hyl]
  cases b <;> cases want' <;> rfl
theorem guardT_undef {ops : Array Oper} {o : Oper} {d : Tmp} {want : Bool} {vs : List V} (h : Rel base w0 ks st a w c) (hg : guardT ops o = some (some d, want)) (hd : st.t.getD d .dead = .tup vs) : Region.wanted o (yielded ops a.tmps) = false := by
  unfold guardT at hg
  split at hg <;> (try cases hg)
  rename_i j want' hgo
  simp only [Option.some.injEq, Prod.mk.injEq] at hg
  obtain ⟨hj, rfl⟩ := hg
  exact guard_undef h hgo hj hd
theorem noguard_wanted {ops : Array Oper} {o : Oper} (hg : guardT ops o = none) (f : Nat → Option Bool) : Region.wanted o f = true := by
  unfold guardT at hg
  split at hg <;> (try cases hg)
  rename_i hgo
  simp [Region.wanted, hgo]

theorem evDraw_sound {call : CallT α} (hcall : CallOK P call) {pu : Bool} {ops : Array Oper} (hsel : Region.noSelect ops = true) {w1 : World} {c1 : Cx} {k : St → Option α} {Q : Exit → Act → World → Prop}
    (hK : ∀ k, c1.F k → base.K k) (hQp : ∀ ch a w, ¬ Q (.panic ch) a w) (hQ : ∀ st' a' w' c', k st' = some res → Rel base w1 ks st' a' w' c' → Q .normal a' w') :
    ∀ (fuel : Nat) (listed : Array Bool) (st : St) (tF : List V) (a : Act) (w : World) (c : Cx), Rel base w1 ks st a w c → TF w1 c1 tF a → SF pu w1 c1 w → evDraw P call pu ops fuel listed st tF k = some res →
      wpAnyH P .any ops Q (SF pu w1 c1) fuel listed a w := by
  intro fuel
  induction fuel with
  | zero =>
    intro listed st tF a w c h hF hS he
    simp only [evDraw] at he
    split at he <;> (try cases he)
    rename_i hr
    exact ⟨hr, hQ _ _ _ _ he h⟩
  | succ fuel ih =>
    intro listed st tF a w c h hF hS he
    simp only [evDraw] at he
    split at he
    · rename_i hr
      exact wpAnyH_done hr (hQ _ _ _ _ he h) _
    rename_i r rs hr
    have hq : ∀ (i : Nat) (oi : Oper), ∀ ch a w, Q (.panic ch) (a.put oi.dst undef) w → Q (.panic ch) a w := fun _ _ ch a w h => (hQp ch _ _ h).elim
    split at he
    · -- taken first
      rename_i i hpk
      obtain ⟨hmem, hfree⟩ := pickFl_spec _ _ hpk
      split at he <;> (try cases he)
      rename_i o hi
      have take : ∀ (x : Value), YieldsIf P ops (SF pu w1 c1) o x a → wpAnyH P .any ops Q (SF pu w1 c1) fuel (listed.setIfInBounds i true) (a.put o.dst x) w → wpAnyH P .any ops Q (SF pu w1 c1) (fuel + 1) listed a w :=
        fun x hy hn => wpAnyH_take hi hsel hfree (by rw [hr]; simpa using hmem) (fun ch a w h => (hQp ch _ _ h).elim) hy hS hn
      have go : ∀ (st : St) (tF : List V), Rel base w1 ks st a w c → TF w1 c1 tF a → Region.wanted o (yielded ops a.tmps) = true →
          (match evFl P pu o st tF with | some (b, v, vF) => cond b (evDraw P call pu ops fuel (listed.setIfInBounds i true) (st.put o.dst v) (setT tF o.dst vF) k) none | none => none) = some res →
          wpAnyH P .any ops Q (SF pu w1 c1) (fuel + 1) listed a w := by
        intro st tF h hF hw he
        split at he <;> (try cases he)
        rename_i b v vF hfl
        cases b with
        | false => cases he
        | true =>
          obtain ⟨x, hx1, hx2, hx3⟩ := evFl_sound h hF hS hfl
          exact take x (.inl ⟨hw, hx1⟩) (ih _ _ _ _ w c (h.put o.dst hx2) (hF.put o.dst hx3) hS he)
      split at he
      · rename_i hg
        exact go st tF h hF (noguard_wanted hg _) he
      · rename_i d want hg
        split at he <;> (try cases he)
        rotate_left
        · rename_i vs hd
          exact take undef (.inr ⟨guardT_undef h hg hd, rfl⟩) (ih _ _ _ _ w c (h.put o.dst undef_rv) (hF.put o.dst undef_rd) hS he)
        rename_i b hd
        obtain ⟨hav, hw⟩ := guard_wanted h hg hd
        by_cases hbw : b = want
        · subst hbw
          have hcond : (if b then b else !b) = true := by cases b <;> rfl
          rw [hcond] at he
          exact go _ _ (h.know hav) (hF.know hav) (by rw [hw]; simp) he
        · have hb : b = !want := by cases b <;> cases want <;> simp_all
          have hcond : (if want then b else !b) = false := by subst hb; cases want <;> rfl
          rw [hcond] at he
          simp only [cond_false] at he
          rw [hb] at hav
          refine take undef (.inr ⟨by rw [hw]; simp [hbw], rfl⟩) (ih _ _ _ _ w c ((h.know hav).put o.dst undef_rv) ((hF.know hav).put o.dst undef_rd) hS he)
      · cases he
    · -- the only one that may come up
      rename_i hpk
      split at he <;> (try cases he)
      rename_i o hi
      refine wpAnyH_all hr (by simp) fun j hj => ?_
      obtain rfl : j = r := by simpa using hj
      unfold wpOp
      simp only [hi]
      have go : ∀ (st : St) (tF : List V), Rel base w1 ks st a w c → TF w1 c1 tF a → Region.wanted o (yielded ops a.tmps) = true →
          evOp P call o st (fun v st' => evDraw P call false ops fuel (listed.setIfInBounds j true) (st'.put o.dst v) (setT tF o.dst (stF v)) k) = some res →
          (if Region.wanted o (yielded ops a.tmps) = true then o.wp P a w (fun a' w' => SF false w1 c1 w' ∧ wpAnyH P .any ops Q (SF false w1 c1) fuel (listed.setIfInBounds j true) a' w') Q ∨ (o.asks P a w ∧ LetsOut Q) else SF false w1 c1 w ∧ wpAnyH P .any ops Q (SF false w1 c1) fuel (listed.setIfInBounds j true) (a.put o.dst undef) w) := by
        intro st tF h hF hw he
        rw [if_pos hw]
        left
        refine evOp_sound hcall h he fun x v st' w' c' hk hrel hrv => ?_
        have hS' : SF false w1 c1 w' := fun q hq => hrel.bel.block q (hq.elim (hK q) (hrel.bs.blk q))
        refine ⟨hS', ih _ _ _ _ w' c' (hrel.put o.dst hrv) (hF.put o.dst ?_) hS' hk⟩
        unfold stF
        split
        · rename_i hs
          exact (scalar_rd dep v hs hrv).1
        · exact .dead _
      split at he
      · rename_i hg
        exact go st tF h hF (noguard_wanted hg _) he
      · rename_i d want hg
        split at he <;> (try cases he)
        rotate_left
        · rename_i vs hd
          rw [if_neg (by rw [guardT_undef h hg hd]; simp)]
          exact ⟨hS, ih _ _ _ _ w c (h.put o.dst undef_rv) (hF.put o.dst undef_rd) hS he⟩
        rename_i b hd
        obtain ⟨hav, hw⟩ := guard_wanted h hg hd
        by_cases hbw : b = want
        · subst hbw
          have hcond : (if b then b else !b) = true := by cases b <;> rfl
          rw [hcond] at he
          exact go _ _ (h.know hav) (hF.know hav) (by rw [hw]; simp) he
        · have hb : b = !want := by cases b <;> cases want <;> simp_all
          have hcond : (if want then b else !b) = false := by subst hb; cases want <;> rfl
          rw [hcond] at he
          simp only [cond_false] at he
          rw [hb] at hav
          rw [if_neg (by rw [hw]; simp [hbw])]
          exact ⟨hS, ih _ _ _ _ w c ((h.know hav).put o.dst undef_rv) ((hF.know hav).put o.dst undef_rd) hS he⟩
      · cases he

theorem evRegion_sound {call : CallT α} (hcall : CallOK P call) {id : Nat} {ops : Array Oper} (h : Rel base w0 ks st a w c) {k : St → Option α} (he : evRegion P call ops st k = some res) {Q : Exit → Act → World → Prop}
    (hQ : ∀ st' a' w' c', k st' = some res → Rel base w0 ks st' a' w' c' → Q .normal a' w') : (Code.region id ops true).wp P Q a w := by
  unfold evRegion at he
  split at he <;> (try cases he)
  rename_i hok
  rw [Bool.and_eq_true] at hok
  obtain ⟨hm, hsel⟩ := hok
  have hd := h.drew
  let base1 : Base := ⟨fun k => base.K k ∨ c.F k, c.F, base.pin⟩
  have h1 : Rel base1 w.drew ks st a w.drew c := ⟨hd.len, hd.tm, hd.ls, hd.sv, hd.hm, hd.hp, hd.inj, fun r k hr ho hk => hk.elim (hd.ge r k hr ho) (hd.nF r k hr ho), hd.nF, hd.lt, Keep.refl _ _, hd.dn, ⟨fun k hk => hk.elim (hd.base_le k) (hd.lt k), fun k hk => .inl (hd.bs.blk k hk), hd.tabNow⟩, fun k hk => .inl hk, hd.pn⟩
  let Q' : Exit → Act → World → Prop := fun e a w => match e with | .normal => Q .normal a w | _ => False
  have hQ' : ∀ st' a' w' c', k st' = some res → Rel base1 w.drew ks st' a' w' c' → Q' .normal a' w' := by
    intro st' a' w' c' hk hr
    refine hQ st' a' w' c' hk ⟨hr.len, hr.tm, hr.ls, hr.sv, hr.hm, hr.hp, hr.inj, fun r k hr' ho hk => hr.ge r k hr' ho (.inl hk), hr.nF, hr.lt, hd.bel.trans (hr.bel.mono fun k hk => .inl hk), hr.dn, hd.bs, fun k hk => ?_, hr.pn⟩
    rcases hr.ff k hk with h2 | h2
    · exact hd.ff k h2
    · exact .inr fun hK => h2 (.inl hK)
  refine wp_mono (Q := Q') ?_ ?_
  · refine wp_region_held (S := SF (ops.all fun o => isFl o.op) w.drew c) hm ?_
    refine evDraw_sound (base := base1) hcall hsel (c1 := c) (w1 := w.drew) (fun k hk => show base1.K k from .inr hk) (fun ch a w h => h) hQ' _ _ st _ a w.drew c h1 (TF.start hd) ?_ he
    unfold SF
    split
    · rfl
    · exact Same.refl _ _
  · intro e a' w' hq
    cases e with
    | normal => exact hq
    | _ => exact hq.elim
end
end Go.Rv
