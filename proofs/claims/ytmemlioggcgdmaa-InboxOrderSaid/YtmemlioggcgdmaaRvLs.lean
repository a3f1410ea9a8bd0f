/- Rv, part Ls: regions whose order is drawn, in which no place that is known is written, are right. Of no program. -/
import Derived.Test.YtmemlioggcgdmaaRvLd
set_option linter.unusedVariables false
set_option linter.unusedSimpArgs false
namespace Go.Rv
open Go Go.RowKit
section
variable {P : Program} {α : Type} {res : α} {base : Base} {w0 : World} {ks : List (Array Value)} {st : St} {a : Act} {w : World} {c : Cx}

/-- Nothing that lies there has turned. -/
def Stood (w1 W : World) : Prop := Keep (fun k => k < w1.heap.size) w1 W
theorem Stood.refl (w : World) : Stood w w := Keep.refl _ _

theorem Rel.stood (h : Rel base w0 ks st a w c) {W : World} (hW : Stood w W) : Rel base w0 ks st a W c := by
  have hsz : w.heap.size ≤ W.heap.size := hW.size
  have := h.ext (c' := c) (bs := []) (fun k hk => hW.block k hk) (h.bel.trans (hW.mono fun k hk => h.base_le k hk)) hsz (fun _ hk => hk) (fun k hk => .inl hk) rfl (fun _ _ => rfl) (fun _ _ => rfl) (fun i b hb => by simp at hb) (fun r k h1 h2 => by omega) (fun r s k h1 h2 => by omega)
  rwa [rel_append_nil] at this

/-- As a call sees it: all that lies there is written no more; 'vw': what is led to is all, or what it was. -/
def footS (vw : Bool) (w1 : World) (c : Cx) : Foot := fun k => cond vw (k < w1.heap.size) (c.F k)
def baseS (vw : Bool) (w1 : World) (c : Cx) : Base := ⟨fun k => k < w1.heap.size, footS vw w1 c, fun _ => none⟩
def cxS (vw : Bool) (w1 : World) (c : Cx) : Cx := ⟨footS vw w1 c, fun _ => undef, fun _ => none, 0⟩
theorem footS_lt {vw : Bool} {w1 : World} {t : List V} (h : Rel base w0 ks ⟨t, st.s, st.h⟩ a w1 c) : ∀ k, footS vw w1 c k → k < w1.heap.size := by
  intro k hk
  cases vw with
  | true => exact hk
  | false => exact h.lt k hk
theorem footS_of {vw : Bool} {w1 : World} {t : List V} (h : Rel base w0 ks ⟨t, st.s, st.h⟩ a w1 c) : ∀ k, c.F k → footS vw w1 c k := by
  intro k hk
  cases vw with
  | true => exact h.lt k hk
  | false => exact hk

theorem mask_rd {vw : Bool} {w1 : World} {t : List V} (h : Rel base w0 ks ⟨t, st.s, st.h⟩ a w1 c) {W : World} (hW : Stood w1 W) {F' : Foot} (hF : ∀ k, footS vw w1 c k → F' k) {v : V} {x : Value} (hv : Rv w1 c v x) : Rd W F' (V.sub (stillV vw st.h) dep v) x := by
  have hs : Same c.F w1 W := fun k hk => hW.block k (h.lt k hk)
  refine Rv.subRd (F' := F') hs (fun k hk => hF k (footS_of h k hk)) ?_ dep v x hv
  cases vw with
  | false => intro v x _ _; exact .dead _
  | true =>
    refine loc_cases ?_ ?_ ?_ ?_
    · intro r y hv
      obtain ⟨hr, rfl, A, n, cap, he⟩ := hv.own_inv
      simp only [stillV, cond_true, viewV]
      split
      · rename_i wr nl sz n' g hb
        obtain ⟨_, hB⟩ := h.at hb
        exact ((row_reads (F' := fun k => k < w1.heap.size) (fun ho => hB.owned_lt ho) hB fun k hk => h.lt k hk).mono (fun k hk => hW.block k hk) fun _ hk => hk).mono (Same.refl _ _) hF
      · exact .dead _
    · intro r off y _; exact .dead _
    · intro r sz i off y _; exact .dead _
    · intro r y _; exact .dead _

theorem Rel.masked (vw : Bool) {w1 : World} {t : List V} (h : Rel base w0 ks ⟨t, st.s, st.h⟩ a w1 c) {W : World} (hW : Stood w1 W) : Rel (baseS vw w1 c) w1 [] ⟨t.map (V.sub (stillV vw st.h) dep), [], []⟩ a W (cxS vw w1 c) := by
  refine ⟨by simpa using h.len, fun i v x hv hx => ?_, rfl, fun i vs ys hv => by simp at hv, rfl, fun r b hb => by simp at hb, fun r s k hr => by simp [cxS] at hr, fun r k hr => by simp [cxS] at hr, fun r k hr => by simp [cxS] at hr, fun k hk => Nat.lt_of_lt_of_le (footS_lt h k hk) hW.size, hW, h.dn, fun k hk => hk, fun k hk => .inl hk, fun j k hj => by simp [baseS] at hj⟩
  obtain ⟨u, hu, rfl⟩ := getElem?_map_some hv
  exact .im _ _ (mask_rd h hW (fun _ hk => hk) (h.tm i u x hu hx))

/-- What a call sees, and all. -/
structure Both (base : Base) (w0 : World) (ks : List (Array Value)) (st : St) (c : Cx) (w1 : World) (vw : Bool) (sm : St) (t : List V) (a : Act) (W : World) (cm : Cx) : Prop where
  all : Rel base w0 ks ⟨t, st.s, st.h⟩ a w1 c
  seen : Rel (baseS vw w1 c) w1 [] sm a W cm
  F : ∀ k, footS vw w1 c k → cm.F k

theorem Both.stood {w1 W : World} {vw : Bool} {sm : St} {t : List V} {cm : Cx} (h : Both base w0 ks st c w1 vw sm t a W cm) : Stood w1 W := h.seen.bel

theorem Rel.bare0 (h : Rel base w0 ks st a w c) : Rel (baseF c) w [] ⟨t0 st.t, [], []⟩ { tmps := a.tmps, defers := [] } w (cxF c) := (TF.start h).rel w (Same.refl _ _)

theorem slice_forms {t : TypeId} {x : Operand} {lo hi mx : Option Operand} {r0 : Nat} {ty : TypeId} (h : Rel base w0 ks st a w c) {b : Bool} {v : V} {bs : List B} (hm : evMono P st r0 ty (.slice t x lo hi mx) = some (b, v, bs)) :
    (∃ s, a.eval x = .string s ∧ P.underlying t = some .string) ∨ ∃ A n cap e, a.eval x = .slice A n cap ∧ P.underlying t = some (.slice e) := by
  have hx := h.ev x
  have hm2 := hm
  simp only [evMono] at hm2
  split at hm2
  · rename_i s hu ex
    rw [ex] at hx
    exact .inl ⟨s, hx.str_inv, hu⟩
  · rename_i e nl sz n g hu ex
    rw [ex] at hx
    obtain ⟨A, cap, hxs, _, _⟩ := sl_form hx
    exact .inr ⟨A, n, cap, e, hxs, hu⟩
  · cases hm2

theorem slice3 {t : TypeId} {x : Operand} {lo hi mx : Option Operand} {o : Oper} {q : Nat} {wr nl : Bool} {sz n : Nat} {g : Cells} {r0 : Nat} (h : Rel base w0 ks st a w c) (hop : o.op = .slice t x lo hi mx) (hm : evMono P st r0 o.type (.slice t x lo hi mx) = some (true, .own q, [.row wr nl sz n g])) :
    ∃ y, (∀ W, (execOp a.eval o).run P W = .ok (.value y) W) ∧ Rd w c.F (.sl nl sz n g) y := by
  have hform := slice_forms h hm
  have hx := h.ev x
  simp only [evMono] at hm
  have opnd : ∀ {q : Option Operand} {k : IntKind} {n : Int}, q.map (ev st) = some (.int k n) → q.map a.eval = some (.int k n) := by
    intro q k n hq
    cases q with
    | none => cases hq
    | some y =>
      simp only [Option.map_some, Option.some.injEq] at hq ⊢
      have hy := h.ev y
      rw [hq] at hy
      exact hy.int_inv
  have opnn : ∀ {q : Option Operand}, q.map (ev st) = none → q.map a.eval = none := by
    intro q hq
    cases q with
    | none => rfl
    | some y => cases hq
  split at hm
  · split at hm <;> first | (cases hm; done) | (simp only [Option.some.injEq, Prod.mk.injEq] at hm; cases hm.2.1)
  · rename_i e' nl' sz' n' g' hu ex
    split at hm <;> (try cases hm)
    rename_i hz
    obtain ⟨rfl, hz⟩ := hz
    rw [ex] at hx
    obtain ⟨A, cap, hxs, hcap, hrd⟩ := sl_form hx
    obtain ⟨hue, hel⟩ := elem_of hu
    split at hm
    · cases hm
    · simp only [Option.some.injEq, Prod.mk.injEq] at hm; cases hm.2.1
    · simp only [Option.some.injEq, Prod.mk.injEq] at hm; cases hm.2.1
    · simp only [Option.some.injEq, Prod.mk.injEq] at hm; cases hm.2.1
    · rename_i k u k' m e1 e2 e3
      simp only [Option.some.injEq, Prod.mk.injEq, List.cons.injEq, B.row.injEq, and_true] at hm
      obtain ⟨hb, _, rfl, rfl, rfl, rfl, rfl⟩ := hm
      simp only [Bool.and_eq_true, decide_eq_true_eq] at hb
      obtain ⟨⟨hb1, hb2⟩, rfl⟩ := hb
      have hval : (Instr.slice t (.slice A n' cap) none (some (.int k u)) (some (.int k' u))).run P w = .ok (.slice A u.toNat u.toNat) w := by
        have s1 := run_sliceBound (P := P) w k' u cap .slice3Acap hb1 (by omega)
        have s2 := run_sliceBound (P := P) w k u u.toNat .slice3B hb1 (by omega)
        simp only [Instr.slice, Sem.run_bind, run_underlying hu, Result.andThen_ok, Instr.sliceBounds, Sem.run_pure, if_true]
        rw [s1]
        simp only [Result.andThen_ok]
        rw [s2]
        simp only [Result.andThen_ok, run_sizeT_pos hz, Sem.run_pure, Nat.sub_zero]
        cases A with
        | none => simp
        | some A => simp [Addr.add]
      rw [← opnn e1, ← opnd e2, ← opnd e3] at hval
      have hrun : (execOp a.eval o).run P w = .ok (.value (.slice A u.toNat u.toNat)) w := by
        simp only [execOp, hop, hxs, Sem.run_bind, run_sliceAt_slice w t _ _ _ _ hue, hval, Result.andThen_ok, Sem.run_pure]
      refine ⟨_, run_slice_any hop hform hrun, ?_⟩
      cases hrd with
      | slNil =>
        obtain rfl : u = 0 := by omega
        exact .slNil _ _
      | sl _ _ _ _ q off ys hc hF hsz' hcell hh =>
        exact .sl _ _ _ _ q off ys (Nat.le_refl _) hF (fun i hi => hsz' i (by omega)) (fun i j hi hj => hcell i j (by omega) hj) fun i j v hi hv => hh i j v (by omega) hv
    · cases hm
  · cases hm

theorem im_slice {t : TypeId} {x : Operand} {lo hi mx : Option Operand} {o : Oper} {b : Bool} {v : V} (h : Rel base w0 ks st a w c) (hop : o.op = .slice t x lo hi mx) (hm : imSl (evMono P (⟨t0 st.t, [], []⟩ : St) 0 o.type (.slice t x lo hi mx)) = some (b, v)) (hb : b = true) :
    ∃ y, (∀ W, (execOp a.eval o).run P W = .ok (.value y) W) ∧ Rd w c.F v y := by
  have h0 := h.bare0
  have hex : execOp ({ tmps := a.tmps, defers := [] } : Act).eval o = execOp a.eval o := execOp_eval rfl o
  subst hb
  unfold imSl at hm
  split at hm
  · rename_i b v' he
    simp only [Option.some.injEq, Prod.mk.injEq] at hm
    obtain ⟨rfl, rfl⟩ := hm
    have hform := slice_forms h0 he
    rw [← hop] at he
    obtain ⟨y, w', c', hrun, _, hrv, hw⟩ := evMono_sound h0 he rfl
    obtain ⟨hw1, hw2⟩ := hw rfl
    rw [hw1, hw2] at hrv
    rw [hw1] at hrun
    refine ⟨y, fun W => ?_, rv_rd0 (c := cxF c) rfl hrv⟩
    rw [← hex]
    exact run_slice_any hop hform hrun W
  · rename_i b q wr nl sz n g he
    simp only [Option.some.injEq, Prod.mk.injEq] at hm
    obtain ⟨rfl, rfl⟩ := hm
    obtain ⟨y, h1, h2⟩ := slice3 h0 hop he
    exact ⟨y, fun W => by rw [← hex]; exact h1 W, h2⟩
  · cases hm

/-- More is written no more. -/
theorem Rel.widen {vw : Bool} {w1 W : World} {t : List V} {a0 : Act} (h0 : Rel base w0 ks ⟨t, st.s, st.h⟩ a0 w1 c) {sm : St} {cm : Cx} (h : Rel (baseS vw w1 c) w1 [] sm a W cm) : ∃ c', Rel (baseS vw w1 c) w1 [] sm a W c' ∧ (∀ k, footS vw w1 c k → c'.F k) := by
  let c' : Cx := { cm with F := fun k => cm.F k ∨ footS vw w1 c k }
  have hF : ∀ k, cm.F k → c'.F k := fun k hk => .inl hk
  have up : ∀ {v x}, Rv W cm v x → Rv W c' v x := fun hv => hv.mono (Same.refl _ _) hF (Nat.le_refl _) fun _ _ => rfl
  refine ⟨c', ⟨h.len, fun i v x hv hx => up (h.tm i v x hv hx), h.ls, fun i vs xs hv hx => ⟨(h.sv i vs xs hv hx).1, fun j v x hv' hx' => up ((h.sv i vs xs hv hx).2 j v x hv' hx')⟩, h.hm, fun r b hb => (h.hp r b hb).mono (Same.refl _ _) hF (Nat.le_refl _) (fun _ _ => rfl) (fun _ _ => rfl) (h.at hb).1 rfl, h.inj, h.ge, fun r k hr ho hk => ?_, fun k hk => ?_, h.bel, h.dn, h.bs, fun k hk => ?_, h.pn⟩, fun k hk => .inr hk⟩
  · rcases hk with hk | hk
    · exact h.nF r k hr ho hk
    · exact h.ge r k hr ho (footS_lt h0 k hk)
  · rcases hk with hk | hk
    · exact h.lt k hk
    · exact Nat.lt_of_lt_of_le (footS_lt h0 k hk) h.bel.size
  · rcases hk with hk | hk
    · exact h.ff k hk
    · exact .inl hk

theorem evFs_sound {w1 : World} {vw : Bool} {o : Oper} {sm : St} {t : List V} {v vF : V} {W : World} {cm : Cx} (h : Both base w0 ks st c w1 vw sm t a W cm) (he : evFs P vw st.h o sm t = some (true, v, vF)) :
    ∃ x, (∀ W, Stood w1 W → (execOp a.eval o).run P W = .ok (.value x) W) ∧ Rv W cm v x ∧ Rv w1 c vF x := by
  have h0 : Rel base w0 [] ⟨t, [], st.h⟩ a w1 c := ⟨h.all.len, h.all.tm, rfl, fun i vs ys hv => by simp at hv, h.all.hm, h.all.hp, h.all.inj, h.all.ge, h.all.nF, h.all.lt, h.all.bel, h.all.dn, h.all.bs, h.all.ff, h.all.pn⟩
  have anyW : ∀ {v : V}, (∃ y, (∀ W, (execOp a.eval o).run P W = .ok (.value y) W) ∧ Rv w1 c v y) → ∃ x, (∀ W, Stood w1 W → (execOp a.eval o).run P W = .ok (.value x) W) ∧ Rv W cm (V.sub (stillV vw st.h) dep v) x ∧ Rv w1 c v x :=
    fun ⟨y, h1, h2⟩ => ⟨y, fun W _ => h1 W, .im _ _ (mask_rd h.all h.stood h.F h2), h2⟩
  have scal : evFs P vw st.h o sm t = (match evMono P ⟨t, [], st.h⟩ st.h.length o.type o.op with | some (b, v, []) => if scalarV dep v then some (b, v, v) else none | _ => none) →
      ∃ x, (∀ W, Stood w1 W → (execOp a.eval o).run P W = .ok (.value x) W) ∧ Rv W cm v x ∧ Rv w1 c vF x := by
    intro hsc
    rw [hsc] at he
    split at he <;> (try cases he)
    rename_i b u hm
    split at he <;> (try cases he)
    rename_i hs
    have hm' : evMono P (⟨t, [], st.h⟩ : St) (⟨t, [], st.h⟩ : St).h.length o.type o.op = some (true, v, []) := hm
    obtain ⟨x, w', c', hrun, hrel, hrv, hw⟩ := evMono_sound h0 hm' rfl
    obtain ⟨hwa, hwb⟩ := hw rfl
    rw [hwa, hwb] at hrv
    rw [hwa] at hrun
    refine ⟨x, fun W hW => ?_, .im _ _ (scalar_rd dep _ hs hrv).1, hrv⟩
    obtain ⟨y, w2, c2, hrun2, _, hrv2, hw2⟩ := evMono_sound (h0.stood hW) hm' rfl
    obtain ⟨hw2a, hw2b⟩ := hw2 rfl
    rw [hw2a, hw2b] at hrv2
    rw [hw2a] at hrun2
    rw [(scalar_rd dep _ hs (w' := W) (F := fun _ => True) hrv).2 hrv2] at hrun2
    exact hrun2
  cases hop : o.op with
  | move x =>
    simp only [evFs, hop, Option.some.injEq, Prod.mk.injEq, true_and] at he
    obtain ⟨rfl, rfl⟩ := he
    exact ⟨a.eval x, fun W _ => by simp [execOp, hop], h.seen.evT _ x, h0.evT _ x⟩
  | assign x =>
    simp only [evFs, hop, Option.some.injEq, Prod.mk.injEq, true_and] at he
    obtain ⟨rfl, rfl⟩ := he
    exact ⟨a.eval x, fun W _ => by simp [execOp, hop], h.seen.evT _ x, h0.evT _ x⟩
  | pick oc ox oy =>
    simp only [evFs, hop] at he
    have hc := h0.ev oc
    have hx := h0.ev ox
    have hy := h0.ev oy
    split at he
    rotate_left
    · split at he <;> (try cases he)
      rename_i t et
      rw [et] at hc
      have hc := hc.bool_inv
      have hrun : ∀ W, (execOp a.eval o).run P W = .ok (.value (if t then a.eval ox else a.eval oy)) W := fun W => by simp [execOp, hop, hc, asBool]
      cases t with
      | true => simp only [cond_true, Option.some.injEq, Prod.mk.injEq, true_and] at he; obtain ⟨rfl, rfl⟩ := he; exact ⟨_, fun W _ => hrun W, h.seen.ev ox, hx⟩
      | false => simp only [cond_false, Option.some.injEq, Prod.mk.injEq, true_and] at he; obtain ⟨rfl, rfl⟩ := he; exact ⟨_, fun W _ => hrun W, h.seen.ev oy, hy⟩
    rename_i u hu
    simp only [Option.some.injEq, Prod.mk.injEq, true_and] at he
    obtain ⟨rfl, rfl⟩ := he
    unfold pickV at hu
    split at hu
    · rename_i t x y e1 e2 e3
      cases hu
      rw [e1] at hc; rw [e2] at hx; rw [e3] at hy
      have hc := hc.bool_inv; have hx := hx.bool_inv; have hy := hy.bool_inv
      refine ⟨.bool (cond t x y), fun W _ => ?_, .im _ _ (.bool _), .im _ _ (.bool _)⟩
      cases t <;> simp [execOp, hop, hc, hx, hy, asBool]
    · rename_i t k x k' y e1 e2 e3
      split at hu <;> (try cases hu)
      rename_i e
      subst e
      rw [e1] at hc; rw [e2] at hx; rw [e3] at hy
      have hc := hc.bool_inv; have hx := hx.int_inv; have hy := hy.int_inv
      refine ⟨.int k (cond t x y), fun W _ => ?_, .im _ _ (.int _ _), .im _ _ (.int _ _)⟩
      cases t <;> simp [execOp, hop, hc, hx, hy, asBool]
    · cases hu
  | fieldAddr t x f =>
    simp only [evFs, hop] at he
    split at he <;> (try cases he)
    rename_i hm
    exact anyW (run_fieldAddr h0 hop hm)
  | indexAddr t x i =>
    simp only [evFs, hop] at he
    split at he <;> (try cases he)
    rename_i hm
    exact anyW (run_indexAddr h0 hop hm rfl)
  | extract x j =>
    simp only [evFs, hop] at he
    split at he <;> (try cases he)
    rename_i hm
    exact anyW (run_extract h0 hop hm)
  | nilCheck x =>
    simp only [evFs, hop] at he
    split at he <;> (try cases he)
    rename_i hm
    exact anyW (run_nilCheck h0 hop hm)
  | build t' ps =>
    simp only [evFs, hop] at he
    split at he
    · rename_i b v0 hm1
      obtain ⟨y, hy1, hy2⟩ := (run_build h.seen hop hm1).2
      split at he
      · rename_i b' v1 hm2
        simp only [Option.some.injEq, Prod.mk.injEq] at he
        obtain ⟨_, rfl, rfl⟩ := he
        obtain ⟨z, hz1, hz2⟩ := (run_build h0 hop hm2).2
        have : y = z := by
          have := hy1 W
          rw [hz1 W] at this
          simp only [Result.ok.injEq, Next.value.injEq, and_true] at this
          exact this.symm
        subst this
        exact ⟨y, fun W _ => hy1 W, hy2, hz2⟩
      · simp only [Option.some.injEq, Prod.mk.injEq] at he
        obtain ⟨_, rfl, rfl⟩ := he
        exact ⟨y, fun W _ => hy1 W, hy2, .dead _ _ _⟩
    · split at he <;> (try cases he)
      rename_i hm
      exact anyW (run_build h0 hop hm).2
  | load t x =>
    simp only [evFs, hop] at he
    split at he <;> (try cases he)
    rename_i hm
    obtain ⟨y, h1, h2⟩ := run_load_same h0 hop hm rfl
    exact ⟨y, fun W hW => h1 W fun k hk => hW.block k hk, .im _ _ (mask_rd h.all h.stood h.F h2), h2⟩
  | slice t' x lo hi mx =>
    have hcase : (∃ r, (match evMono P ⟨t, [], st.h⟩ st.h.length o.type o.op with | some (b, v, []) => if scalarV dep v then some (b, v, v) else none | _ => none) = some r ∧ evFs P vw st.h o sm t = (match evMono P ⟨t, [], st.h⟩ st.h.length o.type o.op with | some (b, v, []) => if scalarV dep v then some (b, v, v) else none | _ => none)) ∨
        evFs P vw st.h o sm t = (match imSl (evMono P (⟨t0 sm.t, [], []⟩ : St) 0 o.type (.slice t' x lo hi mx)) with
          | some (b, v) => (match imSl (evMono P (⟨t0 t, [], []⟩ : St) 0 o.type (.slice t' x lo hi mx)) with | some (b', v') => some (b && b', v, v') | none => some (b, v, .dead))
          | none => none) := by
      have h1 : evFs P vw st.h o sm t = (match (match evMono P ⟨t, [], st.h⟩ st.h.length o.type o.op with | some (b, v, []) => if scalarV dep v then some (b, v, v) else none | _ => none) with
        | some r => some r
        | none => (match imSl (evMono P (⟨t0 sm.t, [], []⟩ : St) 0 o.type (.slice t' x lo hi mx)) with
          | some (b, v) => (match imSl (evMono P (⟨t0 t, [], []⟩ : St) 0 o.type (.slice t' x lo hi mx)) with | some (b', v') => some (b && b', v, v') | none => some (b, v, .dead))
          | none => none)) := by simp only [evFs, hop]; rfl
      cases e : (match evMono P ⟨t, [], st.h⟩ st.h.length o.type o.op with | some (b, v, []) => if scalarV dep v then some (b, v, v) else none | _ => none) with
      | some r => exact .inl ⟨r, rfl, by rw [h1, e]⟩
      | none => rw [e] at h1; exact .inr h1
    rcases hcase with ⟨r, _, hsc⟩ | hsc
    · exact scal hsc
    · rw [hsc] at he
      split at he <;> (try cases he)
      rename_i b v0 hm1
      split at he
      · rename_i b' v1 hm2
        simp only [Option.some.injEq, Prod.mk.injEq, Bool.and_eq_true] at he
        obtain ⟨⟨hb1, hb2⟩, rfl, rfl⟩ := he
        obtain ⟨y, hy1, hy2⟩ := im_slice h.seen hop hm1 hb1
        obtain ⟨z, hz1, hz2⟩ := im_slice h0 hop hm2 hb2
        have : y = z := by
          have := hy1 W
          rw [hz1 W] at this
          simp only [Result.ok.injEq, Next.value.injEq, and_true] at this
          exact this.symm
        subst this
        exact ⟨y, fun W _ => hy1 W, .im _ _ hy2, .im _ _ hz2⟩
      · simp only [Option.some.injEq, Prod.mk.injEq] at he
        obtain ⟨hb1, rfl, rfl⟩ := he
        obtain ⟨y, hy1, hy2⟩ := im_slice h.seen hop hm1 hb1
        exact ⟨y, fun W _ => hy1 W, .im _ _ hy2, .dead _ _ _⟩
  | _ => exact scal (by simp only [evFs, hop]; rfl)

theorem Rel.setD' {w1 : World} {t : List V} (h : Rel base w0 ks ⟨t, st.s, st.h⟩ a w1 c) (d : Option Tmp) {v : V} {x : Value} (hv : Rv w1 c v x) : Rel base w0 ks ⟨Go.Rv.setD t d v, st.s, st.h⟩ (a.put d x) w1 c := by
  have := h.put d hv
  cases d <;> exact this
theorem Both.put {w1 : World} {vw : Bool} {sm : St} {t : List V} {W : World} {cm : Cx} (h : Both base w0 ks st c w1 vw sm t a W cm) (d : Option Tmp) {v vF : V} {x : Value} (hv : Rv W cm v x) (hF : Rv w1 c vF x) : Both base w0 ks st c w1 vw (sm.put d v) (Go.Rv.setD t d vF) (a.put d x) W cm := by
  refine ⟨?_, h.seen.put d hv, h.F⟩
  have := h.all.put d hF
  cases d <;> exact this
theorem Both.know {w1 : World} {vw : Bool} {sm : St} {t : List V} {W : World} {cm : Cx} (h : Both base w0 ks st c w1 vw sm t a W cm) {d : Tmp} {b : Bool} (hd : a.tmps[d]? = some (.bool b)) : Both base w0 ks st c w1 vw (sm.put (some d) (.bool b)) (t.set d (.bool b)) a W cm :=
  ⟨h.all.know hd, h.seen.know hd, h.F⟩

theorem evStill_sound {call : CallT α} (hcall : CallOK P call) {ops : Array Oper} (hsel : Region.noSelect ops = true) {w1 : World} {vw : Bool} {k : St → List V → Option α} {Q : Exit → Act → World → Prop}
    (hQp : ∀ ch a w, ¬ Q (.panic ch) a w) (hQ : ∀ sm t' a' w' cm, k sm t' = some res → Both base w0 ks st c w1 vw sm t' a' w' cm → Q .normal a' w') :
    ∀ (fuel : Nat) (listed : Array Bool) (sm : St) (t : List V) (a : Act) (W : World) (cm : Cx), Both base w0 ks st c w1 vw sm t a W cm → evStill P call vw st.h ops fuel listed sm t k = some res →
      wpAnyH P .any ops Q (Stood w1) fuel listed a W := by
  intro fuel
  induction fuel with
  | zero =>
    intro listed sm t a W cm h he
    simp only [evStill] at he
    split at he <;> (try cases he)
    rename_i hr
    exact ⟨hr, hQ _ _ _ _ _ he h⟩
  | succ fuel ih =>
    intro listed sm t a W cm h he
    simp only [evStill] at he
    split at he
    · rename_i hr
      exact wpAnyH_done hr (hQ _ _ _ _ _ he h) _
    rename_i r rs hr
    split at he
    · -- taken first
      rename_i i hpk
      obtain ⟨hmem, hfree⟩ := pickFl_spec _ _ hpk
      split at he <;> (try cases he)
      rename_i o hi
      have take : ∀ (x : Value), YieldsIf P ops (Stood w1) o x a → wpAnyH P .any ops Q (Stood w1) fuel (listed.setIfInBounds i true) (a.put o.dst x) W → wpAnyH P .any ops Q (Stood w1) (fuel + 1) listed a W :=
        fun x hy hn => wpAnyH_take hi hsel hfree (by rw [hr]; simpa using hmem) (fun ch a w h => (hQp ch _ _ h).elim) hy h.stood hn
      have go : ∀ (sm : St) (t : List V), Both base w0 ks st c w1 vw sm t a W cm → Region.wanted o (yielded ops a.tmps) = true →
          (match evFs P vw st.h o sm t with | some (b, v, vF) => cond b (evStill P call vw st.h ops fuel (listed.setIfInBounds i true) (sm.put o.dst v) (setD t o.dst vF) k) none | none => none) = some res →
          wpAnyH P .any ops Q (Stood w1) (fuel + 1) listed a W := by
        intro sm t h hw he
        split at he <;> (try cases he)
        rename_i b v vF hfl
        cases b with
        | false => cases he
        | true =>
          obtain ⟨x, hx1, hx2, hx3⟩ := evFs_sound h hfl
          exact take x (.inl ⟨hw, hx1⟩) (ih _ _ _ _ W cm (h.put o.dst hx2 hx3) he)
      split at he
      · rename_i hg
        exact go sm t h (noguard_wanted hg _) he
      · rename_i d want hg
        split at he <;> (try cases he)
        rotate_left
        · rename_i vs hd
          exact take undef (.inr ⟨guardT_undef h.all hg hd, rfl⟩) (ih _ _ _ _ W cm (h.put o.dst undef_rv undef_rv) he)
        rename_i b hd
        obtain ⟨hav, hw⟩ := guard_wanted h.all hg hd
        by_cases hbw : b = want
        · subst hbw
          have hcond : (if b then b else !b) = true := by cases b <;> rfl
          rw [hcond] at he
          exact go _ _ (h.know hav) (by rw [hw]; simp) he
        · have hb : b = !want := by cases b <;> cases want <;> simp_all
          have hcond : (if want then b else !b) = false := by subst hb; cases want <;> rfl
          rw [hcond] at he
          simp only [cond_false] at he
          rw [hb] at hav
          refine take undef (.inr ⟨by rw [hw]; simp [hbw], rfl⟩) (ih _ _ _ _ W cm ((h.know hav).put o.dst undef_rv undef_rv) he)
      · cases he
    · -- the only one that may come up
      rename_i hpk
      split at he <;> (try cases he)
      rename_i o hi
      refine wpAnyH_all hr (by simp) fun j hj => ?_
      obtain rfl : j = r := by simpa using hj
      unfold wpOp
      simp only [hi]
      have go : ∀ (sm : St) (t : List V), Both base w0 ks st c w1 vw sm t a W cm → Region.wanted o (yielded ops a.tmps) = true →
          evOp P call o sm (fun v sm' => evStill P call vw st.h ops fuel (listed.setIfInBounds j true) (sm'.put o.dst v) (setD t o.dst (stF v)) k) = some res →
          (if Region.wanted o (yielded ops a.tmps) = true then o.wp P a W (fun a' w' => Stood w1 w' ∧ wpAnyH P .any ops Q (Stood w1) fuel (listed.setIfInBounds j true) a' w') Q ∨ (o.asks P a W ∧ LetsOut Q) else Stood w1 W ∧ wpAnyH P .any ops Q (Stood w1) fuel (listed.setIfInBounds j true) (a.put o.dst undef) W) := by
        intro sm t h hw he
        rw [if_pos hw]
        left
        refine evOp_sound hcall h.seen he fun x v sm' w' cm0 hk hrel0 hrv0 => ?_
        obtain ⟨cm', hrel', hF'⟩ := Rel.widen h.all (hrel0.put o.dst hrv0)
        have hb' : Both base w0 ks st c w1 vw (sm'.put o.dst v) (Go.Rv.setD t o.dst (stF v)) (a.put o.dst x) w' cm' := ⟨?_, hrel', hF'⟩
        refine ⟨hrel0.bel, ih _ _ _ _ w' cm' hb' hk⟩
        refine (?_ : Rel base w0 ks ⟨Go.Rv.setD t o.dst (stF v), st.s, st.h⟩ (a.put o.dst x) w1 c)
        refine Rel.setD' h.all o.dst ?_
        unfold stF
        split
        · rename_i hs
          exact .im _ _ (scalar_rd dep v hs hrv0).1
        · exact .dead _ _ _
      split at he
      · rename_i hg
        exact go sm t h (noguard_wanted hg _) he
      · rename_i d want hg
        split at he <;> (try cases he)
        rotate_left
        · rename_i vs hd
          rw [if_neg (by rw [guardT_undef h.all hg hd]; simp)]
          exact ⟨h.stood, ih _ _ _ _ W cm (h.put o.dst undef_rv undef_rv) he⟩
        rename_i b hd
        obtain ⟨hav, hw⟩ := guard_wanted h.all hg hd
        by_cases hbw : b = want
        · subst hbw
          have hcond : (if b then b else !b) = true := by cases b <;> rfl
          rw [hcond] at he
          exact go _ _ (h.know hav) (by rw [hw]; simp) he
        · have hb : b = !want := by cases b <;> cases want <;> simp_all
          have hcond : (if want then b else !b) = false := by subst hb; cases want <;> rfl
          rw [hcond] at he
          simp only [cond_false] at he
          rw [hb] at hav
          rw [if_neg (by rw [hw]; simp [hbw])]
          exact ⟨h.stood, ih _ _ _ _ W cm ((h.know hav).put o.dst undef_rv undef_rv) he⟩
      · cases he

theorem mergeT_length (vw : Bool) (m : Nat) (h : List B) : ∀ us vs, (mergeT vw m h us vs).length = us.length
  | [], _ => by simp [mergeT]
  | u :: us, [] => by simp [mergeT]
  | u :: us, v :: vs => by simp [mergeT, mergeT_length vw m h us vs]
theorem mergeT_get (vw : Bool) (m : Nat) (h : List B) : ∀ (us vs : List V) (i : Nat) (z : V), (mergeT vw m h us vs)[i]? = some z → ∃ u, us[i]? = some u ∧ (z = u ∨ ∃ v, vs[i]? = some v ∧ z = lateV vw m h v)
  | [], vs, i, z, hz => by simp [mergeT] at hz
  | u :: us, [], i, z, hz => by
    simp only [mergeT] at hz
    exact ⟨z, hz, .inl rfl⟩
  | u :: us, v :: vs, 0, z, hz => by
    simp only [mergeT, List.getElem?_cons_zero, Option.some.injEq] at hz
    refine ⟨u, rfl, ?_⟩
    split at hz
    · exact .inr ⟨v, rfl, hz.symm⟩
    · exact .inl hz.symm
  | u :: us, v :: vs, i + 1, z, hz => by
    simp only [mergeT, List.getElem?_cons_succ] at hz
    obtain ⟨u', h1, h2⟩ := mergeT_get vw m h us vs i z hz
    exact ⟨u', h1, h2⟩
theorem flat_scalar : ∀ (t : Ty), t.flat = true → ∀ (x : Tup t) (i : Nat) u, (t.cells x)[i]? = some u → scalarV dep u = true
  | .nil, _, x, i, u, h => by simp [Ty.cells] at h
  | .bool r, hf, x, 0, u, h => by cases h; rfl
  | .int _ r, hf, x, 0, u, h => by cases h; rfl
  | .str r, hf, x, 0, u, h => by cases h; rfl
  | .bool r, hf, x, i + 1, u, h => flat_scalar r hf x.2 i u h
  | .int _ r, hf, x, i + 1, u, h => flat_scalar r hf x.2 i u h
  | .str r, hf, x, i + 1, u, h => flat_scalar r hf x.2 i u h
  | .sl _ _, hf, _, _, _, _ => by cases hf

theorem row_shift {w : World} {c c' : Cx} {r r' : Nat} {b : B} (hb : isRow b = true) (h : BR w c r b) (hF : ∀ k, c.F k → c'.F k) (hρ : c'.ρ r' = c.ρ r) (ho : c'.o r' = c.o r) : BR w c' r' b := by
  cases h with
  | rowNil wr sz g hz hρ' ho' => exact .rowNil wr sz g hz (hρ.trans hρ') (ho.trans ho')
  | rowFull wr sz n g b off hz hw hρ' ho' h => exact .rowFull wr sz n g b off hz hw (hρ.trans hρ') (ho.trans ho') (h.mono (Same.refl _ _) hF)
  | row wr sz n cap g ty k xs fz hz hρ' ho' hk' hfz hs' hc h1 hg h => exact .row wr sz n cap g ty k xs fz hz (hρ.trans hρ') (ho.trans ho') hk' hfz hs' hc h1 hg (h.mono (Same.refl _ _) hF)
  | _ => cases hb

theorem Both.merge {w1 : World} {vw : Bool} {sm : St} {t : List V} {W : World} {cm : Cx} (h : Both base w0 ks st c w1 vw sm t a W cm) : ∃ c', Rel base w0 ks { t := mergeT vw st.h.length sm.h t sm.t, s := st.s, h := st.h ++ mergeH vw sm.h } a W c' := by
  have hA := h.all.stood h.stood
  have hm1 : c.m = st.h.length := hA.hm
  have hm2 : cm.m = sm.h.length := h.seen.hm
  let c' : Cx := ⟨fun k => cond vw (c.F k) (cm.F k), fun r => if r < c.m then c.ρ r else cm.ρ (r - c.m), fun r => if r < c.m then c.o r else if keepQ vw sm.h (r - c.m) then cm.o (r - c.m) else none, c.m + cm.m⟩
  have hFc : ∀ k, c.F k → c'.F k := fun k hk => by
    cases vw with
    | true => exact hk
    | false => exact h.F k hk
  have hFd : ∀ k, c'.F k → c.F k ∨ w1.heap.size ≤ k := fun k hk => by
    cases vw with
    | true => exact .inl hk
    | false =>
      rcases h.seen.ff k hk with h1 | h1
      · exact .inl h1
      · exact .inr (by simp only [baseS] at h1; omega)
  have hFl : ∀ k, c'.F k → k < W.heap.size := fun k hk => by
    cases vw with
    | true => exact hA.lt k hk
    | false => exact h.seen.lt k hk
  have hρ : ∀ r, r < c.m → c'.ρ r = c.ρ r := fun r hr => if_pos hr
  have ho : ∀ r, r < c.m → c'.o r = c.o r := fun r hr => if_pos hr
  have hρ2 : ∀ j, c'.ρ (c.m + j) = cm.ρ j := fun j => by
    show (if c.m + j < c.m then _ else cm.ρ (c.m + j - c.m)) = _
    rw [if_neg (by omega), Nat.add_sub_cancel_left]
  have ho2 : ∀ j, c'.o (c.m + j) = if keepQ vw sm.h j then cm.o j else none := fun j => by
    show (if c.m + j < c.m then _ else if keepQ vw sm.h (c.m + j - c.m) then cm.o (c.m + j - c.m) else none) = _
    rw [if_neg (by omega), Nat.add_sub_cancel_left]
  have hsplit : ∀ r k, r < c'.m → c'.o r = some k → (r < c.m ∧ c.o r = some k) ∨ ∃ j, r = c.m + j ∧ j < cm.m ∧ cm.o j = some k := by
    intro r k hr hk
    rcases Nat.lt_or_ge r c.m with hlt | hge
    · exact .inl ⟨hlt, ho r hlt ▸ hk⟩
    · obtain ⟨j, rfl⟩ : ∃ j, r = c.m + j := ⟨r - c.m, by omega⟩
      rw [ho2] at hk
      split at hk <;> (try cases hk)
      exact .inr ⟨j, rfl, by have : c.m + j < c.m + cm.m := hr; omega, hk⟩
  have hold : ∀ r k, r < c.m → c.o r = some k → k < w1.heap.size := fun r k hr hk => h.all.owned_lt hr hk
  have hnew : ∀ j k, j < cm.m → cm.o j = some k → w1.heap.size ≤ k := fun j k hj hk => by
    have := h.seen.ge j k hj hk
    simp only [baseS] at this
    omega
  have up : ∀ {v x}, Rv W c v x → Rv W c' v x := fun hv => hv.mono (Same.refl _ _) hFc (by show c.m ≤ c.m + cm.m; omega) hρ
  have own' : ∀ {j x}, Rv W cm (.own j) x → Rv W c' (.own (st.h.length + j)) x := by
    intro j x hv
    obtain ⟨hjm, rfl, A, n, cap, he⟩ := hv.own_inv
    rw [← hm1, he]
    exact .own (c.m + j) (by show c.m + j < c.m + cm.m; omega) A n cap (by rw [hρ2, he])
  refine ⟨c', ⟨?_, ?_, hA.ls, ?_, ?_, ?_, ?_, ?_, ?_, hFl, hA.bel, hA.dn, hA.bs, ?_, ?_⟩⟩
  · show (mergeT _ _ _ _ _).length = _
    rw [mergeT_length]; exact hA.len
  · intro i z x hz hx
    obtain ⟨u, hu, hcase⟩ := mergeT_get _ _ _ _ _ i z hz
    rcases hcase with rfl | ⟨v, hv, rfl⟩
    · exact up (hA.tm i z x hu hx)
    · have hvx := h.seen.tm i v x hv hx
      cases vw with
      | true =>
        simp only [lateV]
        split
        · split
          · exact own' hvx
          · exact .dead _ _ _
        · exact .dead _ _ _
      | false =>
        simp only [lateV]
        refine Rv.sub (c := cm) (c' := c') (Same.refl _ _) (fun _ hk => hk) ?_ dep v x hvx
        refine loc_cases ?_ ?_ ?_ ?_
        · intro j y hy
          simp only [shiftV]
          split
          · exact own' hy
          · exact .dead _ _ _
        · intro r off y _; exact .dead _ _ _
        · intro r sz i off y _; exact .dead _ _ _
        · intro r y _; exact .dead _ _ _
  · intro i vs xs hv hx
    exact ⟨(hA.sv i vs xs hv hx).1, fun j v x hv' hx' => up ((hA.sv i vs xs hv hx).2 j v x hv' hx')⟩
  · show c.m + cm.m = (st.h ++ mergeH vw sm.h).length
    simp [mergeH, hm1, hm2]
  · intro r b hr
    have hr : (st.h ++ mergeH vw sm.h)[r]? = some b := hr
    rcases Nat.lt_or_ge r c.m with hlt | hge
    · rw [List.getElem?_append_left (by omega)] at hr
      exact (hA.hp r b hr).mono (Same.refl _ _) hFc (by show c.m ≤ c.m + cm.m; omega) hρ (fun _ _ => rfl) hlt (ho r hlt)
    · obtain ⟨j, rfl⟩ : ∃ j, r = c.m + j := ⟨r - c.m, by omega⟩
      rw [List.getElem?_append_right (by omega), hm1, Nat.add_sub_cancel_left] at hr
      obtain ⟨b0, hb0, hbe⟩ := getElem?_map_some (f := fun b => if keepR vw b then b else B.gone) hr
      have hkq : keepQ vw sm.h j = keepR vw b0 := by simp only [keepQ, hb0]
      split at hbe
      · rename_i hfl
        subst hbe
        rw [hfl] at hkq
        have ho' : c'.o (c.m + j) = cm.o j := by rw [ho2, hkq, if_pos rfl]
        have hB := h.seen.hp j _ hb0
        cases vw with
        | false => exact row_shift hfl hB (fun _ hk => hk) (hρ2 j) ho'
        | true =>
          have hfl : flatRow b0 = true := hfl
          unfold flatRow at hfl
          split at hfl <;> (try cases hfl)
          rename_i nn ty G hq1 hq2
          generalize hg : Cells.typ ty G = g at hB
          cases hB with
          | rowNil _ _ _ hz hρ' ho'' => exact .rowNil _ _ _ hz ((hρ2 j).trans hρ') (ho'.trans ho'')
          | rowFull _ _ _ _ _ _ _ hw => cases hw
          | row _ _ _ cap _ tt k xs fz hz hρ' ho'' hk hfz hs hc h1 hgl hh =>
            subst hg
            refine .row _ _ _ cap _ tt k xs fz hz ((hρ2 j).trans hρ') (ho'.trans ho'') hk hfz hs hc h1 hgl fun i jj u hi hu => ?_
            obtain ⟨x, hx1, hx2⟩ := hh i jj u hi hu
            exact ⟨x, hx1, (scalar_rd dep u (flat_scalar ty (by first | exact hfl | exact hq1) _ jj u hu) (Rv.im (c := cm) _ _ hx2)).1⟩
      · rename_i hfl
        subst hbe
        refine .gone ?_
        rw [ho2, hkq, if_neg hfl]
  · intro r s k hr hs hk hk'
    rcases hsplit r k hr hk with ⟨h1, h2⟩ | ⟨j, rfl, h1, h2⟩ <;> rcases hsplit s k hs hk' with ⟨h3, h4⟩ | ⟨j', rfl, h3, h4⟩
    · exact hA.inj r s k h1 h3 h2 h4
    · have := hold r k h1 h2; have := hnew j' k h3 h4; omega
    · have := hnew j k h1 h2; have := hold s k h3 h4; omega
    · have := h.seen.inj j j' k h1 h3 h2 h4; omega
  · intro r k hr hk hK
    rcases hsplit r k hr hk with ⟨h1, h2⟩ | ⟨j, rfl, h1, h2⟩
    · exact hA.ge r k h1 h2 hK
    · have := hnew j k h1 h2; have := h.all.base_le k hK; omega
  · intro r k hr hk hf
    rcases hsplit r k hr hk with ⟨h1, h2⟩ | ⟨j, rfl, h1, h2⟩
    · rcases hFd k hf with h3 | h3
      · exact hA.nF r k h1 h2 h3
      · have := hold r k h1 h2; omega
    · cases vw with
      | true => have := hnew j k h1 h2; have := h.all.lt k hf; omega
      | false => exact h.seen.nF j k h1 h2 hf
  · intro k hk
    rcases hFd k hk with h3 | h3
    · exact hA.ff k h3
    · exact .inr fun hK => by have := h.all.base_le k hK; omega
  · intro j k hj
    obtain ⟨h1, h2, h3⟩ := hA.pn j k hj
    exact ⟨by show j < c.m + cm.m; omega, (hρ j h1).trans h2, (ho j h1).trans h3⟩

theorem evQuiet_sound {call : CallT α} (hcall : CallOK P call) {vw : Bool} {id : Nat} {ops : Array Oper} (h : Rel base w0 ks st a w c) {k : St → Option α} (he : evQuiet P call vw ops st k = some res) {Q : Exit → Act → World → Prop}
    (hQ : ∀ st' a' w' c', k st' = some res → Rel base w0 ks st' a' w' c' → Q .normal a' w') : (Code.region id ops true).wp P Q a w := by
  unfold evQuiet at he
  split at he <;> (try cases he)
  rename_i hok
  rw [Bool.and_eq_true] at hok
  obtain ⟨hm, hsel⟩ := hok
  let Q' : Exit → Act → World → Prop := fun e a w => match e with | .normal => Q .normal a w | _ => False
  refine wp_mono (Q := Q') ?_ ?_
  · refine wp_region_held (S := Stood w.drew) hm ?_
    refine evStill_sound (Q := Q') (st := st) (c := c) (base := base) (w0 := w0) (ks := ks) hcall hsel (fun ch a w h => h) (fun sm t' a' w' cm hk hb => ?_) _ _ _ st.t a w.drew (cxS vw w.drew c) ⟨h.drew, h.drew.masked vw (Stood.refl _), fun k hk => hk⟩ he
    obtain ⟨c', hr⟩ := hb.merge
    exact hQ _ a' w' c' hk hr
  · intro e a' w' hq
    cases e with
    | normal => exact hq
    | _ => exact hq.elim
end
end Go.Rv
