/- Rv, part Ls: regions whose order is drawn, in which no place that is known is written, are right. Of no program. -/
import Derived.Test.YtmoeohjaafpmgaaRvLd
set_option linter.unusedVariables false
set_option linter.unusedSimpArgs false
set_option linter.unusedSectionVars false
namespace Go.Rv
open Go Go.RowKit
variable [Fx]
section
variable {P : Program} {α : Type} {res : α} {base : Base} {w0 : World} {ks : List (Array Value)} {st : St} {a : Act} {w : World} {c : Cx}

/-- Blocks of what is live. -/
def Live (c : Cx) (rs : List Nat) : Foot := fun k => ∃ r ∈ rs, c.o r = some k
/-- Nothing that lies there has turned, but what is live. -/
def Stood (w1 : World) (c : Cx) (rs : List Nat) (W : World) : Prop := Keep (fun k => k < w1.heap.size ∧ ¬ Live c rs k) w1 W
theorem Stood.refl (w : World) (c : Cx) (rs : List Nat) : Stood w c rs w := Keep.refl _ _
/-- The rest, without what is live. -/
def cxR (c : Cx) (rs : List Nat) : Cx := ⟨c.F, c.ρ, fun r => if r ∈ rs then none else c.o r, c.m⟩
def pinAt (c : Cx) (r : Nat) : Option Nat := match c.ρ r, c.o r with | .pointer (some ⟨k, 0, none⟩), some k' => if k = k' then some k else none | _, _ => none
theorem pinAt_spec {c : Cx} {r k : Nat} (h : pinAt c r = some k) : c.ρ r = .pointer (some ⟨k, 0, none⟩) ∧ c.o r = some k := by
  unfold pinAt at h
  split at h <;> (try cases h)
  rename_i e1 e2
  split at h <;> (try cases h)
  rename_i e
  subst e
  exact ⟨e1, e2⟩
/-- As a call sees it: all that lies there, but what is live, is written no more; 'vw': what is led to is all, or what it was. -/
def footS (vw : Bool) (w1 : World) (c : Cx) : Foot := fun k => cond vw (k < w1.heap.size) (c.F k)
def baseS (vw : Bool) (w1 : World) (c : Cx) (rs : List Nat) : Base := ⟨fun k => k < w1.heap.size ∧ ¬ Live c rs k, footS vw w1 c, fun i => if i < rs.length then pinAt c (rs.getD i 0) else none⟩
def cxS (vw : Bool) (w1 : World) (c : Cx) (rs : List Nat) : Cx := ⟨footS vw w1 c, fun i => c.ρ (rs.getD i 0), fun i => c.o (rs.getD i 0), rs.length⟩

theorem getD_lt {rs : List Nat} {j : Nat} (h : j < rs.length) : rs.getD j 0 = rs[j] := by
  rw [List.getD_eq_getElem?_getD, List.getElem?_eq_getElem h, Option.getD_some]
theorem getD_mem {rs : List Nat} {j : Nat} (h : j < rs.length) : rs.getD j 0 ∈ rs := by rw [getD_lt h]; exact List.getElem_mem h

def restBase (base : Base) (rs : List Nat) : Base := ⟨base.K, base.F, fun j => if j ∈ rs then none else base.pin j⟩
theorem Rel.baseS_ok (h : Rel base w0 ks st a w c) (vw : Bool) {rs : List Nat} (hr : ∀ r ∈ rs, r < st.h.length) : BsOK (baseS vw w c rs) w :=
  ⟨fun k hk => hk.1, fun k hk => ⟨h.base_le k (h.bs.blk k hk), fun ⟨s, hs, ho⟩ => h.ge s k (by rw [h.hm]; exact hr s hs) ho (h.bs.blk k hk)⟩, h.tabNow⟩
/-- What is not live. -/
theorem Rel.rest (h : Rel base w0 ks st a w c) (rs : List Nat) : Rel (restBase base rs) w0 ks ⟨st.t.map (V.sub (restV rs) dep), st.s.map (·.map (V.sub (restV rs) dep)), hideB rs st.h⟩ a w (cxR c rs) := by
  have hσ : ∀ v x, Loc v → Rv w c v x → Rv w (cxR c rs) (restV rs v) x := by
    refine loc_cases ?_ ?_ ?_ ?_
    · intro r x hv
      simp only [restV]
      split
      · exact .dead _ _ _
      · exact hv.mono (Same.refl _ _) (fun _ hk => hk) (Nat.le_refl _) fun _ _ => rfl
    · intro r o x hv
      exact hv.mono (Same.refl _ _) (fun _ hk => hk) (Nat.le_refl _) fun _ _ => rfl
    · intro r s i o x hv
      simp only [restV]
      split
      · exact .dead _ _ _
      · exact hv.mono (Same.refl _ _) (fun _ hk => hk) (Nat.le_refl _) fun _ _ => rfl
    · intro r x hv
      simp only [restV]
      split
      · exact .dead _ _ _
      · exact hv.mono (Same.refl _ _) (fun _ hk => hk) (Nat.le_refl _) fun _ _ => rfl
  have hsub := fun u x (hu : Rv w c u x) => Rv.sub (w' := w) (c' := cxR c rs) (Same.refl c.F w) (fun _ hk => hk) hσ dep u x hu
  have ho : ∀ {r k}, (cxR c rs).o r = some k → c.o r = some k := fun {r k} hk => by
    have hk' : (if r ∈ rs then none else c.o r) = some k := hk
    split at hk'
    · cases hk'
    · exact hk'
  refine ⟨by simpa using h.len, ?_, by simpa using h.ls, ?_, by simpa [hideB, cxR] using h.hm, ?_, fun r s k hr hs h1 h2 => h.inj r s k hr hs (ho h1) (ho h2), fun r k hr h1 => h.ge r k hr (ho h1), fun r k hr h1 => h.nF r k hr (ho h1), h.lt, h.bel, h.dn, ⟨h.bs.lt, h.bs.blk, h.bs.tab⟩, h.ff, ?_⟩
  · intro i v x hv hx
    obtain ⟨u, hu, rfl⟩ := getElem?_map_some hv
    exact hsub _ _ (h.tm i u x hu hx)
  · intro i vs xs hv hx
    obtain ⟨us, hu, rfl⟩ := getElem?_map_some hv
    refine ⟨by simpa using (h.sv i us xs hu hx).1, fun j v x hv' hx' => ?_⟩
    obtain ⟨u, hu', rfl⟩ := getElem?_map_some hv'
    exact hsub _ _ ((h.sv i us xs hu hx).2 j u x hu' hx')
  · intro r b hb
    simp only [hideB, List.getElem?_mapIdx, Option.map_eq_some_iff] at hb
    obtain ⟨b0, hb0, rfl⟩ := hb
    split
    · rename_i hr
      exact .gone (by show (if r ∈ rs then none else c.o r) = none; rw [if_pos hr])
    · rename_i hr
      exact (h.hp r b0 hb0).sub (Same.refl _ _) (fun _ hk => hk) hσ (fun _ _ => rfl) rfl (by show (if r ∈ rs then none else c.o r) = _; rw [if_neg hr])
  · intro j k hj
    have hj' : (if j ∈ rs then none else base.pin j) = some k := hj
    split at hj' <;> (try cases hj')
    rename_i hr
    obtain ⟨h1, h2, h3⟩ := h.pn j k hj'
    exact ⟨h1, h2, by show (if j ∈ rs then none else c.o j) = some k; rw [if_neg hr]; exact h3⟩

/-- What is live, by itself. -/
theorem Rel.live (h : Rel base w0 ks st a w c) (vw : Bool) {rs : List Nat} (hn : rs.Nodup) (hr : ∀ r ∈ rs, r < st.h.length) (hv : vw = true → rs = []) :
    Rel (baseS vw w c rs) w [] ⟨st.t.map (V.sub (liveV vw st.h rs) dep), [], liveB vw st.h rs⟩ a w (cxS vw w c rs) := by
  have hF : ∀ k, c.F k → (cxS vw w c rs).F k := by
    intro k hk
    cases vw with
    | true => exact h.lt k hk
    | false => exact hk
  have hidx : ∀ {r}, r ∈ rs → rs.idxOf r < rs.length ∧ (cxS vw w c rs).ρ (rs.idxOf r) = c.ρ r := by
    intro r hmem
    have hlt := List.idxOf_lt_length_iff.2 hmem
    refine ⟨hlt, ?_⟩
    show c.ρ (rs.getD (rs.idxOf r) 0) = _
    rw [getD_lt hlt, List.getElem_idxOf hlt]
  have hσ : ∀ v x, Loc v → Rv w c v x → Rv w (cxS vw w c rs) (liveV vw st.h rs v) x := by
    refine loc_cases ?_ ?_ ?_ ?_
    · intro r x hx
      obtain ⟨hrm, rfl, A, n, cap, he⟩ := hx.own_inv
      simp only [liveV]
      split
      · rename_i hmem
        obtain ⟨h1, h2⟩ := hidx hmem
        rw [he]
        exact .own _ h1 A n cap (h2.trans he)
      · cases vw with
        | false => exact .dead _ _ _
        | true =>
          simp only [stillV, cond_true, viewV]
          split
          · rename_i wr nl sz n' g hb
            obtain ⟨_, hB⟩ := h.at hb
            exact .im _ _ (row_reads (fun ho => hB.owned_lt ho) hB hF)
          · exact .dead _ _ _
    · intro r o x hx
      simp only [liveV]
      split
      · rename_i hmem
        obtain ⟨h1, h2⟩ := hidx hmem
        obtain ⟨_, b, he, rfl⟩ := hx.ref_inv
        exact .ref _ o b h1 (h2.trans he)
      · exact .dead _ _ _
    · intro r s i o x hx
      simp only [liveV]
      split
      · rename_i hmem
        obtain ⟨h1, h2⟩ := hidx hmem
        obtain ⟨_, b, n, cap, he, rfl⟩ := hx.wptr_inv
        exact .wptr _ s i o b n cap h1 (h2.trans he)
      · exact .dead _ _ _
    · intro r x hx
      simp only [liveV]
      split
      · rename_i hmem
        obtain ⟨h1, h2⟩ := hidx hmem
        obtain ⟨_, b, he, rfl⟩ := hx.mp_inv
        exact .mp _ b h1 (h2.trans he)
      · exact .dead _ _ _
  have hsub := fun u x (hu : Rv w c u x) => Rv.sub (w' := w) (c' := cxS vw w c rs) (Same.refl c.F w) hF hσ dep u x hu
  have hro : ∀ {j}, j < rs.length → rs.getD j 0 < c.m := fun {j} hj => by rw [h.hm]; exact hr _ (getD_mem hj)
  refine ⟨by simpa using h.len, ?_, rfl, fun i vs ys hv => by simp at hv, by simp [cxS, liveB], ?_, ?_, ?_, ?_, ?_, Keep.refl _ _, h.dn, h.baseS_ok vw hr, fun k hk => .inl hk, ?_⟩
  · intro i v x hv hx
    obtain ⟨u, hu, rfl⟩ := getElem?_map_some hv
    exact hsub _ _ (h.tm i u x hu hx)
  · intro j b hb
    obtain ⟨r, hj, rfl⟩ := getElem?_map_some (f := fun r => (st.h.getD r .gone).sub (liveV vw st.h rs)) hb
    have hlt : j < rs.length := (List.getElem?_eq_some_iff.1 hj).1
    have hjr : rs.getD j 0 = r := by rw [List.getD_eq_getElem?_getD, hj, Option.getD_some]
    have hrl := hr r (List.mem_of_getElem? hj)
    have hb0 : st.h[r]? = some (st.h.getD r .gone) := by rw [List.getD_eq_getElem?_getD, List.getElem?_eq_getElem hrl, Option.getD_some]
    exact (h.hp r _ hb0).sub (Same.refl _ _) hF hσ (fun _ _ => rfl) (by show c.ρ (rs.getD j 0) = _; rw [hjr]) (by show c.o (rs.getD j 0) = _; rw [hjr])
  · intro i j k hi hj hk hk'
    have := h.inj _ _ k (hro hi) (hro hj) hk hk'
    rw [getD_lt hi, getD_lt hj] at this
    exact (List.getElem_inj hn).1 this
  · intro j k hj hk hK
    exact hK.2 ⟨_, getD_mem hj, hk⟩
  · intro j k hj hk hf
    cases vw with
    | true => rw [hv rfl] at hj; exact absurd hj (Nat.not_lt_zero _)
    | false => exact h.nF _ k (hro hj) hk hf
  · intro k hk
    cases vw with
    | true => exact hk
    | false => exact h.lt k hk
  · intro j k hj
    have hj' : (if j < rs.length then pinAt c (rs.getD j 0) else none) = some k := hj
    split at hj' <;> (try cases hj')
    rename_i hlt
    exact ⟨hlt, (pinAt_spec hj').1, (pinAt_spec hj').2⟩
/-- What is read lies in a block that is known. -/
theorem readAt_block (h : Rel base w0 ks st a w c) {n : Nat} {v : V} {x : Value} {cs : List V} {b : Bool} (hr : readAt st.h n v = some (b, cs)) (hb : b = true) (hv : Rv w c v x) {k off : Nat} (hx : x = .pointer (some ⟨k, off, none⟩)) :
    c.F k ∨ ∃ r, r < c.m ∧ c.o r = some k := by
  subst hb
  unfold readAt at hr
  split at hr
  · rename_i r off'
    obtain ⟨hlt, k', hk, he⟩ := hv.ref_inv
    rw [hx] at he
    simp only [Value.pointer.injEq, Option.some.injEq, Addr.mk.injEq, and_true] at he
    obtain ⟨rfl, rfl⟩ := he
    split at hr <;> (try cases hr)
    · rename_i bs hbx
      obtain ⟨_, hB⟩ := h.at hbx
      cases hB with
      | box _ ty k2 xs hρ ho =>
        rw [hρ] at hk
        simp only [Value.pointer.injEq, Option.some.injEq, Addr.mk.injEq, and_true] at hk
        subst hk
        exact .inr ⟨r, hlt, ho⟩
    · rename_i T0 u hbx
      obtain ⟨_, hB⟩ := h.at hbx
      cases hB with
      | sb ty _ k2 y z hρ ho =>
        rw [hρ] at hk
        simp only [Value.pointer.injEq, Option.some.injEq, Addr.mk.injEq, and_true] at hk
        subst hk
        exact .inr ⟨r, hlt, ho⟩
  · cases hv with
    | im _ _ hd =>
      cases hd with
      | eptr _ k2 off2 ys hF =>
        simp only [Value.pointer.injEq, Option.some.injEq, Addr.mk.injEq, and_true] at hx
        obtain ⟨rfl, rfl⟩ := hx
        exact .inl hF
  · rename_i r sz i off2
    obtain ⟨hlt, k', n2, cap2, hk, he⟩ := hv.wptr_inv
    rw [hx] at he
    simp only [Value.pointer.injEq, Option.some.injEq, Addr.mk.injEq, and_true] at he
    obtain ⟨rfl, rfl⟩ := he
    split at hr <;> (try cases hr)
    · rename_i wr nl sz' n' g hbx
      obtain ⟨_, hB⟩ := h.at hbx
      cases hB with
      | rowNil wr sz g hz hρ ho => rw [hρ] at hk; cases hk
      | rowFull wr _ _ _ A3 hz hw hρ ho hd =>
        rw [hρ] at hk
        simp only [Value.slice.injEq, Option.some.injEq, Addr.mk.injEq, and_true] at hk
        obtain ⟨rfl, _, _⟩ := hk
        cases hd with
        | slE => split at hr <;> simp at hr
        | sl _ _ _ _ _ _ _ _ hF => exact .inl hF
      | row wr _ _ cap _ ty k2 xs fz hz hρ ho =>
        rw [hρ] at hk
        simp only [Value.slice.injEq, Option.some.injEq, Addr.mk.injEq, and_true] at hk
        obtain ⟨rfl, _, _⟩ := hk
        exact .inr ⟨r, hlt, ho⟩
    · rename_i sz' n' cs' hbx
      obtain ⟨_, hB⟩ := h.at hbx
      cases hB with
      | lit _ _ _ ty k2 xs hz hρ ho =>
        rw [hρ] at hk
        simp only [Value.slice.injEq, Option.some.injEq, Addr.mk.injEq, and_true] at hk
        obtain ⟨rfl, _, _⟩ := hk
        exact .inr ⟨r, hlt, ho⟩
  · cases hr
/-- What stands at the region's start. -/
structure Sights (base : Base) (w0 : World) (ks : List (Array Value)) (st : St) (c : Cx) (w1 : World) (vw : Bool) (rs : List Nat) : Prop where
  full : ∃ a0, Rel base w0 ks st a0 w1 c
  nd : rs.Nodup
  lt : ∀ r ∈ rs, r < st.h.length
  em : vw = true → rs = []
theorem Sights.ok {w1 : World} {vw : Bool} {rs : List Nat} (h : Sights base w0 ks st c w1 vw rs) : BsOK (baseS vw w1 c rs) w1 := by
  obtain ⟨a0, hf⟩ := h.full
  exact hf.baseS_ok vw h.lt
/-- What a call sees and what is live, and the rest. -/
structure Both (base : Base) (w0 : World) (ks : List (Array Value)) (st : St) (c : Cx) (w1 : World) (vw : Bool) (rs : List Nat) (sm : St) (t : List V) (a : Act) (W : World) (cm : Cx) : Prop where
  sg : Sights base w0 ks st c w1 vw rs
  all : Rel (restBase base rs) w0 ks ⟨t, st.s.map (·.map (V.sub (restV rs) dep)), hideB rs st.h⟩ a w1 (cxR c rs)
  seen : Rel (baseS vw w1 c rs) w1 [] sm a W cm
  F : ∀ k, footS vw w1 c k → cm.F k

theorem cxR_o {c : Cx} {rs : List Nat} {r k : Nat} (h : (cxR c rs).o r = some k) : r ∉ rs ∧ c.o r = some k := by
  have h' : (if r ∈ rs then none else c.o r) = some k := h
  split at h'
  · cases h'
  · rename_i hr; exact ⟨hr, h'⟩
theorem Both.stood {w1 W : World} {vw : Bool} {rs : List Nat} {sm : St} {t : List V} {cm : Cx} (h : Both base w0 ks st c w1 vw rs sm t a W cm) : Stood w1 c rs W := h.seen.bel
theorem Sights.same {w1 W : World} {vw : Bool} {rs : List Nat} (h : Sights base w0 ks st c w1 vw rs) (hW : Stood w1 c rs W) {k : Nat} (hk : c.F k ∨ ∃ r, r < c.m ∧ (cxR c rs).o r = some k) : W.heap[k]? = w1.heap[k]? := by
  obtain ⟨a0, hf⟩ := h.full
  refine hW.block k ⟨?_, ?_⟩
  · rcases hk with hk | ⟨r, hr, ho⟩
    · exact hf.lt k hk
    · exact hf.owned_lt hr (cxR_o ho).2
  · rintro ⟨s, hs, ho⟩
    have hsm : s < c.m := by rw [hf.hm]; exact h.lt s hs
    rcases hk with hk | ⟨r, hr, ho'⟩
    · exact hf.nF s k hsm ho hk
    · have := hf.inj s r k hsm hr ho (cxR_o ho').2
      subst this
      exact (cxR_o ho').1 hs
theorem Both.same {w1 W : World} {vw : Bool} {rs : List Nat} {sm : St} {t : List V} {cm : Cx} (h : Both base w0 ks st c w1 vw rs sm t a W cm) {W' : World} (hW : Stood w1 c rs W') {k : Nat} (hk : (cxR c rs).F k ∨ ∃ r, r < (cxR c rs).m ∧ (cxR c rs).o r = some k) : W'.heap[k]? = w1.heap[k]? := h.sg.same hW hk

theorem Both.mask {w1 W : World} {vw : Bool} {rs : List Nat} {sm : St} {t : List V} {cm : Cx} (h : Both base w0 ks st c w1 vw rs sm t a W cm) {v : V} {x : Value} (hv : Rv w1 (cxR c rs) v x) : Rv W cm (v.sub (lookV vw st.h rs) dep) x := by
  obtain ⟨a0, hf⟩ := h.sg.full
  have hfoot : ∀ k, c.F k → footS vw w1 c k := by
    intro k hk
    cases vw with
    | true => exact hf.lt k hk
    | false => exact hk
  refine Rv.sub (c := cxR c rs) (c' := cm) (fun k hk => h.same h.stood (.inl hk)) (fun k hk => h.F k (hfoot k hk)) ?_ dep v x hv
  refine loc_cases ?_ ?_ ?_ ?_
  · intro r x hx
    cases vw with
    | false => exact .dead _ _ _
    | true =>
      have hrs := h.sg.em rfl
      subst hrs
      obtain ⟨hr, rfl, A, n, cap, he⟩ := hx.own_inv
      simp only [lookV, stillV, cond_true, viewV]
      split
      · rename_i wr nl sz n' g hb
        obtain ⟨_, hB⟩ := hf.at hb
        have h1 : Rd w1 (fun k => k < w1.heap.size) (.sl nl sz n' g) (c.ρ r) := row_reads (fun ho => hB.owned_lt ho) hB fun k hk => hf.lt k hk
        exact .im _ _ (h1.mono (fun k hk => h.stood.block k ⟨hk, fun ⟨s, hs, _⟩ => by cases hs⟩) fun k hk => h.F k hk)
      · exact .dead _ _ _
  · intro r o x hx
    simp only [lookV]
    split
    · rename_i hmem
      obtain ⟨hr, b, he, rfl⟩ := hx.ref_inv
      have he : c.ρ r = .pointer (some ⟨b, 0, none⟩) := he
      have hlt := List.idxOf_lt_length_iff.2 hmem
      have pin : c.o r = some b → Rv W cm (.ref (rs.idxOf r) o) (.pointer (some ⟨b, o, none⟩)) := by
        intro ho
        obtain ⟨p1, p2, _⟩ := h.seen.pn (rs.idxOf r) b (by
          show (if rs.idxOf r < rs.length then pinAt c (rs.getD (rs.idxOf r) 0) else none) = some b
          rw [if_pos hlt, getD_lt hlt, List.getElem_idxOf hlt]
          simp only [pinAt, he, ho, if_true])
        exact .ref _ o b p1 p2
      split
      · rename_i cs hb
        obtain ⟨_, hB⟩ := hf.at hb
        cases hB with
        | box _ ty k xs hρ ho =>
          rw [hρ] at he
          simp only [Value.pointer.injEq, Option.some.injEq, Addr.mk.injEq, and_true] at he
          subst he
          exact pin ho
      · rename_i T u hb
        obtain ⟨_, hB⟩ := hf.at hb
        cases hB with
        | sb ty _ k y z hρ ho =>
          rw [hρ] at he
          simp only [Value.pointer.injEq, Option.some.injEq, Addr.mk.injEq, and_true] at he
          subst he
          exact pin ho
      · exact .dead _ _ _
    · exact .dead _ _ _
  · intro r s i o x _; exact .dead _ _ _
  · intro r x _; exact .dead _ _ _
theorem Rel.bare0 (h : Rel base w0 ks st a w c) : Rel (baseF c) w [] ⟨t0 st.t, [], []⟩ { tmps := a.tmps, defers := [] } w (cxF c) := (TF.start h).rel w (Same.refl _ _)

theorem slice_forms {t : TypeId} {x : Operand} {lo hi mx : Option Operand} {r0 : Nat} {ty : TypeId} (h : Rel base w0 ks st a w c) {b : Bool} {v : V} {bs : List B} (hm : evMono P st r0 ty (.slice t x lo hi mx) = some (b, v, bs)) :
    (∃ s, a.eval x = .string s ∧ P.underlying t = some .string) ∨ ∃ A n cap e, a.eval x = .slice A n cap ∧ P.underlying t = some (.slice e) := by
  have hx := h.ev x
  have hm2 := hm
  simp only [evMono] at hm2
  split at hm2
  · rename_i s hu ex
    rw [ex] at hx
    exact .inl ⟨s, hx.str_inv, hu⟩
  · rename_i e nl sz n g hu ex
    rw [ex] at hx
    obtain ⟨A, cap, hxs, _, _⟩ := sl_form hx
    exact .inr ⟨A, n, cap, e, hxs, hu⟩
  · cases hm2

theorem slice3 {t : TypeId} {x : Operand} {lo hi mx : Option Operand} {o : Oper} {q : Nat} {wr nl : Bool} {sz n : Nat} {g : Cells} {r0 : Nat} (h : Rel base w0 ks st a w c) (hop : o.op = .slice t x lo hi mx) (hm : evMono P st r0 o.type (.slice t x lo hi mx) = some (true, .own q, [.row wr nl sz n g])) :
    ∃ y, (∀ W, (execOp a.eval o).run P W = .ok (.value y) W) ∧ Rd w c.F (.sl nl sz n g) y := by
  have hform := slice_forms h hm
  have hx := h.ev x
  simp only [evMono] at hm
  have opnd : ∀ {q : Option Operand} {k : IntKind} {n : Int}, q.map (ev st) = some (.int k n) → q.map a.eval = some (.int k n) := by
    intro q k n hq
    cases q with
    | none => cases hq
    | some y =>
      simp only [Option.map_some, Option.some.injEq] at hq ⊢
      have hy := h.ev y
      rw [hq] at hy
      exact hy.int_inv
  have opnn : ∀ {q : Option Operand}, q.map (ev st) = none → q.map a.eval = none := by
    intro q hq
    cases q with
    | none => rfl
    | some y => cases hq
  split at hm
  · split at hm <;> first | (cases hm; done) | (simp only [Option.some.injEq, Prod.mk.injEq] at hm; cases hm.2.1)
  · rename_i e' nl' sz' n' g' hu ex
    split at hm <;> (try cases hm)
    rename_i hz
    obtain ⟨rfl, hz⟩ := hz
    rw [ex] at hx
    obtain ⟨A, cap, hxs, hcap, hrd⟩ := sl_form hx
    obtain ⟨hue, hel⟩ := elem_of hu
    split at hm
    · cases hm
    · simp only [Option.some.injEq, Prod.mk.injEq] at hm; cases hm.2.1
    · simp only [Option.some.injEq, Prod.mk.injEq] at hm; cases hm.2.1
    · simp only [Option.some.injEq, Prod.mk.injEq] at hm; cases hm.2.1
    · rename_i k u k' m e1 e2 e3
      simp only [Option.some.injEq, Prod.mk.injEq, List.cons.injEq, B.row.injEq, and_true] at hm
      obtain ⟨hb, _, rfl, rfl, rfl, rfl, rfl⟩ := hm
      simp only [Bool.and_eq_true, decide_eq_true_eq] at hb
      obtain ⟨⟨hb1, hb2⟩, rfl⟩ := hb
      have hval : (Instr.slice t (.slice A n' cap) none (some (.int k u)) (some (.int k' u))).run P w = .ok (.slice A u.toNat u.toNat) w := by
        have s1 := run_sliceBound (P := P) w k' u cap .slice3Acap hb1 (by omega)
        have s2 := run_sliceBound (P := P) w k u u.toNat .slice3B hb1 (by omega)
        simp only [Instr.slice, Sem.run_bind, run_underlying hu, Result.andThen_ok, Instr.sliceBounds, Sem.run_pure, if_true]
        rw [s1]
        simp only [Result.andThen_ok]
        rw [s2]
        simp only [Result.andThen_ok, run_sizeT_pos hz, Sem.run_pure, Nat.sub_zero]
        cases A with
        | none => simp
        | some A => simp [Addr.add]
      rw [← opnn e1, ← opnd e2, ← opnd e3] at hval
      have hrun : (execOp a.eval o).run P w = .ok (.value (.slice A u.toNat u.toNat)) w := by
        simp only [execOp, hop, hxs, Sem.run_bind, run_sliceAt_slice w t _ _ _ _ hue, hval, Result.andThen_ok, Sem.run_pure]
      refine ⟨_, run_slice_any hop hform hrun, ?_⟩
      cases hrd with
      | slNil =>
        obtain rfl : u = 0 := by omega
        exact .slNil _ _
      | slE =>
        have hu0 : u.toNat = 0 := by omega
        rw [hu0]
        exact .slE _ _ _ _
      | sl _ _ _ _ q off ys hc hF hsz' hcell hh =>
        exact .sl _ _ _ _ q off ys (Nat.le_refl _) hF (fun i hi => hsz' i (by omega)) (fun i j hi hj => hcell i j (by omega) hj) fun i j v hi hv => hh i j v (by omega) hv
    · cases hm
  · cases hm

theorem im_slice {t : TypeId} {x : Operand} {lo hi mx : Option Operand} {o : Oper} {b : Bool} {v : V} (h : Rel base w0 ks st a w c) (hop : o.op = .slice t x lo hi mx) (hm : imSl (evMono P (⟨t0 st.t, [], []⟩ : St) 0 o.type (.slice t x lo hi mx)) = some (b, v)) (hb : b = true) :
    ∃ y, (∀ W, (execOp a.eval o).run P W = .ok (.value y) W) ∧ Rd w c.F v y := by
  have h0 := h.bare0
  have hex : execOp ({ tmps := a.tmps, defers := [] } : Act).eval o = execOp a.eval o := execOp_eval rfl o
  subst hb
  unfold imSl at hm
  split at hm
  · rename_i b v' he
    simp only [Option.some.injEq, Prod.mk.injEq] at hm
    obtain ⟨rfl, rfl⟩ := hm
    have hform := slice_forms h0 he
    rw [← hop] at he
    obtain ⟨y, w', c', hrun, _, hrv, hw⟩ := evMono_sound h0 he rfl
    obtain ⟨hw1, hw2⟩ := hw rfl
    rw [hw1, hw2] at hrv
    rw [hw1] at hrun
    refine ⟨y, fun W => ?_, rv_rd0 (c := cxF c) rfl hrv⟩
    rw [← hex]
    exact run_slice_any hop hform hrun W
  · rename_i b q wr nl sz n g he
    simp only [Option.some.injEq, Prod.mk.injEq] at hm
    obtain ⟨rfl, rfl⟩ := hm
    obtain ⟨y, h1, h2⟩ := slice3 h0 hop he
    exact ⟨y, fun W => by rw [← hex]; exact h1 W, h2⟩
  · cases hm

theorem Rel.move (h : Rel base w0 ks st a w c) {W : World} (hF : Same c.F w W) (hO : ∀ r k, r < c.m → c.o r = some k → W.heap[k]? = w.heap[k]?) (hb : Keep base.K w0 W) (hsz : w.heap.size ≤ W.heap.size) : Rel base w0 ks st a W c := by
  have up : ∀ {v x}, Rv w c v x → Rv W c v x := fun hv => hv.mono hF (fun _ hk => hk) (Nat.le_refl _) fun _ _ => rfl
  refine ⟨h.len, fun i v x hv hx => up (h.tm i v x hv hx), h.ls, fun i vs xs hv hx => ⟨(h.sv i vs xs hv hx).1, fun j v x hv' hx' => up ((h.sv i vs xs hv hx).2 j v x hv' hx')⟩, h.hm, fun r b hr => ?_, h.inj, h.ge, h.nF, fun k hk => Nat.lt_of_lt_of_le (h.lt k hk) hsz, hb, h.dn, h.bs, h.ff, h.pn⟩
  obtain ⟨hlt, hB⟩ := h.at hr
  exact hB.mono hF (fun _ hk => hk) (Nat.le_refl _) (fun _ _ => rfl) (fun k hk => hO r k hlt hk) hlt rfl
theorem Both.at {w1 W : World} {vw : Bool} {rs : List Nat} {sm : St} {t : List V} {cm : Cx} (h : Both base w0 ks st c w1 vw rs sm t a W cm) {W' : World} (hW : Stood w1 c rs W') {ks' : List (Array Value)} {s' : List (List V)} {a' : Act} (h0 : Rel (restBase base rs) w0 ks' ⟨t, s', hideB rs st.h⟩ a' w1 (cxR c rs)) : Rel (restBase base rs) w0 ks' ⟨t, s', hideB rs st.h⟩ a' W' (cxR c rs) := by
  obtain ⟨a0, hf⟩ := h.sg.full
  refine h0.move (fun k hk => h.same hW (.inl hk)) (fun r k hr ho => h.same hW (.inr ⟨r, hr, ho⟩)) (h0.bel.trans (hW.mono fun k hk => ⟨hf.base_le k hk, ?_⟩)) hW.size
  rintro ⟨s, hs, ho⟩
  exact hf.ge s k (by rw [hf.hm]; exact h.sg.lt s hs) ho hk
theorem run_load_known (h : Rel base w0 ks st a w c) {t : TypeId} {x : Operand} {r0 : Nat} {b : Bool} {v : V} {o : Oper} (hop : o.op = .load t x) (he : evMono P st r0 o.type (.load t x) = some (b, v, [])) (hb : b = true) :
    ∃ y, (∀ W : World, (∀ k, (c.F k ∨ ∃ r, r < c.m ∧ c.o r = some k) → W.heap[k]? = w.heap[k]?) → (execOp a.eval o).run P W = .ok (.value y) W) ∧ Rv w c v y := by
  simp only [evMono] at he
  split at he
  · rename_i hok
    split at he
    · rename_i b' cs hr
      simp only [Option.some.injEq, Prod.mk.injEq] at he
      obtain ⟨rfl, rfl, _⟩ := he
      obtain ⟨k, off, ys, hx, hl, hc, hh⟩ := readAt_sound h hr hb (h.ev x)
      have hkn := readAt_block h hr hb (h.ev x) hx
      have hd : ∃ d, P.underlying t = some d := by
        cases hu : P.underlying t with
        | some d => exact ⟨d, rfl⟩
        | none => simp [okT, hu] at hok
      obtain ⟨d, hd⟩ := hd
      refine ⟨_, fun W hW => ?_, mkV_sound hok hl (fun j hj => (hc j (by omega)).2) hh⟩
      have hcW : ∀ j, j < sizeT P t → W.cell? ⟨k, off + j, none⟩ = some (ys j) := by
        intro j hj
        rw [← (hc j hj).1]
        exact World.cell?_of_block (hW k hkn)
      simp only [execOp, hop, Instr.loadAt, hx, Instr.sureAddr]
      simp [run_loadVar' hd hok hcW]
    · cases he
  · cases he
theorem evFs_sound {w1 : World} {vw : Bool} {rs : List Nat} {o : Oper} {sm : St} {t : List V} {v vF : V} {W : World} {cm : Cx} (h : Both base w0 ks st c w1 vw rs sm t a W cm) (he : evFs P (lookV vw st.h rs) (hideB rs st.h) o sm t = some (true, v, vF)) :
    ∃ x, (∀ W, Stood w1 c rs W → (execOp a.eval o).run P W = .ok (.value x) W) ∧ Rv W cm v x ∧ Rv w1 (cxR c rs) vF x := by
  have h0 : Rel (restBase base rs) w0 [] ⟨t, [], hideB rs st.h⟩ a w1 (cxR c rs) := ⟨h.all.len, h.all.tm, rfl, fun i vs ys hv => by simp at hv, h.all.hm, h.all.hp, h.all.inj, h.all.ge, h.all.nF, h.all.lt, h.all.bel, h.all.dn, h.all.bs, h.all.ff, h.all.pn⟩
  have anyW : ∀ {v : V}, (∃ y, (∀ W, (execOp a.eval o).run P W = .ok (.value y) W) ∧ Rv w1 (cxR c rs) v y) → ∃ x, (∀ W, Stood w1 c rs W → (execOp a.eval o).run P W = .ok (.value x) W) ∧ Rv W cm (V.sub (lookV vw st.h rs) dep v) x ∧ Rv w1 (cxR c rs) v x :=
    fun ⟨y, h1, h2⟩ => ⟨y, fun W _ => h1 W, h.mask h2, h2⟩
  have scal : evFs P (lookV vw st.h rs) (hideB rs st.h) o sm t = (match evMono P ⟨t, [], hideB rs st.h⟩ (hideB rs st.h).length o.type o.op with | some (b, v, []) => if scalarV dep v then some (b, v, v) else none | _ => none) →
      ∃ x, (∀ W, Stood w1 c rs W → (execOp a.eval o).run P W = .ok (.value x) W) ∧ Rv W cm v x ∧ Rv w1 (cxR c rs) vF x := by
    intro hsc
    rw [hsc] at he
    split at he <;> (try cases he)
    rename_i b u hm
    split at he <;> (try cases he)
    rename_i hs
    have hm' : evMono P (⟨t, [], hideB rs st.h⟩ : St) (⟨t, [], hideB rs st.h⟩ : St).h.length o.type o.op = some (true, v, []) := hm
    obtain ⟨x, w', c', hrun, hrel, hrv, hw⟩ := evMono_sound h0 hm' rfl
    obtain ⟨hwa, hwb⟩ := hw rfl
    rw [hwa, hwb] at hrv
    rw [hwa] at hrun
    refine ⟨x, fun W hW => ?_, .im _ _ (scalar_rd dep _ hs hrv).1, hrv⟩
    obtain ⟨y, w2, c2, hrun2, _, hrv2, hw2⟩ := evMono_sound (h.at hW h0) hm' rfl
    obtain ⟨hw2a, hw2b⟩ := hw2 rfl
    rw [hw2a, hw2b] at hrv2
    rw [hw2a] at hrun2
    rw [(scalar_rd dep _ hs (w' := W) (F := fun _ => True) hrv).2 hrv2] at hrun2
    exact hrun2
  cases hop : o.op with
  | move x =>
    simp only [evFs, hop, Option.some.injEq, Prod.mk.injEq, true_and] at he
    obtain ⟨rfl, rfl⟩ := he
    exact ⟨a.eval x, fun W _ => by simp [execOp, hop], h.seen.evT _ x, h0.evT _ x⟩
  | assign x =>
    simp only [evFs, hop, Option.some.injEq, Prod.mk.injEq, true_and] at he
    obtain ⟨rfl, rfl⟩ := he
    exact ⟨a.eval x, fun W _ => by simp [execOp, hop], h.seen.evT _ x, h0.evT _ x⟩
  | pick oc ox oy =>
    simp only [evFs, hop] at he
    have hc := h0.ev oc
    have hx := h0.ev ox
    have hy := h0.ev oy
    split at he
    rotate_left
    · split at he <;> (try cases he)
      rename_i t et
      rw [et] at hc
      have hc := hc.bool_inv
      have hrun : ∀ W, (execOp a.eval o).run P W = .ok (.value (if t then a.eval ox else a.eval oy)) W := fun W => by simp [execOp, hop, hc, asBool]
      cases t with
      | true => simp only [cond_true, Option.some.injEq, Prod.mk.injEq, true_and] at he; obtain ⟨rfl, rfl⟩ := he; exact ⟨_, fun W _ => hrun W, h.seen.ev ox, hx⟩
      | false => simp only [cond_false, Option.some.injEq, Prod.mk.injEq, true_and] at he; obtain ⟨rfl, rfl⟩ := he; exact ⟨_, fun W _ => hrun W, h.seen.ev oy, hy⟩
    rename_i u hu
    simp only [Option.some.injEq, Prod.mk.injEq, true_and] at he
    obtain ⟨rfl, rfl⟩ := he
    unfold pickV at hu
    split at hu
    · rename_i t x y e1 e2 e3
      cases hu
      rw [e1] at hc; rw [e2] at hx; rw [e3] at hy
      have hc := hc.bool_inv; have hx := hx.bool_inv; have hy := hy.bool_inv
      refine ⟨.bool (cond t x y), fun W _ => ?_, .im _ _ (.bool _), .im _ _ (.bool _)⟩
      cases t <;> simp [execOp, hop, hc, hx, hy, asBool]
    · rename_i t k x k' y e1 e2 e3
      split at hu <;> (try cases hu)
      rename_i e
      subst e
      rw [e1] at hc; rw [e2] at hx; rw [e3] at hy
      have hc := hc.bool_inv; have hx := hx.int_inv; have hy := hy.int_inv
      refine ⟨.int k (cond t x y), fun W _ => ?_, .im _ _ (.int _ _), .im _ _ (.int _ _)⟩
      cases t <;> simp [execOp, hop, hc, hx, hy, asBool]
    · cases hu
  | fieldAddr t x f =>
    simp only [evFs, hop] at he
    split at he
    · rename_i hm
      cases he
      exact anyW (run_fieldAddr h0 hop hm)
    · split at he <;> (try cases he)
      rename_i hm
      obtain ⟨y, h1, h2⟩ := run_fieldAddr h.seen hop hm
      exact ⟨y, fun W _ => h1 W, h2, .dead _ _ _⟩
  | indexAddr t x i =>
    simp only [evFs, hop] at he
    split at he
    · rename_i hm
      cases he
      exact anyW (run_indexAddr h0 hop hm rfl)
    · split at he <;> (try cases he)
      rename_i hm
      obtain ⟨y, h1, h2⟩ := run_indexAddr h.seen hop hm rfl
      exact ⟨y, fun W _ => h1 W, h2, .dead _ _ _⟩
  | extract x j =>
    simp only [evFs, hop] at he
    split at he
    · rename_i hm
      cases he
      exact anyW (run_extract h0 hop hm)
    · split at he <;> (try cases he)
      rename_i hm
      obtain ⟨y, h1, h2⟩ := run_extract h.seen hop hm
      exact ⟨y, fun W _ => h1 W, h2, .dead _ _ _⟩
  | nilCheck x =>
    simp only [evFs, hop] at he
    split at he
    · rename_i hm
      cases he
      exact anyW (run_nilCheck h0 hop hm)
    · split at he <;> (try cases he)
      rename_i hm
      obtain ⟨y, h1, h2⟩ := run_nilCheck h.seen hop hm
      exact ⟨y, fun W _ => h1 W, h2, .dead _ _ _⟩
  | build t' ps =>
    simp only [evFs, hop] at he
    split at he
    · rename_i b v0 hm1
      obtain ⟨y, hy1, hy2⟩ := (run_build h.seen hop hm1).2
      split at he
      · rename_i b' v1 hm2
        simp only [Option.some.injEq, Prod.mk.injEq] at he
        obtain ⟨_, rfl, rfl⟩ := he
        obtain ⟨z, hz1, hz2⟩ := (run_build h0 hop hm2).2
        have : y = z := by
          have := hy1 W
          rw [hz1 W] at this
          simp only [Result.ok.injEq, Next.value.injEq, and_true] at this
          exact this.symm
        subst this
        exact ⟨y, fun W _ => hy1 W, hy2, hz2⟩
      · simp only [Option.some.injEq, Prod.mk.injEq] at he
        obtain ⟨_, rfl, rfl⟩ := he
        exact ⟨y, fun W _ => hy1 W, hy2, .dead _ _ _⟩
    · split at he <;> (try cases he)
      rename_i hm
      exact anyW (run_build h0 hop hm).2
  | load t x =>
    simp only [evFs, hop] at he
    split at he <;> (try cases he)
    rename_i hm
    obtain ⟨y, h1, h2⟩ := run_load_known h0 hop hm rfl
    exact ⟨y, fun W hW => h1 W (fun k hk => h.same hW hk), h.mask h2, h2⟩
  | slice t' x lo hi mx =>
    have hcase : (∃ r, (match evMono P ⟨t, [], hideB rs st.h⟩ (hideB rs st.h).length o.type o.op with | some (b, v, []) => if scalarV dep v then some (b, v, v) else none | _ => none) = some r ∧ evFs P (lookV vw st.h rs) (hideB rs st.h) o sm t = (match evMono P ⟨t, [], hideB rs st.h⟩ (hideB rs st.h).length o.type o.op with | some (b, v, []) => if scalarV dep v then some (b, v, v) else none | _ => none)) ∨
        evFs P (lookV vw st.h rs) (hideB rs st.h) o sm t = (match imSl (evMono P (⟨t0 sm.t, [], []⟩ : St) 0 o.type (.slice t' x lo hi mx)) with
          | some (b, v) => (match imSl (evMono P (⟨t0 t, [], []⟩ : St) 0 o.type (.slice t' x lo hi mx)) with | some (b', v') => some (b && b', v, v') | none => some (b, v, .dead))
          | none => none) := by
      have h1 : evFs P (lookV vw st.h rs) (hideB rs st.h) o sm t = (match (match evMono P ⟨t, [], hideB rs st.h⟩ (hideB rs st.h).length o.type o.op with | some (b, v, []) => if scalarV dep v then some (b, v, v) else none | _ => none) with
        | some r => some r
        | none => (match imSl (evMono P (⟨t0 sm.t, [], []⟩ : St) 0 o.type (.slice t' x lo hi mx)) with
          | some (b, v) => (match imSl (evMono P (⟨t0 t, [], []⟩ : St) 0 o.type (.slice t' x lo hi mx)) with | some (b', v') => some (b && b', v, v') | none => some (b, v, .dead))
          | none => none)) := by simp only [evFs, hop]; rfl
      cases e : (match evMono P ⟨t, [], hideB rs st.h⟩ (hideB rs st.h).length o.type o.op with | some (b, v, []) => if scalarV dep v then some (b, v, v) else none | _ => none) with
      | some r => exact .inl ⟨r, rfl, by rw [h1, e]⟩
      | none => rw [e] at h1; exact .inr h1
    rcases hcase with ⟨r, _, hsc⟩ | hsc
    · exact scal hsc
    · rw [hsc] at he
      split at he <;> (try cases he)
      rename_i b v0 hm1
      split at he
      · rename_i b' v1 hm2
        simp only [Option.some.injEq, Prod.mk.injEq, Bool.and_eq_true] at he
        obtain ⟨⟨hb1, hb2⟩, rfl, rfl⟩ := he
        obtain ⟨y, hy1, hy2⟩ := im_slice h.seen hop hm1 hb1
        obtain ⟨z, hz1, hz2⟩ := im_slice h0 hop hm2 hb2
        have : y = z := by
          have := hy1 W
          rw [hz1 W] at this
          simp only [Result.ok.injEq, Next.value.injEq, and_true] at this
          exact this.symm
        subst this
        exact ⟨y, fun W _ => hy1 W, .im _ _ hy2, .im _ _ hz2⟩
      · simp only [Option.some.injEq, Prod.mk.injEq] at he
        obtain ⟨hb1, rfl, rfl⟩ := he
        obtain ⟨y, hy1, hy2⟩ := im_slice h.seen hop hm1 hb1
        exact ⟨y, fun W _ => hy1 W, .im _ _ hy2, .dead _ _ _⟩
  | _ => exact scal (by simp only [evFs, hop]; rfl)

theorem footS_K {w1 : World} {vw : Bool} {rs : List Nat} (h : Sights base w0 ks st c w1 vw rs) {k : Nat} (hk : footS vw w1 c k) : k < w1.heap.size ∧ ¬ Live c rs k := by
  obtain ⟨a0, hf⟩ := h.full
  cases vw with
  | true => exact ⟨hk, by rw [h.em rfl]; rintro ⟨s, hs, _⟩; cases hs⟩
  | false => exact ⟨hf.lt k hk, fun ⟨s, hs, ho⟩ => hf.nF s k (by rw [hf.hm]; exact h.lt s hs) ho hk⟩
/-- More is written no more. -/
theorem Rel.widen {vw : Bool} {rs : List Nat} {w1 W : World} (h0 : Sights base w0 ks st c w1 vw rs) {sm : St} {cm : Cx} (h : Rel (baseS vw w1 c rs) w1 [] sm a W cm) : ∃ c', Rel (baseS vw w1 c rs) w1 [] sm a W c' ∧ (∀ k, footS vw w1 c k → c'.F k) := by
  let c' : Cx := { cm with F := fun k => cm.F k ∨ footS vw w1 c k }
  have hF : ∀ k, cm.F k → c'.F k := fun k hk => .inl hk
  have up : ∀ {v x}, Rv W cm v x → Rv W c' v x := fun hv => hv.mono (Same.refl _ _) hF (Nat.le_refl _) fun _ _ => rfl
  refine ⟨c', ⟨h.len, fun i v x hv hx => up (h.tm i v x hv hx), h.ls, fun i vs xs hv hx => ⟨(h.sv i vs xs hv hx).1, fun j v x hv' hx' => up ((h.sv i vs xs hv hx).2 j v x hv' hx')⟩, h.hm, fun r b hb => (h.hp r b hb).mono (Same.refl _ _) hF (Nat.le_refl _) (fun _ _ => rfl) (fun _ _ => rfl) (h.at hb).1 rfl, h.inj, h.ge, fun r k hr ho hk => ?_, fun k hk => ?_, h.bel, h.dn, h.bs, fun k hk => ?_, h.pn⟩, fun k hk => .inr hk⟩
  · rcases hk with hk | hk
    · exact h.nF r k hr ho hk
    · exact h.ge r k hr ho (footS_K h0 hk)
  · rcases hk with hk | hk
    · exact h.lt k hk
    · exact Nat.lt_of_lt_of_le (footS_K h0 hk).1 h.bel.size
  · rcases hk with hk | hk
    · exact h.ff k hk
    · exact .inl hk

theorem Rel.setD' {w1 : World} {t : List V} {s : List (List V)} {hh : List B} {c : Cx} (h : Rel base w0 ks ⟨t, s, hh⟩ a w1 c) (d : Option Tmp) {v : V} {x : Value} (hv : Rv w1 c v x) : Rel base w0 ks ⟨Go.Rv.setD t d v, s, hh⟩ (a.put d x) w1 c := by
  have := h.put d hv
  cases d <;> exact this
theorem Both.put {w1 : World} {vw : Bool} {rs : List Nat} {sm : St} {t : List V} {W : World} {cm : Cx} (h : Both base w0 ks st c w1 vw rs sm t a W cm) (d : Option Tmp) {v vF : V} {x : Value} (hv : Rv W cm v x) (hF : Rv w1 (cxR c rs) vF x) : Both base w0 ks st c w1 vw rs (sm.put d v) (Go.Rv.setD t d vF) (a.put d x) W cm := by
  refine ⟨h.sg, ?_, h.seen.put d hv, h.F⟩
  have := h.all.put d hF
  cases d <;> exact this
theorem Both.know {w1 : World} {vw : Bool} {rs : List Nat} {sm : St} {t : List V} {W : World} {cm : Cx} (h : Both base w0 ks st c w1 vw rs sm t a W cm) {d : Tmp} {b : Bool} (hd : a.tmps[d]? = some (.bool b)) : Both base w0 ks st c w1 vw rs (sm.put (some d) (.bool b)) (t.set d (.bool b)) a W cm :=
  ⟨h.sg, h.all.know hd, h.seen.know hd, h.F⟩

/-! ### New variables that come up early -/
/-- What is asked of an operation that makes a new place. -/
theorem lzD_spec {ops : Array Oper} {z : Nat} {d : Tmp} (h : lzD P ops z = some d) : ∃ o, ops[z]? = some o ∧ o.guard = none ∧ ((∃ e, o.op = .alloc e ∧ isSB P e = false) ∨ ∃ t n ps, o.op = .buildSlice t n ps) ∧ o.dst = some d := by
  unfold lzD at h
  split at h <;> (try cases h)
  rename_i o hi
  split at h <;> (try cases h)
  · rename_i e hg hop
    split at h <;> (try cases h)
    rename_i hsb
    exact ⟨o, hi, hg, .inl ⟨e, hop, by simpa using hsb⟩, h⟩
  · rename_i hg hop
    exact ⟨o, hi, hg, .inr ⟨_, _, _, hop⟩, h⟩
def ptrOf (q : Option Nat) (k : Nat) : Value := match q with | none => .pointer (some ⟨k, 0, none⟩) | some n => .slice (some ⟨k, 0, none⟩) n n
/-- What an operation makes, in whatever world. -/
def Makes (P : Program) (o : Oper) (a : Act) (q : Option Nat) (obj : Obj) : Prop := ∀ W : World, (execOp a.eval o).run P W = .ok (.value (ptrOf q W.heap.size)) (W.alloc obj)
theorem Makes.uniq {o : Oper} {q q' : Option Nat} {x x' : Obj} (h : Makes P o a q x) (h' : Makes P o a q' x') (W : World) : q = q' ∧ x = x' := by
  have e := h W
  rw [h' W] at e
  simp only [Result.ok.injEq, Next.value.injEq] at e
  obtain ⟨e1, e2⟩ := e
  refine ⟨?_, ?_⟩
  · cases q <;> cases q' <;> simp_all [ptrOf]
  · have h1 := heap_new W x
    rw [← e2, heap_new] at h1
    exact (Option.some.inj h1).symm
theorem Makes.put {ops : Array Oper} {o : Oper} {q : Option Nat} {x : Obj} (h : Makes P o a q x) (hs : ∀ cs b, o.op ≠ .select cs b) (dst : Option Tmp) (v : Value) (hd : ∀ d, dst = some d → d ∉ o.looksAt ops) : Makes P o (a.put dst v) q x := by
  intro W
  rw [execOp_put o hs a dst v hd]
  exact h W
theorem lazy_dead {o : Oper} (hl : (∃ e, o.op = .alloc e ∧ isSB P e = false) ∨ ∃ t n ps, o.op = .buildSlice t n ps) {st : St} {r0 : Nat} {b : Bool} {v : V} {bs : List B} (he : evMono P st r0 o.type o.op = some (b, v, bs)) : (∃ r, v = .ref r 0) ∨ ∃ r, v = .own r := by
  rcases hl with ⟨e, hop, hsb⟩ | ⟨t, n, parts, hop⟩
  · rw [hop] at he
    simp only [evMono, hsb, Bool.false_eq_true, if_false] at he
    split at he <;> (try cases he)
    exact .inl ⟨_, rfl⟩
  · rw [hop] at he
    simp only [evMono] at he
    split at he <;> (try cases he)
    split at he <;> (try cases he)
    split at he
    · simp only [Option.some.injEq, Prod.mk.injEq] at he
      exact .inr ⟨_, he.2.1.symm⟩
    · split at he <;> (try cases he)
      exact .inr ⟨_, rfl⟩
/-- What it makes, and where it lies. -/
theorem lazy_new (h : Rel base w0 ks st a w c) {o : Oper} (hl : (∃ e, o.op = .alloc e ∧ isSB P e = false) ∨ ∃ t n ps, o.op = .buildSlice t n ps) {b : Bool} {v : V} {bs : List B} (he : evMono P st st.h.length o.type o.op = some (b, v, bs)) :
    ∃ q obj b0, b = true ∧ bs = [b0] ∧ Makes P o a q obj ∧ ∀ kk, w.heap[kk]? = some obj → BR w (c.push (ptrOf q kk) (some kk)) c.m b0 ∧ Rv w (c.push (ptrOf q kk) (some kk)) v (ptrOf q kk) := by
  have upv : ∀ {u : V} {x y : Value} {r : Option Nat}, Rv w c u x → Rv w (c.push y r) u x := fun hv => hv.mono (Same.refl _ _) (fun _ hk => hk) (by simp [Cx.push]) fun r hr => by simp [Cx.push]; omega
  rcases hl with ⟨e, hop, hsb⟩ | ⟨t, n, parts, hop⟩
  · rw [hop] at he
    simp only [evMono, hsb, Bool.false_eq_true, if_false] at he
    split at he <;> (try cases he)
    rename_i hz
    obtain ⟨z, hz1, hz2, hz3, hz4⟩ := zeroT_sound hz.1 hz.2 w c
    refine ⟨none, .cells z.cells e, _, rfl, rfl, fun W => by simp [execOp, hop, Instr.alloc, hz1, newVar, newRow, ptrOf], fun kk hk => ⟨?_, ?_⟩⟩
    · exact .box _ e kk z.cells (by simp [Cx.push, ptrOf]) (by simp [Cx.push]) hk (by rw [hz2]; exact hz.2) hz3 fun i u y hu hy => .im _ _ (hz4 i u y hu hy)
    · rw [← h.hm]
      exact .ref c.m 0 kk (by simp [Cx.push]) (by simp [Cx.push, ptrOf])
  · rw [hop] at he
    simp only [evMono] at he
    split at he <;> (try cases he)
    rename_i e' hu
    split at he <;> (try cases he)
    rename_i hz
    obtain ⟨hz0, hz1, hz2, hz3⟩ := hz
    obtain ⟨z, hzr, hzs, hzo, _⟩ := zeroT_sound hz0 hz2 w c
    have hlen : parts.toList.length = n := by have := congrArg List.length hz3; simpa using this
    have hn0 : ¬ (n * sizeT P e' > 2 ^ 24) := by omega
    have hone : ∀ (i : Nat) y, ((Array.range (n * sizeT P e')).map (z.cells[· % z.cells.size]!))[i]? = some y → one y := by
      intro i y hy
      simp only [Array.getElem?_map] at hy
      cases hj : (Array.range (n * sizeT P e'))[i]? with
      | none => rw [hj] at hy; cases hy
      | some j =>
        rw [hj] at hy
        simp only [Option.map_some, Option.some.injEq] at hy
        subst hy
        have hlt : j % z.cells.size < z.cells.size := Nat.mod_lt _ (by omega)
        rw [getElem!_pos z.cells (j % z.cells.size) hlt]
        exact hzo _ _ (Array.getElem?_eq_getElem hlt)
    have hparts : ∀ (i : Nat) u q, (parts.toList.map fun p => evT P st e' p.2)[i]? = some u → (parts.map fun p => (p.1, a.eval p.2)).toList[i]? = some q → Rv w c u q.2 := by
      intro i u q hu hq
      obtain ⟨p, hp, rfl⟩ := getElem?_map_some hu
      have hp' : parts[i]? = some p := by simpa using hp
      simp only [Array.toList_map, List.getElem?_map, Array.getElem?_toList, hp', Option.map_some, Option.some.injEq] at hq
      subst hq
      exact h.evT _ p.2
    have hmk : ∀ ys : Array Value, Instr.fill (fun i => some (i * sizeT P e', sizeT P e')) ((Array.range (n * sizeT P e')).map (z.cells[· % z.cells.size]!)) (parts.map fun p => (p.1, a.eval p.2)).toList = some ys → Makes P o a (some n) (.cells ys e') := by
      intro ys e1 W
      by_cases hn : n * sizeT P e' = 0
      · have hya : (Array.range (n * sizeT P e')).map (z.cells[· % z.cells.size]!) = (Array.range (n * sizeT P e')).map ((#[] : Array Value)[· % (#[] : Array Value).size]!) := by
          rw [hn]; simp
        rw [hya] at e1
        simp only [execOp, hop, Instr.buildSlice, Sem.run_bind, run_underlying hu, Result.andThen_ok, run_sizeT_pos hz0, Sem.run_ite, if_neg hn0, if_pos hn, Sem.run_pure, e1, newRow, run_newObj, World.alloc_eq, ptrOf]
      · simp only [execOp, hop, Instr.buildSlice, Sem.run_bind, run_underlying hu, Result.andThen_ok, run_sizeT_pos hz0, Sem.run_ite, if_neg hn0, if_neg hn, hzr, Sem.run_pure, e1, newRow, run_newObj, World.alloc_eq, ptrOf]
    have hown : ∀ kk, Rv w (c.push (ptrOf (some n) kk) (some kk)) (.own st.h.length) (ptrOf (some n) kk) := by
      intro kk
      rw [← h.hm]
      exact .own c.m (by simp [Cx.push]) _ _ _ (by simp [Cx.push, ptrOf])
    split at he
    · rename_i l hl
      simp only [Option.some.injEq, Prod.mk.injEq] at he
      obtain ⟨rfl, rfl, rfl⟩ := he
      obtain ⟨ys, e1, e2, e3, e4, e5, e6, _⟩ := fill_row (w := w) (c := c) hz0 (parts.toList.map fun p => evT P st e' p.2) (parts.map fun p => (p.1, a.eval p.2)).toList l 0
        ((Array.range (n * sizeT P e')).map (z.cells[· % z.cells.size]!)) hl
        (by simp only [Array.toList_map, List.map_map, List.length_map, hlen]; rw [← List.range_eq_range', ← hz3]; simp) (by simp) hparts
        (by simp only [List.length_map, hlen, Array.size_map, Array.size_range, Nat.zero_add]; omega) hone
      simp only [List.length_map, hlen] at e4
      refine ⟨some n, .cells ys e', _, rfl, rfl, hmk ys e1, fun kk hk => ⟨?_, hown kk⟩⟩
      refine .row true _ n n (Cells.ofL (tyT P 8 e') l) e' kk ys (0, 0) hz0 (by simp [Cx.push, ptrOf]) (by simp [Cx.push]) hk (fun j _ => by omega) (by rw [e2]; simp) (Nat.le_refl _) e3 (fun i hi => ?_) (fun i j u hi hu => ?_)
      · rw [Cells.ofL_fn _ _ _ (by omega)]
        rw [List.getD_eq_getElem?_getD, List.getElem?_eq_getElem (by omega : i < l.length)]
        exact e5 i _ (List.getElem?_eq_getElem (by omega))
      · rw [Cells.ofL_fn _ _ _ (by omega)] at hu
        rw [List.getD_eq_getElem?_getD, List.getElem?_eq_getElem (by omega : i < l.length)] at hu
        have := e6 i j _ u (List.getElem?_eq_getElem (by omega)) hu
        rwa [Nat.zero_add] at this
    · split at he <;> (try cases he)
      rename_i cs hcs
      obtain ⟨ys, e1, e2, e3, e4, e6, _⟩ := fill_lit (w := w) (c := c) hz0 (parts.toList.map fun p => evT P st e' p.2) (parts.map fun p => (p.1, a.eval p.2)).toList cs 0
        ((Array.range (n * sizeT P e')).map (z.cells[· % z.cells.size]!)) hcs
        (by simp only [Array.toList_map, List.map_map, List.length_map, hlen]; rw [← List.range_eq_range', ← hz3]; simp) (by simp) hparts
        (by simp only [List.length_map, hlen, Array.size_map, Array.size_range, Nat.zero_add]; omega) hone
      simp only [List.length_map, hlen] at e4
      have hys : ys.size = n * sizeT P e' := by rw [e2]; simp
      refine ⟨some n, .cells ys e', _, rfl, rfl, hmk ys e1, fun kk hk => ⟨?_, hown kk⟩⟩
      exact .lit _ n cs e' kk ys hz0 (by simp [Cx.push, ptrOf]) (by simp [Cx.push]) hk (by rw [e4, hys]) hys e3 fun i u y hu hy => upv (e6 i u y hu (by simpa using hy))
theorem lz_notSel {o : Oper} (h : (∃ e, o.op = .alloc e ∧ isSB P e = false) ∨ ∃ t n ps, o.op = .buildSlice t n ps) : ∀ cs b, o.op ≠ .select cs b := by
  rcases h with ⟨e, h, _⟩ | ⟨t, n, ps, h⟩ <;> rw [h] <;> intro cs b h' <;> cases h'
/-- What came up early. -/
structure Ahead (P : Program) (ops : Array Oper) (listed lm : Array Bool) (E : List (Nat × Nat)) (a : Act) (W : World) : Prop where
  lm : ∀ i d, lm.getD i d = if i ∈ E.map Prod.fst then true else listed.getD i d
  each : ∀ z k, (z, k) ∈ E → ∃ d, lzD P ops z = some d ∧ listed.getD z true = false ∧ z ∈ Region.ready .any ops listed ∧ (∃ q obj, (∀ x, a.tmps[d]? = some x → x = ptrOf q k) ∧ W.heap[k]? = some obj ∧ ∀ o, ops[z]? = some o → Makes P o a q obj) ∧
    ∀ o, ops[z]? = some o → ∀ j oj, ops[j]? = some oj → j ≠ z → listed.getD j true = false → (∀ e ∈ oj.after, Region.binds .any e = true → e.on ≠ z) → o.apart ops oj = true
  nd : (E.map Prod.snd).Nodup
  nf : (E.map Prod.fst).Nodup
theorem Ahead.nil (P : Program) (ops : Array Oper) (listed : Array Bool) (a : Act) (W : World) : Ahead P ops listed listed [] a W :=
  ⟨fun i d => (by simp), fun z k h => (by cases h), (by simp), (by simp)⟩

def cnt (l : Array Bool) : Nat := l.toList.countP (fun b => !b)
theorem countP_set : ∀ (l : List Bool) (i : Nat), l[i]? = some false → (l.set i true).countP (fun b => !b) + 1 = l.countP (fun b => !b) := by
  intro l
  induction l with
  | nil => intro i h; simp at h
  | cons b l ih =>
    intro i h
    cases i with
    | zero => simp at h; subst h; simp
    | succ i =>
      have h' : l[i]? = some false := by simpa using h
      have := ih i h'
      simp only [List.set_cons_succ, List.countP_cons]
      omega
theorem getD_false {l : Array Bool} {i : Nat} (h : l.getD i true = false) : l.toList[i]? = some false := by
  rcases Nat.lt_or_ge i l.size with hlt | hge
  · rw [Array.getElem?_toList, Array.getElem?_eq_getElem hlt]
    simpa [Array.getD, hlt] using h
  · simp [Array.getElem?_eq_none hge] at h
theorem cnt_set {l : Array Bool} {i : Nat} (h : l.getD i true = false) : cnt (l.setIfInBounds i true) + 1 = cnt l := by
  unfold cnt
  rw [Array.toList_setIfInBounds]
  exact countP_set _ _ (getD_false h)
theorem cnt_rep (n : Nat) : cnt (Array.replicate n false) ≤ n := by
  unfold cnt
  exact Nat.le_trans (List.countP_le_length) (by simp)
theorem getD_set_self {l : Array Bool} {i : Nat} (h : l.getD i true = false) (d : Bool) : (l.setIfInBounds i true).getD i d = true := by
  have hlt : i < l.size := by
    rcases Nat.lt_or_ge i l.size with h' | h'
    · exact h'
    · simp [Array.getElem?_eq_none h'] at h
  simp [hlt]

theorem Ahead.ready {ops : Array Oper} {listed lm : Array Bool} {E : List (Nat × Nat)} {W : World} (h : Ahead P ops listed lm E a W) {j : Nat} (hj : j ∈ Region.ready .any ops listed) (hn : j ∉ E.map Prod.fst) : j ∈ Region.ready .any ops lm := by
  rw [mem_ready] at *
  obtain ⟨h0, o, ho, hall⟩ := hj
  refine ⟨by rw [h.lm, if_neg hn]; exact h0, o, ho, fun e he hb => ?_⟩
  rw [h.lm]
  split
  · rfl
  · exact hall e he hb
theorem Ahead.free {ops : Array Oper} {listed lm : Array Bool} {E : List (Nat × Nat)} {W : World} (h : Ahead P ops listed lm E a W) {i : Nat} (hf : Region.free .any ops listed i = true) : Region.free .any ops lm i = true := by
  cases ho : ops[i]? with
  | none => simp only [Region.free, ho] at hf; cases hf
  | some o =>
    simp only [Region.free, ho, List.all_eq_true] at hf ⊢
    intro j hj
    have h1 := hf j hj
    cases hoj : ops[j]? with
    | none => simp only [hoj, Bool.or_true]
    | some oj =>
      simp only [hoj, Bool.or_eq_true] at h1 ⊢
      rcases h1 with (h1 | h1) | h1
      · exact .inl (.inl h1)
      · refine .inl (.inr ?_)
        rw [h.lm]
        split
        · rfl
        · exact h1
      · exact .inr h1
/-- One more is told. -/
theorem Ahead.step {ops : Array Oper} {listed lm : Array Bool} {E : List (Nat × Nat)} {W W' : World} (h : Ahead P ops listed lm E a W) {i : Nat} (hi : i ∈ Region.ready .any ops listed) (hn : i ∉ E.map Prod.fst) {o : Oper} (ho : ops[i]? = some o) (x : Value)
    (hW : ∀ z k, (z, k) ∈ E → W'.heap[k]? = W.heap[k]?) : Ahead P ops (listed.setIfInBounds i true) (lm.setIfInBounds i true) E (a.put o.dst x) W' := by
  have hun := (mem_ready.1 hi).1
  have hlm : lm.getD i true = false := by rw [h.lm, if_neg hn]; exact hun
  refine ⟨fun j d => ?_, fun z k hz => ?_, h.nd, h.nf⟩
  · by_cases hij : i = j
    · subst hij
      rw [getD_set_self hlm, getD_set_self hun]
      simp
    · rw [getD_set_ne d hij, getD_set_ne d hij, h.lm]
  · obtain ⟨d, h1, h2, h3, ⟨q, obj, h4, h5, h5'⟩, h6⟩ := h.each z k hz
    have hiz : i ≠ z := fun e => hn (e ▸ List.mem_map_of_mem (f := Prod.fst) hz)
    obtain ⟨oz, hoz, _, hcl, hd⟩ := lzD_spec h1
    have hap := h6 oz hoz i o ho hiz hun fun e he hb heq => by
      obtain ⟨_, o2, ho2, hall⟩ := mem_ready.1 hi
      rw [ho] at ho2
      cases ho2
      have := hall e he hb
      rw [heq] at this
      have h2' := getD_false h2
      rcases Nat.lt_or_ge z listed.size with hlt | hge
      · simp [hlt] at this h2
        rw [h2] at this; cases this
      · simp [Array.getElem?_eq_none hge] at h2
    refine ⟨d, h1, by rw [getD_set_ne true hiz]; exact h2, ready_mono h3 (Ne.symm hiz), ⟨q, obj, fun y hy => ?_, (hW z k hz).trans h5, fun o' ho' => ?_⟩, fun o' ho' j oj hj hjz hjun hno => ?_⟩
    · refine h4 y ?_
      cases hdo : o.dst with
      | none => rw [hdo] at hy; exact hy
      | some dd =>
        rw [hdo] at hy
        have hne : dd ≠ d := fun e => by
          subst e
          exact (Oper.apart_spec hap).2.1 dd hd hdo
        have : (a.put (some dd) x).tmps[d]? = a.tmps[d]? := by
          show (a.tmps.setIfInBounds dd x)[d]? = _
          rw [Array.getElem?_setIfInBounds_ne hne]
        rw [← this]; exact hy
    · rw [hoz] at ho'
      cases ho'
      refine (h5' oz hoz).put (ops := ops) (lz_notSel hcl) o.dst x fun d hd => (Oper.apart_spec hap).2.2 d hd
    · refine h6 o' ho' j oj hj hjz ?_ hno
      by_cases hij : i = j
      · subst hij; exact hun
      · rw [getD_set_ne true hij] at hjun; exact hjun

/-- The base, with what came up early. -/
def baseE (b : Base) (E : List (Nat × Nat)) : Base := ⟨fun k => b.K k ∨ k ∈ E.map Prod.snd, b.F, b.pin⟩
theorem Rel.rebase {base' : Base} {w0' : World} (h : Rel base w0 ks st a w c) (hK : ∀ k, base'.K k → base.K k) (hF : base'.F = base.F) (hp : base'.pin = base.pin) (hb : Keep base'.K w0' w0) (hs : BsOK base' w0') : Rel base' w0' ks st a w c :=
  ⟨h.len, h.tm, h.ls, h.sv, h.hm, h.hp, h.inj, fun r k hr ho hk => h.ge r k hr ho (hK k hk), h.nF, h.lt, hb.trans (h.bel.mono hK), h.dn, hs, fun k hk => (h.ff k hk).elim (fun hf => .inl (hF ▸ hf)) fun hn => .inr fun hk' => hn (hK k hk'), fun j k hj => h.pn j k (hp ▸ hj)⟩
theorem Rel.early (h : Rel base w0 ks st a w c) (o : Obj) : Rel ⟨fun k => base.K k ∨ k = w.heap.size, base.F, base.pin⟩ (w.alloc o) ks st a (w.alloc o) c := by
  have hsz : w.heap.size < (w.alloc o).heap.size := by simp
  have h' := h.move (W := w.alloc o) (fun k hk => Below.heap_alloc w o k (h.lt k hk)) (fun r k hr ho => Below.heap_alloc w o k (h.owned_lt hr ho)) (h.bel.alloc h.base_le o) (Nat.le_of_lt hsz)
  refine ⟨h'.len, h'.tm, h'.ls, h'.sv, h'.hm, h'.hp, h'.inj, fun r k hr ho hk => ?_, h'.nF, h'.lt, Keep.refl _ _, h'.dn, ⟨fun k hk => ?_, fun k hk => .inl (h.bs.blk k hk), h'.tabNow⟩, fun k hk => ?_, h'.pn⟩
  · rcases hk with hk | hk
    · exact h.ge r k hr ho hk
    · have := h.owned_lt hr ho; omega
  · rcases hk with hk | hk
    · have := h.base_le k hk; omega
    · omega
  · rcases h.ff k hk with h1 | h1
    · exact .inl h1
    · refine .inr ?_
      rintro (h2 | h2)
      · exact h1 h2
      · have := h.lt k hk; omega
/-- What came up early is told. -/
theorem Rel.late (h : Rel base w0 ks st a w c) {k : Nat} (x : Value) {b : B} (hk : k < w.heap.size) (hKk : ¬ base.K k) (hF : ¬ c.F k) (ho : ∀ r, r < c.m → c.o r ≠ some k) (hb : BR w (c.push x (some k)) c.m b) : Rel base w0 ks { st with h := st.h ++ [b] } a w (c.push x (some k)) := by
  have up : ∀ {v y}, Rv w c v y → Rv w (c.push x (some k)) v y := fun hv => hv.mono (Same.refl _ _) (fun _ hk => hk) (by simp [Cx.push]) fun r hr => by simp [Cx.push]; omega
  have hoo : ∀ r k', r < (c.push x (some k)).m → (c.push x (some k)).o r = some k' → (r < c.m ∧ c.o r = some k') ∨ (r = c.m ∧ k' = k) := by
    intro r k' hr hk'
    simp only [Cx.push] at hr hk'
    split at hk'
    · rename_i e
      cases hk'
      exact .inr ⟨e, rfl⟩
    · exact .inl ⟨by omega, hk'⟩
  refine ⟨h.len, fun i v y hv hy => up (h.tm i v y hv hy), h.ls, fun i vs xs hv hx => ⟨(h.sv i vs xs hv hx).1, fun j v y hv' hy => up ((h.sv i vs xs hv hx).2 j v y hv' hy)⟩, by simp [Cx.push, h.hm], ?_, ?_, ?_, ?_, h.lt, h.bel, h.dn, h.bs, h.ff, ?_⟩
  · intro r b' hr
    rcases Nat.lt_or_ge r st.h.length with hlt | hge
    · have hr' : st.h[r]? = some b' := by rw [← hr]; exact (List.getElem?_append_left hlt).symm
      obtain ⟨h1, hB⟩ := h.at hr'
      exact hB.mono (Same.refl _ _) (fun _ hk => hk) (by simp [Cx.push]) (fun r hr => by simp [Cx.push]; omega) (fun _ _ => rfl) h1 (by simp [Cx.push]; omega)
    · have hr2 : [b][r - st.h.length]? = some b' := by rw [← List.getElem?_append_right hge]; exact hr
      have he : r = st.h.length := by
        have := (List.getElem?_eq_some_iff.1 hr2).1
        simp at this; omega
      subst he
      simp at hr2
      subst hr2
      rw [← h.hm]; exact hb
  · intro r s k' hr hs h1 h2
    rcases hoo r k' hr h1 with ⟨a1, a2⟩ | ⟨a1, a2⟩ <;> rcases hoo s k' hs h2 with ⟨b1, b2⟩ | ⟨b1, b2⟩
    · exact h.inj r s k' a1 b1 a2 b2
    · subst b2; exact absurd a2 (ho r a1)
    · subst a2; exact absurd b2 (ho s b1)
    · rw [a1, b1]
  · intro r k' hr h1
    rcases hoo r k' hr h1 with ⟨a1, a2⟩ | ⟨a1, a2⟩
    · exact h.ge r k' a1 a2
    · subst a2; exact hKk
  · intro r k' hr h1
    rcases hoo r k' hr h1 with ⟨a1, a2⟩ | ⟨a1, a2⟩
    · exact h.nF r k' a1 a2
    · subst a2; exact hF
  · intro j k' hj
    obtain ⟨h1, h2, h3⟩ := h.pn j k' hj
    exact ⟨by simp [Cx.push]; omega, by simp [Cx.push]; rw [if_neg (by omega)]; exact h2, by simp [Cx.push]; rw [if_neg (by omega)]; exact h3⟩

theorem Rel.setKnown (h : Rel base w0 ks st a w c) {d : Tmp} {v : V} (hd : ∀ y, a.tmps[d]? = some y → Rv w c v y) : Rel base w0 ks (st.put (some d) v) a w c := by
  refine ⟨by simpa [St.put] using h.len, fun i u y hu hy => ?_, h.ls, h.sv, h.hm, h.hp, h.inj, h.ge, h.nF, h.lt, h.bel, h.dn, h.bs, h.ff, h.pn⟩
  have hu' : (st.t.set d v)[i]? = some u := hu
  rw [List.getElem?_set] at hu'
  split at hu'
  · rename_i e
    subst e
    split at hu' <;> cases hu'
    exact hd y hy
  · exact h.tm i u y hu' hy
theorem Rel.putDead (h : Rel base w0 ks st a w c) {d : Tmp} (hd : ∀ v, st.t[d]? = some v → v = .dead) (x : Value) : Rel base w0 ks st (a.put (some d) x) w c := by
  refine ⟨by simpa [Act.put] using h.len, fun i u y hu hy => ?_, h.ls, h.sv, h.hm, h.hp, h.inj, h.ge, h.nF, h.lt, h.bel, h.dn, h.bs, h.ff, h.pn⟩
  have hy' : (a.tmps.setIfInBounds d x)[i]? = some y := hy
  by_cases e : d = i
  · subst e
    rw [hd u hu]
    exact .dead _ _ _
  · rw [Array.getElem?_setIfInBounds_ne e] at hy'
    exact h.tm i u y hu hy'
theorem lzKill_get {ops : Array Oper} : ∀ (zs : List Nat) (t : List V) (i : Nat) v, (lzKill P ops zs t)[i]? = some v → v = .dead ∨ (t[i]? = some v ∧ ∀ z ∈ zs, lzD P ops z ≠ some i) := by
  intro zs
  induction zs with
  | nil => intro t i v h; exact .inr ⟨h, fun z hz => by cases hz⟩
  | cons z zs ih =>
    intro t i v h
    rcases ih _ i v h with h1 | ⟨h1, h2⟩
    · exact .inl h1
    · cases hd : lzD P ops z with
      | none =>
        rw [hd] at h1
        exact .inr ⟨h1, fun y hy => by
          rcases List.mem_cons.1 hy with rfl | hy
          · rw [hd]; simp
          · exact h2 y hy⟩
      | some d =>
        rw [hd] at h1
        have h1' : (t.set d .dead)[i]? = some v := h1
        rw [List.getElem?_set] at h1'
        split at h1'
        · split at h1' <;> cases h1'
          exact .inl rfl
        · rename_i hne
          exact .inr ⟨h1', fun y hy => by
            rcases List.mem_cons.1 hy with rfl | hy
            · rw [hd]; intro e; cases e; exact hne rfl
            · exact h2 y hy⟩
theorem lzKill_length {ops : Array Oper} : ∀ (zs : List Nat) (t : List V), (lzKill P ops zs t).length = t.length := by
  intro zs
  induction zs with
  | nil => intro t; rfl
  | cons z zs ih =>
    intro t
    show (lzKill P ops zs _).length = _
    rw [ih]
    cases lzD P ops z <;> simp [setD]
theorem Rel.killL (h : Rel base w0 ks st a w c) (ops : Array Oper) (zs : List Nat) : Rel base w0 ks { st with t := lzKill P ops zs st.t } a w c := by
  refine ⟨by simpa [lzKill_length] using h.len, fun i u y hu hy => ?_, h.ls, h.sv, h.hm, h.hp, h.inj, h.ge, h.nF, h.lt, h.bel, h.dn, h.bs, h.ff, h.pn⟩
  rcases lzKill_get zs _ i u hu with rfl | ⟨h1, _⟩
  · exact .dead _ _ _
  · exact h.tm i u y h1 hy

/-- What a call sees and what is live, and the rest, and what came up early. -/
structure BothE (base : Base) (w0 : World) (ks : List (Array Value)) (st : St) (c : Cx) (w1 : World) (vw : Bool) (rs : List Nat) (E : List (Nat × Nat)) (Wp : World) (sm : St) (t : List V) (a : Act) (W : World) (cm : Cx) : Prop where
  sg : Sights base w0 ks st c w1 vw rs
  all : Rel (restBase base rs) w0 ks ⟨t, st.s.map (·.map (V.sub (restV rs) dep)), hideB rs st.h⟩ a w1 (cxR c rs)
  seen : Rel (baseE (baseS vw w1 c rs) E) Wp [] sm a W cm
  F : ∀ k, footS vw w1 c k → cm.F k
  kp : Keep (baseS vw w1 c rs).K w1 Wp
  big : ∀ z k, (z, k) ∈ E → w1.heap.size ≤ k
theorem BothE.both {w1 W Wp : World} {vw : Bool} {rs : List Nat} {E : List (Nat × Nat)} {sm : St} {t : List V} {cm : Cx} (h : BothE base w0 ks st c w1 vw rs E Wp sm t a W cm) : Both base w0 ks st c w1 vw rs sm t a W cm :=
  ⟨h.sg, h.all, h.seen.rebase (fun k hk => .inl hk) rfl rfl h.kp h.sg.ok, h.F⟩
theorem BothE.put {w1 W Wp : World} {vw : Bool} {rs : List Nat} {E : List (Nat × Nat)} {sm : St} {t : List V} {cm : Cx} (h : BothE base w0 ks st c w1 vw rs E Wp sm t a W cm) (d : Option Tmp) {v vF : V} {x : Value} (hv : Rv W cm v x) (hF : Rv w1 (cxR c rs) vF x) : BothE base w0 ks st c w1 vw rs E Wp (sm.put d v) (Go.Rv.setD t d vF) (a.put d x) W cm :=
  ⟨h.sg, h.all.setD' d hF, h.seen.put d hv, h.F, h.kp, h.big⟩
theorem BothE.know {w1 W Wp : World} {vw : Bool} {rs : List Nat} {E : List (Nat × Nat)} {sm : St} {t : List V} {cm : Cx} (h : BothE base w0 ks st c w1 vw rs E Wp sm t a W cm) {d : Tmp} {b : Bool} (hd : a.tmps[d]? = some (.bool b)) : BothE base w0 ks st c w1 vw rs E Wp (sm.put (some d) (.bool b)) (t.set d (.bool b)) a W cm :=
  ⟨h.sg, h.all.know hd, h.seen.know hd, h.F, h.kp, h.big⟩
theorem Rel.widenE {vw : Bool} {rs : List Nat} {w1 W Wp : World} {E : List (Nat × Nat)} (h0 : Sights base w0 ks st c w1 vw rs) (hkp : Keep (baseS vw w1 c rs).K w1 Wp) {sm : St} {cm : Cx} (h : Rel (baseE (baseS vw w1 c rs) E) Wp [] sm a W cm) : ∃ c', Rel (baseE (baseS vw w1 c rs) E) Wp [] sm a W c' ∧ (∀ k, footS vw w1 c k → c'.F k) := by
  let c' : Cx := { cm with F := fun k => cm.F k ∨ footS vw w1 c k }
  have hF : ∀ k, cm.F k → c'.F k := fun k hk => .inl hk
  have up : ∀ {v x}, Rv W cm v x → Rv W c' v x := fun hv => hv.mono (Same.refl _ _) hF (Nat.le_refl _) fun _ _ => rfl
  refine ⟨c', ⟨h.len, fun i v x hv hx => up (h.tm i v x hv hx), h.ls, fun i vs xs hv hx => ⟨(h.sv i vs xs hv hx).1, fun j v x hv' hx' => up ((h.sv i vs xs hv hx).2 j v x hv' hx')⟩, h.hm, fun r b hb => (h.hp r b hb).mono (Same.refl _ _) hF (Nat.le_refl _) (fun _ _ => rfl) (fun _ _ => rfl) (h.at hb).1 rfl, h.inj, h.ge, fun r k hr ho hk => ?_, fun k hk => ?_, h.bel, h.dn, h.bs, fun k hk => ?_, h.pn⟩, fun k hk => .inr hk⟩
  · rcases hk with hk | hk
    · exact h.nF r k hr ho hk
    · exact h.ge r k hr ho (.inl (footS_K h0 hk))
  · rcases hk with hk | hk
    · exact h.lt k hk
    · exact Nat.lt_of_lt_of_le (footS_K h0 hk).1 (Nat.le_trans hkp.size h.bel.size)
  · rcases hk with hk | hk
    · exact h.ff k hk
    · exact .inl hk

theorem nbeq_ne {a b : Nat} : (!Nat.beq a b) = true ↔ a ≠ b := by
  cases h : Nat.beq a b with
  | true => simp [Nat.eq_of_beq_eq_true h]
  | false => simp [Nat.ne_of_beq_eq_false h]
theorem lzD_notFl {ops : Array Oper} {z : Nat} {d : Tmp} (h : lzD P ops z = some d) : flAt ops z = false := by
  obtain ⟨o, ho, _, hcl, _⟩ := lzD_spec h
  rcases hcl with ⟨e, hop, _⟩ | ⟨t, n, ps, hop⟩ <;> simp only [flAt, ho, hop, isFl]
theorem pickFl_fl {ops : Array Oper} {listed : Array Bool} : ∀ (l : List Nat) (i : Nat), pickFl ops listed l = some i → flAt ops i = true := by
  intro l
  induction l with
  | nil => intro i h; cases h
  | cons j l ih =>
    intro i h
    simp only [pickFl] at h
    by_cases hc : (flAt ops j && Region.free .any ops listed j) = true
    · rw [if_pos hc] at h
      cases h
      exact (Bool.and_eq_true _ _ ▸ hc).1
    · rw [if_neg hc] at h
      exact ih i h
theorem mainOf_mem {ops : Array Oper} (r : Nat) (l : List Nat) : mainOf P ops r (r :: l) ∈ r :: l := by
  unfold mainOf
  cases h : (r :: l).find? fun i => (lzD P ops i).isNone with
  | none => exact List.mem_cons_self
  | some x => exact List.mem_of_find?_eq_some h
theorem lzAll_get : ∀ (zs : List Nat) (l : Array Bool) (i : Nat) (d : Bool), (lzAll zs l).getD i d = true → i ∈ zs ∨ l.getD i d = true := by
  intro zs
  induction zs with
  | nil => intro l i d h; exact .inr h
  | cons z zs ih =>
    intro l i d h
    rcases ih _ i d h with h1 | h1
    · exact .inl (List.mem_cons_of_mem _ h1)
    · by_cases e : z = i
      · exact .inl (e ▸ List.mem_cons_self)
      · rw [getD_set_ne d e] at h1; exact .inr h1
theorem lzAll_false (zs : List Nat) (l : Array Bool) (i : Nat) (hi : i ∉ zs) (h : l.getD i true = false) : (lzAll zs l).getD i true = false := by
  cases hh : (lzAll zs l).getD i true with
  | false => rfl
  | true =>
    rcases lzAll_get zs l i true hh with h1 | h1
    · exact absurd h1 hi
    · rw [h] at h1; cases h1
theorem lzAll_true : ∀ (zs : List Nat) (l : Array Bool) (i : Nat), l.getD i false = true → (lzAll zs l).getD i false = true := by
  intro zs
  induction zs with
  | nil => intro l i h; exact h
  | cons z zs ih => intro l i h; exact ih _ i (getD_set_true h)
theorem lzAll_mem : ∀ (zs : List Nat) (l : Array Bool) (i : Nat), i ∈ zs → l.getD i true = false → (lzAll zs l).getD i false = true := by
  intro zs
  induction zs with
  | nil => intro l i h; cases h
  | cons z zs ih =>
    intro l i h hl
    by_cases e : z = i
    · subst e
      exact lzAll_true zs _ _ (getD_set_self hl false)
    · rcases List.mem_cons.1 h with h1 | h1
      · exact absurd h1.symm e
      · exact ih _ i h1 (by rw [getD_set_ne true e]; exact hl)

theorem evStill_sound {call : CallT α} (hcall : CallOK P call) {ops : Array Oper} (hsel : Region.noSelect ops = true) {w1 : World} {vw : Bool} {rs ex : List Nat} {k : St → List V → Option α} {Q : Exit → Act → World → Prop}
    (hQp : ∀ ch a w, ¬ Q (.panic ch) a w) (hQ : ∀ sm t' a' w' cm, k sm t' = some res → Both base w0 ks st c w1 vw rs sm t' a' w' cm → Q .normal a' w') :
    ∀ (fuel : Nat) (listed : Array Bool) (sm : St) (t : List V), evStill P call (lookV vw st.h rs) (hideB rs st.h) ex ops fuel listed sm t k = some res →
      ∀ (fm : Nat) (lm : Array Bool) (E : List (Nat × Nat)) (Wp : World) (a : Act) (W : World) (cm : Cx), BothE base w0 ks st c w1 vw rs E Wp sm t a W cm → Ahead P ops listed lm E a W → cnt lm ≤ fm → 
      wpAnyH P .any ops Q (Stood w1 c rs) fm lm a W := by
  intro fuel
  have fin : ∀ (listed : Array Bool) (sm : St) (t : List V), Region.ready .any ops listed = [] → k sm t = some res → ∀ (fm : Nat) (lm : Array Bool) (E : List (Nat × Nat)) (Wp : World) (a : Act) (W : World) (cm : Cx), BothE base w0 ks st c w1 vw rs E Wp sm t a W cm → Ahead P ops listed lm E a W → 
      wpAnyH P .any ops Q (Stood w1 c rs) fm lm a W := by
    intro listed sm t hr he fm lm E Wp a W cm h hA
    have hE : E = [] := by
      cases E with
      | nil => rfl
      | cons p E =>
        obtain ⟨_, _, _, h3, _⟩ := hA.each p.1 p.2 List.mem_cons_self
        rw [hr] at h3
        cases h3
    subst hE
    refine wpAnyH_done ?_ (hQ _ _ _ _ _ he h.both) _
    apply List.eq_nil_iff_forall_not_mem.2
    intro j hj
    have : j ∈ Region.ready .any ops listed := by
      rw [mem_ready] at *
      obtain ⟨h0, o, ho, hall⟩ := hj
      refine ⟨by rw [hA.lm] at h0; simpa using h0, o, ho, fun e he hb => ?_⟩
      have := hall e he hb
      rw [hA.lm] at this
      simpa using this
    rw [hr] at this
    cases this
  induction fuel with
  | zero =>
    intro listed sm t he fm lm E Wp a W cm h hA hc
    simp only [evStill] at he
    split at he <;> (try cases he)
    rename_i hr
    exact fin listed sm t hr he fm lm E Wp a W cm h hA
  | succ fuel ih =>
    intro listed sm t he
    simp only [evStill] at he
    split at he
    · rename_i hr
      intro fm lm E Wp a W cm h hA _
      exact fin listed sm t hr he fm lm E Wp a W cm h hA
    rename_i r rr hr
    split at he
    · -- taken first
      rename_i i hpk
      obtain ⟨hmem, hfree⟩ := pickFl_spec _ _ hpk
      have hmem : i ∈ Region.ready .any ops listed := by rw [hr]; exact (List.mem_filter.1 hmem).1
      have hfl := pickFl_fl _ _ hpk
      intro fm lm E Wp a W cm h hA hc
      have hnE : i ∉ E.map Prod.fst := by
        intro hi
        obtain ⟨⟨z, kk⟩, hz, rfl⟩ := List.mem_map.1 hi
        obtain ⟨d, h1, _⟩ := hA.each z kk hz
        rw [lzD_notFl h1] at hfl
        cases hfl
      have hlm : lm.getD i true = false := by rw [hA.lm, if_neg hnE]; exact (mem_ready.1 hmem).1
      have hcs := cnt_set hlm
      obtain ⟨fm, rfl⟩ : ∃ m, fm = m + 1 := ⟨fm - 1, by omega⟩
      split at he <;> (try cases he)
      rename_i o hi
      have hstep : ∀ x, Ahead P ops (listed.setIfInBounds i true) (lm.setIfInBounds i true) E (a.put o.dst x) W := fun x => hA.step hmem hnE hi x fun _ _ _ => rfl
      have take : ∀ (x : Value), YieldsIf P ops (Stood w1 c rs) o x a → wpAnyH P .any ops Q (Stood w1 c rs) fm (lm.setIfInBounds i true) (a.put o.dst x) W → wpAnyH P .any ops Q (Stood w1 c rs) (fm + 1) lm a W :=
        fun x hy hn => wpAnyH_take hi hsel (hA.free hfree) (by simpa using hA.ready hmem hnE) (fun ch a w h => (hQp ch _ _ h).elim) hy h.both.stood hn
      have go : ∀ (sm : St) (t : List V), BothE base w0 ks st c w1 vw rs E Wp sm t a W cm → Region.wanted o (yielded ops a.tmps) = true →
          (match evFs P (lookV vw st.h rs) (hideB rs st.h) o sm t with | some (b, v, vF) => cond b (evStill P call (lookV vw st.h rs) (hideB rs st.h) ex ops fuel (listed.setIfInBounds i true) (sm.put o.dst v) (setD t o.dst vF) k) none | none => none) = some res →
          wpAnyH P .any ops Q (Stood w1 c rs) (fm + 1) lm a W := by
        intro sm t h hw he
        split at he <;> (try cases he)
        rename_i b v vF hfl
        cases b with
        | false => cases he
        | true =>
          obtain ⟨x, hx1, hx2, hx3⟩ := evFs_sound h.both hfl
          exact take x (.inl ⟨hw, hx1⟩) (ih _ _ _ he _ _ E Wp _ W cm (h.put o.dst hx2 hx3) (hstep x) (by omega))
      split at he
      · rename_i hg
        exact go sm t h (noguard_wanted hg _) he
      · rename_i d want hg
        split at he <;> (try cases he)
        rotate_left
        · rename_i vs hd
          exact take undef (.inr ⟨guardT_undef h.all hg hd, rfl⟩) (ih _ _ _ he _ _ E Wp _ W cm (h.put o.dst undef_rv undef_rv) (hstep undef) (by omega))
        rename_i b hd
        obtain ⟨hav, hw⟩ := guard_wanted h.all hg hd
        by_cases hbw : b = want
        · subst hbw
          have hcond : (if b then b else !b) = true := by cases b <;> rfl
          rw [hcond] at he
          exact go _ _ (h.know hav) (by rw [hw]; simp) he
        · have hb : b = !want := by cases b <;> cases want <;> simp_all
          have hcond : (if want then b else !b) = false := by subst hb; cases want <;> rfl
          rw [hcond] at he
          simp only [cond_false] at he
          rw [hb] at hav
          exact take undef (.inr ⟨by rw [hw]; simp [hbw], rfl⟩) (ih _ _ _ he _ _ E Wp _ W cm ((h.know hav).put o.dst undef_rv undef_rv) (hstep undef) (by omega))
      · cases he
    · -- one that is no part of what may be taken first
      rename_i hpk
      clear hpk
      have hm0 : mainOf P ops r (r :: rr) ∈ Region.ready .any ops listed := by rw [hr]; exact mainOf_mem r rr
      generalize hr0 : mainOf P ops r (r :: rr) = r0 at he hm0
      generalize hzs : lzOf r0 (r :: rr) = zs at he
      have hmz : ∀ j, j ∈ Region.ready .any ops listed → j = r0 ∨ j ∈ zs := by
        intro j hj
        rw [hr] at hj
        by_cases e : j = r0
        · exact .inl e
        · refine .inr ?_
          rw [← hzs]
          exact List.mem_filter.2 ⟨hj, nbeq_ne.2 e⟩
      have hzr : ∀ j, j ∈ zs → j ∈ Region.ready .any ops listed ∧ j ≠ r0 := by
        intro j hj
        rw [← hzs] at hj
        obtain ⟨h1, h2⟩ := List.mem_filter.1 hj
        rw [hr]
        exact ⟨h1, nbeq_ne.1 h2⟩
      split at he <;> (try cases he)
      rename_i hok
      have hun0 := (mem_ready.1 hm0).1
      have hz : ∀ z ∈ zs, (∃ d, lzD P ops z = some d) ∧ lzNew P ops { sm with t := lzKill P ops zs sm.t } z = true ∧ Region.free .any ops listed z = true ∧ lzSelf ops z = true := by
        intro z hz
        unfold lzOk at hok
        rw [Bool.or_eq_true] at hok
        rcases hok with h1 | h1
        · rw [List.isEmpty_iff] at h1; subst h1; cases hz
        · simp only [Bool.and_eq_true, List.all_eq_true] at h1
          exact ⟨Option.isSome_iff_exists.1 (h1.1 z hz).1.1.1, (h1.1 z hz).1.1.2, (h1.1 z hz).1.2, (h1.1 z hz).2⟩
      have hrd : ∀ j, j ∈ Region.ready .any ops (lzAll zs listed) → j = r0 := by
        intro j hj
        unfold lzOk at hok
        rw [Bool.or_eq_true] at hok
        rcases hok with h1 | h1
        · rw [List.isEmpty_iff] at h1
          subst h1
          rcases hmz j hj with h2 | h2
          · exact h2
          · cases h2
        · simp only [Bool.and_eq_true, List.all_eq_true] at h1
          exact Nat.eq_of_beq_eq_true (h1.2 j hj)
      clear hok
      intro fm lm E Wp a W cm h hA hc
      have h : BothE base w0 ks st c w1 vw rs E Wp { sm with t := lzKill P ops zs sm.t } (lzKill P ops zs t) a W cm := ⟨h.sg, h.all.killL ops zs, h.seen.killL ops zs, h.F, h.kp, h.big⟩
      have hdt : ∀ z ∈ zs, ∀ d, lzD P ops z = some d → ∀ v, (lzKill P ops zs t)[d]? = some v → v = .dead := fun z hz d hd v hv => (lzKill_get zs _ d v hv).elim id fun h => absurd hd (h.2 z hz)
      have hds : ∀ z ∈ zs, ∀ d, lzD P ops z = some d → ∀ v, (lzKill P ops zs sm.t)[d]? = some v → v = .dead := fun z hz d hd v hv => (lzKill_get zs _ d v hv).elim id fun h => absurd hd (h.2 z hz)
      generalize hsm0 : ({ sm with t := lzKill P ops zs sm.t } : St) = sm0 at he h hz
      have hds : ∀ z ∈ zs, ∀ d, lzD P ops z = some d → ∀ v, sm0.t[d]? = some v → v = .dead := by rw [← hsm0]; exact hds
      generalize lzKill P ops zs t = t0 at he h hdt
      clear hsm0
      unfold evMain at he
      -- what came up early is told now
      have pend : ∀ (fm : Nat) (lm : Array Bool) (E : List (Nat × Nat)) (Wp : World) (a : Act) (W : World) (cm : Cx), BothE base w0 ks st c w1 vw rs E Wp sm0 t0 a W cm → Ahead P ops listed lm E a W → cnt lm ≤ fm → r0 ∈ E.map Prod.fst →
          wpAnyH P .any ops Q (Stood w1 c rs) fm lm a W := by
        intro fm lm E Wp a W cm h hA hc hin
        obtain ⟨⟨z, kk⟩, hzE, hz0⟩ := List.mem_map.1 hin
        have hz0 : z = r0 := hz0
        subst hz0
        obtain ⟨d, h1, h2, h3, ⟨q, obj, h4, h5, h5'⟩, h6⟩ := hA.each z kk hzE
        obtain ⟨o, ho, hg, hcl, hd⟩ := lzD_spec h1
        simp only [ho, guardT, hg] at he
        obtain ⟨cf, hfr, hfF, hfm, _⟩ := h.seen.frzs (preO sm0 o.op)
        have he0 : evOp P call o sm0 (fun v sm' => evStill P call (lookV vw st.h rs) (hideB rs st.h) ex ops fuel (listed.setIfInBounds z true) (sm'.put o.dst v) (Go.Rv.setD t0 o.dst (stF v)) k) = some res := he
        have he1 : ∃ v b0, evMono P (sm0.frzs (preO sm0 o.op)) (sm0.frzs (preO sm0 o.op)).h.length o.type o.op = some (true, v, [b0]) ∧ evStill P call (lookV vw st.h rs) (hideB rs st.h) ex ops fuel (listed.setIfInBounds z true) (({ sm0.frzs (preO sm0 o.op) with h := (sm0.frzs (preO sm0 o.op)).h ++ [b0] } : St).put (some d) v) (Go.Rv.setD t0 (some d) (stF v)) k = some res := by
          have hpl : evPlain P o.type sm0 (fun v sm' => evStill P call (lookV vw st.h rs) (hideB rs st.h) ex ops fuel (listed.setIfInBounds z true) (sm'.put o.dst v) (Go.Rv.setD t0 o.dst (stF v)) k) o.op = some res := by
            rcases hcl with ⟨e, hop, _⟩ | ⟨t, n, ps, hop⟩
            · unfold evOp at he0
              simp only [hop] at he0 ⊢
              exact he0
            · unfold evOp at he0
              simp only [hop] at he0 ⊢
              exact he0
          unfold evPlain at hpl
          simp only at hpl
          split at hpl
          · rename_i b v bs hm
            obtain ⟨q', obj', b0, rfl, rfl, _⟩ := lazy_new hfr hcl hm
            rw [hd] at hpl
            exact ⟨v, b0, hm, hpl⟩
          · rename_i hm
            split at hpl <;> (try cases hpl)
            rename_i b v st' hm'
            rcases hcl with ⟨e, hop, _⟩ | ⟨t, n, ps, hop⟩
            · rw [hop] at hm'; simp [evEff] at hm'
            · rw [hop] at hm'; simp [evEff] at hm'
        obtain ⟨v, b0, hm, he'⟩ := he1
        obtain ⟨q', obj', b0', _, hbs, hmk, hnew⟩ := lazy_new hfr hcl hm
        obtain rfl : b0 = b0' := by simpa using hbs
        obtain ⟨rfl, rfl⟩ := hmk.uniq (h5' o ho) W
        have hkW : kk < W.heap.size := by
          rcases Nat.lt_or_ge kk W.heap.size with hh | hh
          · exact hh
          · rw [Array.getElem?_eq_none hh] at h5; cases h5
        have hKin : (baseE (baseS vw w1 c rs) E).K kk := .inr (List.mem_map_of_mem (f := Prod.snd) hzE)
        have hkw1 := h.big z kk hzE
        let E' := E.filter fun p => !Nat.beq p.1 z
        have hE' : ∀ y l, (y, l) ∈ E' → (y, l) ∈ E ∧ y ≠ z := by
          intro y l hy
          obtain ⟨a1, a2⟩ := List.mem_filter.1 hy
          exact ⟨a1, nbeq_ne.1 a2⟩
        have hkE' : kk ∉ E'.map Prod.snd := by
          intro hk
          obtain ⟨⟨y, l⟩, hy, hl⟩ := List.mem_map.1 hk
          have hl : l = kk := hl
          subst hl
          obtain ⟨hyE, hne⟩ := hE' y l hy
          have hnd := hA.nd
          have : (y, l) = (z, l) := by
            obtain ⟨i1, hi1, e1⟩ := List.getElem_of_mem hyE
            obtain ⟨i2, hi2, e2⟩ := List.getElem_of_mem hzE
            have : i1 = i2 := (List.getElem_inj (h₀ := by simpa using hi1) (h₁ := by simpa using hi2) hnd).1 (by simp [e1, e2])
            subst this
            rw [← e1, ← e2]
          exact hne (by simpa using this)
        have hseen1 : Rel (baseE (baseS vw w1 c rs) E') Wp [] (sm0.frzs (preO sm0 o.op)) a W cf := by
          have hsub : ∀ k, (baseE (baseS vw w1 c rs) E').K k → (baseE (baseS vw w1 c rs) E).K k := by
            intro k hk
            rcases hk with hk | hk
            · exact .inl hk
            · obtain ⟨⟨y, l⟩, hy, hl⟩ := List.mem_map.1 hk
              exact .inr (hl ▸ List.mem_map_of_mem (f := Prod.snd) (hE' y l hy).1)
          exact hfr.rebase hsub rfl rfl (Keep.refl _ _) ⟨fun k hk => h.seen.bs.lt k (hsub k hk), fun k hk => .inl (h.sg.ok.blk k hk), h.seen.bs.tab⟩
        have hnK : ¬ (baseE (baseS vw w1 c rs) E').K kk := by
          rintro (hk | hk)
          · have := hk.1; omega
          · exact hkE' hk
        have hnF : ¬ cf.F kk := by
          intro hf
          rcases hfr.ff kk hf with hk | hk
          · have := (footS_K h.sg hk).1; omega
          · exact hk hKin
        have hno : ∀ r, r < cf.m → cf.o r ≠ some kk := fun r hr ho => hfr.ge r kk hr ho hKin
        obtain ⟨hB, hrv⟩ := hnew kk h5
        have hseen2 := hseen1.late (ptrOf q' kk) hkW hnK hnF hno hB
        obtain ⟨c2, hseen3, hF3⟩ := Rel.widenE h.sg h.kp (hseen2.setKnown (d := d) (v := v) fun y hy => by rw [h4 y hy]; exact hrv)
        refine ih _ _ _ he' fm lm E' Wp a W _ ⟨h.sg, ?_, hseen3, hF3, h.kp, fun y l hy => h.big y l (hE' y l hy).1⟩ ⟨fun i dd => ?_, fun y l hy => ?_, ?_, ?_⟩ hc
        · have hst : stF v = .dead := by
            rcases lazy_dead hcl hm with ⟨r, rfl⟩ | ⟨r, rfl⟩ <;> rfl
          rw [hst]
          have := h.all.setKnown (d := d) (v := .dead) fun y hy => .dead _ _ _
          exact this
        · rw [hA.lm]
          by_cases hi : i = z
          · subst hi
            rw [if_pos hin, getD_set_self h2]
            split <;> rfl
          · have hiff : i ∈ E.map Prod.fst ↔ i ∈ E'.map Prod.fst := by
              constructor
              · intro hi'
                obtain ⟨⟨y, l⟩, hy, hl⟩ := List.mem_map.1 hi'
                have hl : y = i := hl
                subst hl
                exact List.mem_map_of_mem (f := Prod.fst) (List.mem_filter.2 ⟨hy, nbeq_ne.2 hi⟩)
              · intro hi'
                obtain ⟨⟨y, l⟩, hy, hl⟩ := List.mem_map.1 hi'
                exact hl ▸ List.mem_map_of_mem (f := Prod.fst) (hE' y l hy).1
            rw [getD_set_ne dd (Ne.symm hi)]
            simp only [hiff]
        · obtain ⟨hyE, hne⟩ := hE' y l hy
          obtain ⟨d', g1, g2, g3, g4, g6⟩ := hA.each y l hyE
          refine ⟨d', g1, by rw [getD_set_ne true (Ne.symm hne)]; exact g2, ready_mono g3 hne, g4, fun o' ho' j oj hj hjy hjun hno => ?_⟩
          refine g6 o' ho' j oj hj hjy ?_ hno
          by_cases hjz : z = j
          · subst hjz; exact h2
          · rw [getD_set_ne true hjz] at hjun; exact hjun
        · exact hA.nd.sublist ((List.filter_sublist).map _)
        · exact hA.nf.sublist ((List.filter_sublist).map _)
      refine (?_ : ∀ (fm : Nat) (lm : Array Bool) (E : List (Nat × Nat)) (Wp : World) (a : Act) (W : World) (cm : Cx), BothE base w0 ks st c w1 vw rs E Wp sm0 t0 a W cm → Ahead P ops listed lm E a W → cnt lm ≤ fm → wpAnyH P .any ops Q (Stood w1 c rs) fm lm a W) fm lm E Wp a W cm h hA hc
      clear hA hc h
      intro fm
      induction fm with
      | zero =>
        intro lm E Wp a W cm h hA hc
        by_cases hin : r0 ∈ E.map Prod.fst
        · exact pend _ lm E Wp a W cm h hA hc hin
        · have hlm : lm.getD r0 true = false := by rw [hA.lm, if_neg hin]; exact hun0
          have := cnt_set hlm
          omega
      | succ fm ihm =>
        intro lm E Wp a W cm h hA hc
        by_cases hin : r0 ∈ E.map Prod.fst
        · exact pend _ lm E Wp a W cm h hA hc hin
        have hlm0 : lm.getD r0 true = false := by rw [hA.lm, if_neg hin]; exact hun0
        have hcs0 := cnt_set hlm0
        refine ⟨fun h0 => ?_, fun j hj => ?_⟩
        · have := hA.ready hm0 hin
          rw [h0] at this
          cases this
        have hjz : j = r0 ∨ (j ∈ zs ∧ j ∉ E.map Prod.fst) := by
          obtain ⟨q0, oq, hoq, hall⟩ := mem_ready.1 hj
          have hjE : j ∉ E.map Prod.fst := by
            intro hh
            rw [hA.lm, if_pos hh] at q0
            cases q0
          rw [hA.lm, if_neg hjE] at q0
          by_cases hjs : j ∈ zs
          · exact .inr ⟨hjs, hjE⟩
          · refine .inl (hrd j (mem_ready.2 ⟨lzAll_false zs listed j hjs q0, oq, hoq, fun e he hb => ?_⟩))
            have := hall e he hb
            rw [hA.lm] at this
            split at this
            · rename_i hmE
              obtain ⟨⟨y, l⟩, hy, hl⟩ := List.mem_map.1 hmE
              have hl : y = e.on := hl
              obtain ⟨_, _, g2, g3, _⟩ := hA.each y l hy
              rcases hmz y g3 with g4 | g4
              · exact absurd (g4 ▸ List.mem_map_of_mem (f := Prod.fst) hy) hin
              · rw [← hl]; exact lzAll_mem zs listed y g4 g2
            · exact lzAll_true zs listed _ this
        rcases hjz with rfl | ⟨hjs, hjE⟩
        · -- the one that is told
          unfold wpOp
          split at he <;> (try cases he)
          rename_i o hi
          simp only [hi]
          have go : ∀ (sm : St) (t : List V), BothE base w0 ks st c w1 vw rs E Wp sm t a W cm → Region.wanted o (yielded ops a.tmps) = true →
              evOp P call o sm (fun v sm' => evStill P call (lookV vw st.h rs) (hideB rs st.h) ex ops fuel (listed.setIfInBounds j true) (sm'.put o.dst v) (setD t o.dst (stF v)) k) = some res →
              (if Region.wanted o (yielded ops a.tmps) = true then o.wp P a W (fun a' w' => Stood w1 c rs w' ∧ wpAnyH P .any ops Q (Stood w1 c rs) fm (lm.setIfInBounds j true) a' w') Q ∨ (o.asks P a W ∧ LetsOut Q) else Stood w1 c rs W ∧ wpAnyH P .any ops Q (Stood w1 c rs) fm (lm.setIfInBounds j true) (a.put o.dst undef) W) := by
            intro sm t h hw he
            rw [if_pos hw]
            left
            refine evOp_sound hcall h.seen he fun x v sm' w' cm0 hk hrel0 hrv0 => ?_
            obtain ⟨cm', hrel', hF'⟩ := Rel.widenE h.sg h.kp (hrel0.put o.dst hrv0)
            have hb' : BothE base w0 ks st c w1 vw rs E Wp (sm'.put o.dst v) (Go.Rv.setD t o.dst (stF v)) (a.put o.dst x) w' cm' := ⟨h.sg, ?_, hrel', hF', h.kp, h.big⟩
            refine ⟨hb'.both.stood, ih _ _ _ hk _ _ E Wp _ w' cm' hb' (hA.step hm0 hin hi x fun z kk hz => ?_) (by omega)⟩
            · have hK : (baseE (baseS vw w1 c rs) E).K kk := .inr (List.mem_map_of_mem (f := Prod.snd) hz)
              exact (hrel0.bel.block kk hK).trans (h.seen.bel.block kk hK).symm
            refine (?_ : Rel (restBase base rs) w0 ks ⟨Go.Rv.setD t o.dst (stF v), st.s.map (·.map (V.sub (restV rs) dep)), hideB rs st.h⟩ (a.put o.dst x) w1 (cxR c rs))
            refine Rel.setD' h.all o.dst ?_
            unfold stF
            split
            · rename_i hs
              exact .im _ _ (scalar_rd dep v hs hrv0).1
            · exact .dead _ _ _
          have hstep : ∀ x, Ahead P ops (listed.setIfInBounds j true) (lm.setIfInBounds j true) E (a.put o.dst x) W := fun x => hA.step hm0 hin hi x fun _ _ _ => rfl
          split at he
          · rename_i hg
            exact go sm0 t0 h (noguard_wanted hg _) he
          · rename_i d want hg
            split at he <;> (try cases he)
            rotate_left
            · rename_i vs hd
              rw [if_neg (by rw [guardT_undef h.all hg hd]; simp)]
              exact ⟨h.both.stood, ih _ _ _ he _ _ E Wp _ W cm (h.put o.dst undef_rv undef_rv) (hstep undef) (by omega)⟩
            rename_i b hd
            obtain ⟨hav, hw⟩ := guard_wanted h.all hg hd
            by_cases hbw : b = want
            · subst hbw
              have hcond : (if b then b else !b) = true := by cases b <;> rfl
              rw [hcond] at he
              exact go _ _ (h.know hav) (by rw [hw]; simp) he
            · have hb : b = !want := by cases b <;> cases want <;> simp_all
              have hcond : (if want then b else !b) = false := by subst hb; cases want <;> rfl
              rw [hcond] at he
              simp only [cond_false] at he
              rw [hb] at hav
              rw [if_neg (by rw [hw]; simp [hbw])]
              exact ⟨h.both.stood, ih _ _ _ he _ _ E Wp _ W cm ((h.know hav).put o.dst undef_rv undef_rv) (hstep undef) (by omega)⟩
          · cases he
        · -- a new place that comes up early
          obtain ⟨⟨d, hd0⟩, hnw, hfr, hsf⟩ := hz j hjs
          obtain ⟨hjr, hjne⟩ := hzr j hjs
          obtain ⟨o, ho, hg, hcl, hd⟩ := lzD_spec hd0
          have hjun := (mem_ready.1 hjr).1
          have hlmj : lm.getD j true = false := by rw [hA.lm, if_neg hjE]; exact hjun
          have hcsj := cnt_set hlmj
          obtain ⟨q, obj, hmk⟩ : ∃ q obj, Makes P o a q obj := by
            unfold lzNew at hnw
            simp only [ho] at hnw
            split at hnw <;> (try cases hnw)
            rename_i v b0 hm
            obtain ⟨q, obj, _, _, _, hmk, _⟩ := lazy_new h.seen hcl hm
            exact ⟨q, obj, hmk⟩
          have hrun := hmk W
          unfold wpOp
          simp only [ho]
          rw [if_pos (noguard_wanted (ops := ops) (by simp [guardT, hg]) _)]
          left
          simp only [Oper.wp, hrun, Oper.upon_value]
          have hE1 := h.seen.early obj
          have hsize : Wp.heap.size ≤ W.heap.size := h.seen.bel.size
          have hbig : w1.heap.size ≤ W.heap.size := Nat.le_trans h.kp.size hsize
          have hKw : ∀ kk, kk ∈ E.map Prod.snd → kk < W.heap.size := fun kk hk => h.seen.base_le kk (.inr hk)
          have hkeep : Keep (baseS vw w1 c rs).K w1 (W.alloc obj) := (h.kp.trans (h.seen.bel.mono fun k hk => .inl hk)).alloc (fun k hk => Nat.lt_of_lt_of_le hk.1 hbig) _
          have hb' : BothE base w0 ks st c w1 vw rs ((j, W.heap.size) :: E) (W.alloc obj) sm0 t0 (a.put o.dst (ptrOf q W.heap.size)) (W.alloc obj) cm := by
            refine ⟨h.sg, ?_, ?_, h.F, hkeep, ?_⟩
            · rw [hd]; exact h.all.putDead (hdt j hjs d hd0) _
            · rw [hd]
              refine Rel.putDead ?_ (hds j hjs d hd0) _
              refine hE1.rebase (fun k hk => ?_) rfl rfl (Keep.refl _ _) ⟨fun k hk => ?_, fun k hk => .inl (h.sg.ok.blk k hk), hE1.bs.tab⟩
              · rcases hk with hk | hk
                · exact .inl (.inl hk)
                · rcases List.mem_cons.1 hk with hk | hk
                  · exact .inr hk
                  · exact .inl (.inr hk)
              · have hsz1 : (W.alloc obj).heap.size = W.heap.size + 1 := by simp
                rcases hk with hk | hk
                · have := hk.1; omega
                · rcases List.mem_cons.1 hk with hk | hk
                  · have hk : k = W.heap.size := hk
                    omega
                  · have := hKw k hk; omega
            · intro z kk hz
              rcases List.mem_cons.1 hz with hz | hz
              · cases hz; exact hbig
              · exact h.big z kk hz
          refine ⟨hb'.both.stood, ihm _ ((j, W.heap.size) :: E) _ _ _ cm hb' ⟨fun i dd => ?_, fun z kk hz => ?_, ?_, ?_⟩ (by omega)⟩
          · by_cases hij : j = i
            · subst hij
              rw [getD_set_self hlmj]
              simp
            · rw [getD_set_ne dd hij, hA.lm]
              simp only [List.map_cons, List.mem_cons, Ne.symm hij, false_or]
          · rcases List.mem_cons.1 hz with hz | hz
            · cases hz
              refine ⟨d, hd0, hjun, hjr, ⟨q, obj, fun x hx => ?_, heap_new _ _, fun o' ho' => ?_⟩, fun o' ho' i oi hi hne hiun hno => ?_⟩
              · rw [hd] at hx
                have hx' : (a.tmps.setIfInBounds d (ptrOf q W.heap.size))[d]? = some x := hx
                rw [Array.getElem?_setIfInBounds] at hx'
                split at hx'
                · split at hx'
                  · simp only [Option.some.injEq] at hx'; exact hx'.symm
                  · cases hx'
                · rename_i hne; exact absurd rfl hne
              · rw [ho] at ho'
                cases ho'
                refine hmk.put (ops := ops) (lz_notSel hcl) o.dst _ fun dd hdd => ?_
                rw [hd] at hdd
                cases hdd
                intro hin
                unfold lzSelf at hsf
                simp only [ho, hd, Bool.not_eq_true', List.any_eq_false] at hsf
                exact hsf d hin (Nat.beq_refl d)
              · rw [ho] at ho'
                cases ho'
                exact Region.free_spec ho hfr i oi hi hne hiun hno
            · obtain ⟨d', g1, g2, g3, ⟨q', obj', g4, g5, g5'⟩, g6⟩ := hA.each z kk hz
              have hzj : z ≠ j := fun e => hjE (e ▸ List.mem_map_of_mem (f := Prod.fst) hz)
              obtain ⟨oz, hoz, _, hczl, hdz⟩ := lzD_spec g1
              have hap := g6 oz hoz j o ho (Ne.symm hzj) hjun fun e1 he1 hb1 heq => by
                obtain ⟨_, o2, ho2, hall⟩ := mem_ready.1 hjr
                rw [ho] at ho2
                cases ho2
                have h7 := hall e1 he1 hb1
                rw [heq] at h7
                rcases Nat.lt_or_ge z listed.size with hlt | hge
                · simp [hlt] at h7 g2
                  rw [g2] at h7; cases h7
                · simp [Array.getElem?_eq_none hge] at g2
              refine ⟨d', g1, g2, g3, ⟨q', obj', fun x hx => ?_, ?_, fun o' ho' => ?_⟩, g6⟩
              · have hne : d ≠ d' := fun e => by
                  subst e
                  exact (Oper.apart_spec hap).2.1 d hdz hd
                rw [hd] at hx
                refine g4 x ?_
                have hx' : (a.tmps.setIfInBounds d (ptrOf q W.heap.size))[d']? = some x := hx
                rw [Array.getElem?_setIfInBounds_ne hne] at hx'
                exact hx'
              · exact (Below.heap_alloc W _ kk (hKw kk (List.mem_map_of_mem (f := Prod.snd) hz))).trans g5
              · rw [hoz] at ho'
                cases ho'
                exact (g5' oz hoz).put (ops := ops) (lz_notSel hczl) o.dst _ fun dd hdd => (Oper.apart_spec hap).2.2 dd hdd
          · refine List.nodup_cons.2 ⟨fun hh => ?_, hA.nd⟩
            have := hKw _ hh
            omega
          · exact List.nodup_cons.2 ⟨hjE, hA.nf⟩


theorem mergeT_length (vw : Bool) (rs : List Nat) (m : Nat) (h : List B) : ∀ us vs, (mergeT vw rs m h us vs).length = us.length
  | [], _ => by simp [mergeT]
  | u :: us, [] => by simp [mergeT]
  | u :: us, v :: vs => by simp [mergeT, mergeT_length vw rs m h us vs]
theorem mergeT_get (vw : Bool) (rs : List Nat) (m : Nat) (h : List B) : ∀ (us vs : List V) (i : Nat) (z : V), (mergeT vw rs m h us vs)[i]? = some z → ∃ u, us[i]? = some u ∧ (z = u.sub (restV rs) dep ∨ ∃ v, vs[i]? = some v ∧ z = lateV vw rs m h v)
  | [], vs, i, z, hz => by simp [mergeT] at hz
  | u :: us, [], i, z, hz => by
    simp only [mergeT] at hz
    obtain ⟨u', hu, rfl⟩ := getElem?_map_some hz
    exact ⟨u', hu, .inl rfl⟩
  | u :: us, v :: vs, 0, z, hz => by
    simp only [mergeT, List.getElem?_cons_zero, Option.some.injEq] at hz
    refine ⟨u, rfl, ?_⟩
    split at hz
    · exact .inr ⟨v, rfl, hz.symm⟩
    · exact .inl hz.symm
  | u :: us, v :: vs, i + 1, z, hz => by
    simp only [mergeT, List.getElem?_cons_succ] at hz
    obtain ⟨u', h1, h2⟩ := mergeT_get vw rs m h us vs i z hz
    exact ⟨u', h1, h2⟩
theorem flat_scalar : ∀ (t : Ty), t.flat = true → ∀ (x : Tup t) (i : Nat) u, (t.cells x)[i]? = some u → scalarV dep u = true
  | .nil, _, x, i, u, h => by simp [Ty.cells] at h
  | .bool r, hf, x, 0, u, h => by cases h; rfl
  | .int _ r, hf, x, 0, u, h => by cases h; rfl
  | .str r, hf, x, 0, u, h => by cases h; rfl
  | .bool r, hf, x, i + 1, u, h => flat_scalar r hf x.2 i u h
  | .int _ r, hf, x, i + 1, u, h => flat_scalar r hf x.2 i u h
  | .str r, hf, x, i + 1, u, h => flat_scalar r hf x.2 i u h
  | .sl _ _, hf, _, _, _, _ => by cases hf

theorem Both.merge {w1 : World} {vw : Bool} {rs : List Nat} {sm : St} {t : List V} {W : World} {cm : Cx} (h : Both base w0 ks st c w1 vw rs sm t a W cm) (hng : ∀ r ∈ rs, ∃ b, st.h[r]? = some b ∧ b ≠ .gone) :
    ∃ c', Rel base w0 ks { t := mergeT vw rs st.h.length sm.h t sm.t, s := st.s.map (·.map (V.sub (restV rs) dep)), h := mergeH vw rs st.h sm.h } a W c' := by
  obtain ⟨a0, hf⟩ := h.sg.full
  have hcm : c.m = st.h.length := hf.hm
  have hmm : cm.m = sm.h.length := h.seen.hm
  let c' : Cx := { F := fun k => cond vw (c.F k) (cm.F k), ρ := fun r => if r ∈ rs then cm.ρ (rs.idxOf r) else if r < c.m then c.ρ r else cm.ρ (r - c.m + rs.length), o := fun r => if r ∈ rs then (if rs.idxOf r < cm.m then cm.o (rs.idxOf r) else none) else if r < c.m then c.o r else if keepQ vw sm.h (r - c.m + rs.length) then cm.o (r - c.m + rs.length) else none, m := c.m + (cm.m - rs.length) }
  have hrm : ∀ r ∈ rs, r < c.m := fun r hr => by rw [hcm]; exact h.sg.lt r hr
  have hix : ∀ {i}, i < rs.length → rs.getD i 0 ∈ rs ∧ rs.idxOf (rs.getD i 0) = i := fun {i} hi => ⟨getD_mem hi, by
    rw [getD_lt hi]
    have hl := List.idxOf_lt_length_iff.2 (List.getElem_mem hi)
    exact (List.getElem_inj h.sg.nd).1 (List.getElem_idxOf hl)⟩
  -- the way back of a place
  have home : ∀ i, i < cm.m → homeN rs st.h.length i < c'.m ∧ c'.ρ (homeN rs st.h.length i) = cm.ρ i ∧ (i < rs.length → c'.o (homeN rs st.h.length i) = cm.o i) ∧ (¬ i < rs.length → c'.o (homeN rs st.h.length i) = if keepQ vw sm.h i then cm.o i else none) := by
    intro i hi
    unfold homeN
    split
    · rename_i hlt
      obtain ⟨h1, h2⟩ := hix hlt
      refine ⟨?_, ?_, fun _ => ?_, fun hn => absurd hlt hn⟩
      · have := hrm _ h1
        show _ < c.m + _
        omega
      · show (if _ then _ else _) = _
        rw [if_pos h1, h2]
      · show (if _ then _ else _) = _
        rw [if_pos h1, h2, if_pos hi]
    · rename_i hge
      have hnr : ¬ (st.h.length + (i - rs.length)) ∈ rs := fun hm => by have := h.sg.lt _ hm; omega
      have hnm : ¬ (st.h.length + (i - rs.length)) < c.m := by omega
      have he : st.h.length + (i - rs.length) - c.m + rs.length = i := by omega
      refine ⟨?_, ?_, fun hn => absurd hn hge, fun _ => ?_⟩
      · show _ < c.m + (cm.m - rs.length)
        omega
      · show (if _ then _ else _) = _
        rw [if_neg hnr, if_neg hnm, he]
      · show (if _ then _ else _) = _
        rw [if_neg hnr, if_neg hnm, he]
  have hsplit : ∀ r k, r < c'.m → c'.o r = some k → (r < c.m ∧ r ∉ rs ∧ c.o r = some k) ∨ ∃ i, i < cm.m ∧ r = homeN rs st.h.length i ∧ cm.o i = some k := by
    intro r k hr hk
    have hk : (if r ∈ rs then (if rs.idxOf r < cm.m then cm.o (rs.idxOf r) else none) else if r < c.m then c.o r else if keepQ vw sm.h (r - c.m + rs.length) then cm.o (r - c.m + rs.length) else none) = some k := hk
    have hr : r < c.m + (cm.m - rs.length) := hr
    split at hk
    · rename_i hmem
      split at hk <;> (try cases hk)
      rename_i hlt
      have hl := List.idxOf_lt_length_iff.2 hmem
      refine .inr ⟨_, hlt, ?_, hk⟩
      unfold homeN
      rw [if_pos hl, getD_lt hl, List.getElem_idxOf hl]
    · rename_i hmem
      split at hk
      · rename_i hlt
        exact .inl ⟨hlt, hmem, hk⟩
      · rename_i hge
        split at hk <;> (try cases hk)
        refine .inr ⟨r - c.m + rs.length, by omega, ?_, hk⟩
        unfold homeN
        rw [if_neg (by omega)]
        omega
  have hK : ∀ i k, i < cm.m → cm.o i = some k → w1.heap.size ≤ k ∨ Live c rs k := by
    intro i k hi hk
    have := h.seen.ge i k hi hk
    simp only [baseS, not_and, Classical.not_not] at this
    rcases Nat.lt_or_ge k w1.heap.size with hlt | hge
    · exact .inr (this hlt)
    · exact .inl hge
  have hLr : ∀ r k, r < c.m → r ∉ rs → c.o r = some k → ¬ (w1.heap.size ≤ k ∨ Live c rs k) := by
    intro r k hr hn ho hh
    rcases hh with hh | ⟨s, hs, hso⟩
    · have := hf.owned_lt hr ho; omega
    · have := hf.inj r s k hr (hrm s hs) ho hso
      subst this
      exact hn hs
  have hLK : ∀ k, base.K k → ¬ (w1.heap.size ≤ k ∨ Live c rs k) := by
    intro k hk hh
    rcases hh with hh | ⟨s, hs, hso⟩
    · have := hf.base_le k hk; omega
    · exact hf.ge s k (hrm s hs) hso hk
  have hFK : ∀ k, vw = false → cm.F k → c.F k ∨ (w1.heap.size ≤ k ∨ Live c rs k) := by
    intro k hv hk
    subst hv
    rcases h.seen.ff k hk with h1 | h1
    · exact .inl h1
    · simp only [baseS, not_and, Classical.not_not] at h1
      rcases Nat.lt_or_ge k w1.heap.size with hlt | hge
      · exact .inr (.inr (h1 hlt))
      · exact .inr (.inl hge)
  have hFc : ∀ k, c.F k → c'.F k := fun k hk => by
    cases vw with
    | true => exact hk
    | false => exact h.F k hk
  have hSame : Same c.F w1 W := fun k hk => h.sg.same h.stood (.inl hk)
  have hpin : ∀ r k, r ∈ rs → c.ρ r = .pointer (some ⟨k, 0, none⟩) → c.o r = some k → rs.idxOf r < cm.m ∧ cm.ρ (rs.idxOf r) = .pointer (some ⟨k, 0, none⟩) ∧ cm.o (rs.idxOf r) = some k := by
    intro r k hr he ho
    have hl := List.idxOf_lt_length_iff.2 hr
    exact h.seen.pn (rs.idxOf r) k (by
      show (if rs.idxOf r < rs.length then pinAt c (rs.getD (rs.idxOf r) 0) else none) = some k
      rw [if_pos hl, getD_lt hl, List.getElem_idxOf hl]
      simp only [pinAt, he, ho, if_true])
  have hρn : ∀ {r}, r < c.m → r ∉ rs → c'.ρ r = c.ρ r := fun {r} hr hn => by
    show (if r ∈ rs then _ else if r < c.m then _ else _) = _
    rw [if_neg hn, if_pos hr]
  have hon : ∀ {r}, r < c.m → r ∉ rs → c'.o r = c.o r := fun {r} hr hn => by
    show (if r ∈ rs then _ else if r < c.m then _ else _) = _
    rw [if_neg hn, if_pos hr]
  have hcm' : c.m ≤ c'.m := Nat.le_add_right _ _
  have hσ : ∀ v x, Loc v → Rv w1 c v x → Rv W c' (restV rs v) x := by
    refine loc_cases ?_ ?_ ?_ ?_
    · intro r x hx
      obtain ⟨hr, rfl, A, n, cap, he⟩ := hx.own_inv
      simp only [restV]
      split
      · exact .dead _ _ _
      · rename_i hn
        rw [he]
        exact .own r (by omega) A n cap ((hρn hr hn).trans he)
    · intro r o x hx
      obtain ⟨hr, b, he, rfl⟩ := hx.ref_inv
      simp only [restV]
      by_cases hn : r ∈ rs
      · obtain ⟨b0, hb0, hne⟩ := hng r hn
        have hB := hf.hp r b0 hb0
        have ho : c.o r = some b := by
          cases hB with
          | box _ ty k xs hρ ho => rw [hρ] at he; simp only [Value.pointer.injEq, Option.some.injEq, Addr.mk.injEq, and_true] at he; subst he; exact ho
          | sb ty _ k y z hρ ho => rw [hρ] at he; simp only [Value.pointer.injEq, Option.some.injEq, Addr.mk.injEq, and_true] at he; subst he; exact ho
          | it _ _ k hρ ho => rw [hρ] at he; simp only [Value.pointer.injEq, Option.some.injEq, Addr.mk.injEq, and_true] at he; subst he; exact ho
          | gone => exact absurd rfl hne
          | rowNil _ _ _ _ hρ => rw [hρ] at he; cases he
          | rowFull _ _ _ _ _ _ _ hρ => rw [hρ] at he; cases he
          | row _ _ _ _ _ _ _ _ _ _ hρ => rw [hρ] at he; cases he
          | mp _ _ _ _ _ _ _ _ hρ => rw [hρ] at he; cases he
          | lit _ _ _ _ _ _ _ hρ => rw [hρ] at he; cases he
          | bsNil _ hρ => rw [hρ] at he; cases he
          | finNil _ hρ => rw [hρ] at he; cases he
          | fin _ _ _ _ _ _ hρ => rw [hρ] at he; cases he
          | bs _ _ _ _ _ _ hρ => rw [hρ] at he; cases he
        obtain ⟨_, p2, _⟩ := hpin r b hn he ho
        refine .ref r o b (by omega) ?_
        show (if r ∈ rs then _ else _) = _
        rw [if_pos hn, p2]
      · exact .ref r o b (by omega) ((hρn hr hn).trans he)
    · intro r s i o x hx
      obtain ⟨hr, b, n, cap, he, rfl⟩ := hx.wptr_inv
      simp only [restV]
      split
      · exact .dead _ _ _
      · rename_i hn
        exact .wptr r s i o b n cap (by omega) ((hρn hr hn).trans he)
    · intro r x hx
      obtain ⟨hr, b, he, rfl⟩ := hx.mp_inv
      simp only [restV]
      split
      · exact .dead _ _ _
      · rename_i hn
        exact .mp r b (by omega) ((hρn hr hn).trans he)
  have hsub := fun u x (hu : Rv w1 c u x) => Rv.sub (w' := W) (c' := c') hSame hFc hσ dep u x hu
  have hτ : vw = false → ∀ v x, Loc v → Rv W cm v x → Rv W c' (homeV vw rs st.h.length sm.h v) x := by
    intro _
    refine loc_cases ?_ ?_ ?_ ?_
    · intro i x hx
      obtain ⟨hr, rfl, A, n, cap, he⟩ := hx.own_inv
      simp only [homeV]
      split
      · rw [he]
        exact .own _ (home i hr).1 A n cap ((home i hr).2.1.trans he)
      · exact .dead _ _ _
    · intro i o x hx
      obtain ⟨hr, b, he, rfl⟩ := hx.ref_inv
      simp only [homeV]
      split
      · exact .ref _ o b (home i hr).1 ((home i hr).2.1.trans he)
      · exact .dead _ _ _
    · intro i s j o x hx
      obtain ⟨hr, b, n, cap, he, rfl⟩ := hx.wptr_inv
      simp only [homeV]
      split
      · exact .wptr _ s j o b n cap (home i hr).1 ((home i hr).2.1.trans he)
      · exact .dead _ _ _
    · intro i x hx
      obtain ⟨hr, b, he, rfl⟩ := hx.mp_inv
      simp only [homeV]
      split
      · exact .mp _ b (home i hr).1 ((home i hr).2.1.trans he)
      · exact .dead _ _ _
  have hFm : vw = false → ∀ k, cm.F k → c'.F k := fun hv k hk => by subst hv; exact hk
  have hlen : (mergeH vw rs st.h sm.h).length = c'.m := by
    show _ = c.m + (cm.m - rs.length)
    simp [mergeH, hcm, hmm]
  refine ⟨c', ⟨?_, ?_, by simpa using hf.ls, ?_, hlen.symm, ?_, ?_, ?_, ?_, ?_, ?_, h.all.dn, hf.bs, ?_, ?_⟩⟩
  · show (mergeT _ _ _ _ _ _).length = _
    rw [mergeT_length]; exact h.all.len
  · intro i z x hz hx
    obtain ⟨u, hu, hcase⟩ := mergeT_get _ _ _ _ _ _ i z hz
    rcases hcase with rfl | ⟨v, hv, rfl⟩
    · exact hsub u x ((h.all.tm i u x hu hx).mono (c' := c) (Same.refl _ _) (fun _ hk => hk) (Nat.le_refl _) fun _ _ => rfl)
    · have hvx := h.seen.tm i v x hv hx
      cases vw with
      | false => exact Rv.sub (Same.refl _ _) (hFm rfl) (hτ rfl) dep v x hvx
      | true =>
        simp only [lateV]
        split
        · split
          · obtain ⟨hr, rfl, A, n, cap, he⟩ := hvx.own_inv
            rw [he]
            exact .own _ (home _ hr).1 A n cap ((home _ hr).2.1.trans he)
          · exact .dead _ _ _
        · exact .dead _ _ _
  · intro i vs xs hv hx
    obtain ⟨us, hu, rfl⟩ := getElem?_map_some hv
    refine ⟨by simpa using (hf.sv i us xs hu hx).1, fun j v x hv' hx' => ?_⟩
    obtain ⟨u, hu', rfl⟩ := getElem?_map_some hv'
    exact hsub u x ((hf.sv i us xs hu hx).2 j u x hu' hx')
  · intro r b hr
    have hr : (mergeH vw rs st.h sm.h)[r]? = some b := hr
    simp only [mergeH] at hr
    rcases Nat.lt_or_ge r c.m with hlt | hge
    · rw [List.getElem?_append_left (by simp; omega), List.getElem?_mapIdx, Option.map_eq_some_iff] at hr
      obtain ⟨b0, hb0, rfl⟩ := hr
      split
      · rename_i hmem
        have hl := List.idxOf_lt_length_iff.2 hmem
        have hvw : vw = false := by
          cases vw with
          | false => rfl
          | true => rw [h.sg.em rfl] at hmem; cases hmem
        by_cases hi : rs.idxOf r < sm.h.length
        · have hb1 : sm.h[rs.idxOf r]? = some (sm.h.getD (rs.idxOf r) .gone) := by rw [List.getD_eq_getElem?_getD, List.getElem?_eq_getElem hi, Option.getD_some]
          refine (h.seen.hp _ _ hb1).sub (Same.refl _ _) (hFm hvw) (hτ hvw) (fun _ _ => rfl) ?_ ?_
          · show (if r ∈ rs then _ else _) = _
            rw [if_pos hmem]
          · show (if r ∈ rs then _ else _) = _
            rw [if_pos hmem, if_pos (by omega)]
        · have : sm.h.getD (rs.idxOf r) .gone = .gone := by rw [List.getD_eq_getElem?_getD, List.getElem?_eq_none (by omega)]; rfl
          rw [this]
          refine .gone ?_
          show (if r ∈ rs then _ else _) = _
          rw [if_pos hmem, if_neg (by omega)]
      · rename_i hmem
        refine (hf.hp r b0 hb0).sub hSame hFc hσ (fun k ho => ?_) (hρn hlt hmem) (hon hlt hmem)
        exact h.sg.same h.stood (.inr ⟨r, hlt, by show (if r ∈ rs then none else c.o r) = some k; rw [if_neg hmem]; exact ho⟩)
    · rw [List.getElem?_append_right (by simp; omega)] at hr
      simp only [List.length_mapIdx] at hr
      obtain ⟨b0, hb0, hbe⟩ := getElem?_map_some (f := fun b => if keepR vw b then b.sub (homeV vw rs st.h.length sm.h) else B.gone) hr
      rw [List.getElem?_drop] at hb0
      have hj : rs.length + (r - st.h.length) = r - c.m + rs.length := by omega
      rw [hj] at hb0
      have hjl : r - c.m + rs.length < cm.m := by rw [hmm]; exact (List.getElem?_eq_some_iff.1 hb0).1
      have hkq : keepQ vw sm.h (r - c.m + rs.length) = keepR vw b0 := by simp only [keepQ, hb0]
      have hhn : homeN rs st.h.length (r - c.m + rs.length) = r := by
        unfold homeN
        rw [if_neg (by omega)]
        omega
      obtain ⟨_, hρ2, _, ho2⟩ := home _ hjl
      rw [hhn] at hρ2 ho2
      have ho2 := ho2 (by omega)
      rw [hkq] at ho2
      split at hbe
      · rename_i hfl
        subst hbe
        rw [if_pos hfl] at ho2
        have hB := h.seen.hp _ _ hb0
        cases vw with
        | false => exact hB.sub (Same.refl _ _) (hFm rfl) (hτ rfl) (fun _ _ => rfl) hρ2 ho2
        | true =>
          have hfl : flatRow b0 = true := hfl
          unfold flatRow at hfl
          split at hfl <;> (try cases hfl)
          rename_i nn ty G hq1 hq2
          generalize hg : Cells.typ ty G = g at hB
          simp only [B.sub]
          cases hB with
          | rowNil _ _ _ hz hρ' ho'' => subst hg; exact .rowNil _ _ _ hz (hρ2.trans hρ') (ho2.trans ho'')
          | rowFull _ _ _ _ _ _ hw => cases hw
          | row _ _ _ cap _ tt k xs fz hz hρ' ho'' hk hfz hs hc h1 hgl hh =>
            subst hg
            refine .row _ _ _ cap _ tt k xs fz hz (hρ2.trans hρ') (ho2.trans ho'') hk hfz hs hc h1 hgl fun i jj u hi hu => ?_
            obtain ⟨x, hx1, hx2⟩ := hh i jj u hi hu
            exact ⟨x, hx1, (scalar_rd dep u (flat_scalar ty (by first | exact hfl | exact hq1) _ jj u hu) (Rv.im (c := cm) _ _ hx2)).1⟩
      · rename_i hfl
        subst hbe
        rw [if_neg hfl] at ho2
        exact .gone ho2
  · intro r s k hr hs hk hk'
    rcases hsplit r k hr hk with ⟨h1, h2, h3⟩ | ⟨i, h1, rfl, h3⟩ <;> rcases hsplit s k hs hk' with ⟨h4, h5, h6⟩ | ⟨j, h4, rfl, h6⟩
    · exact hf.inj r s k h1 h4 h3 h6
    · exact absurd (hK j k h4 h6) (hLr r k h1 h2 h3)
    · exact absurd (hK i k h1 h3) (hLr s k h4 h5 h6)
    · rw [h.seen.inj i j k h1 h4 h3 h6]
  · intro r k hr hk hKk
    rcases hsplit r k hr hk with ⟨h1, h2, h3⟩ | ⟨i, h1, rfl, h3⟩
    · exact hf.ge r k h1 h3 hKk
    · exact hLK k hKk (hK i k h1 h3)
  · intro r k hr hk hF
    rcases hsplit r k hr hk with ⟨h1, h2, h3⟩ | ⟨i, h1, rfl, h3⟩
    · cases vw with
      | true => exact hf.nF r k h1 h3 hF
      | false =>
        rcases hFK k rfl hF with h4 | h4
        · exact hf.nF r k h1 h3 h4
        · exact hLr r k h1 h2 h3 h4
    · cases vw with
      | true =>
        rcases hK i k h1 h3 with h4 | ⟨s, hs, _⟩
        · have := hf.lt k hF; omega
        · rw [h.sg.em rfl] at hs; cases hs
      | false => exact h.seen.nF i k h1 h3 hF
  · intro k hk
    cases vw with
    | true => exact Nat.lt_of_lt_of_le (hf.lt k hk) h.stood.size
    | false => exact h.seen.lt k hk
  · exact hf.bel.trans (h.stood.mono fun k hk => ⟨hf.base_le k hk, fun hl => hLK k hk (.inr hl)⟩)
  · intro k hk
    cases vw with
    | true => exact hf.ff k hk
    | false =>
      rcases hFK k rfl hk with h4 | h4
      · exact hf.ff k h4
      · exact .inr fun hKk => hLK k hKk h4
  · intro j k hj
    obtain ⟨h1, h2, h3⟩ := hf.pn j k hj
    by_cases hn : j ∈ rs
    · obtain ⟨p1, p2, p3⟩ := hpin j k hn h2 h3
      refine ⟨by omega, ?_, ?_⟩
      · show (if j ∈ rs then _ else _) = _
        rw [if_pos hn, p2]
      · show (if j ∈ rs then _ else _) = _
        rw [if_pos hn, if_pos p1, p3]
    · exact ⟨by omega, (hρn h1 hn).trans h2, (hon h1 hn).trans h3⟩

theorem evLive_sound {call : CallT α} (hcall : CallOK P call) {vw : Bool} {rs ex : List Nat} {id : Nat} {ops : Array Oper} (h : Rel base w0 ks st a w c) {k : St → Option α} (he : evLive P call vw rs ex ops st k = some res) {Q : Exit → Act → World → Prop}
    (hQ : ∀ st' a' w' c', k st' = some res → Rel base w0 ks st' a' w' c' → Q .normal a' w') : (Code.region id ops true).wp P Q a w := by
  unfold evLive at he
  split at he <;> (try cases he)
  rename_i hok
  simp only [Bool.and_eq_true, decide_eq_true_eq, List.all_eq_true] at hok
  obtain ⟨⟨⟨⟨hm, hsel⟩, hnd⟩, hall⟩, hem⟩ := hok
  have hng : ∀ r ∈ rs, ∃ b, st.h[r]? = some b ∧ b ≠ .gone := by
    intro r hr
    have := hall r hr
    split at this
    · cases this
    · rename_i b hb hne
      exact ⟨b, by assumption, fun e => by subst e; first | exact hb rfl | exact hne rfl | simp_all⟩
    · cases this
  have hlt : ∀ r ∈ rs, r < st.h.length := fun r hr => by obtain ⟨b, hb, _⟩ := hng r hr; exact (List.getElem?_eq_some_iff.1 hb).1
  have hem' : vw = true → rs = [] := by
    intro hv
    subst hv
    simpa using hem
  let Q' : Exit → Act → World → Prop := fun e a w => match e with | .normal => Q .normal a w | _ => False
  refine wp_mono (Q := Q') ?_ ?_
  · refine wp_region_held (S := Stood w.drew c rs) hm ?_
    refine evStill_sound (Q := Q') (st := st) (c := c) (base := base) (w0 := w0) (ks := ks) (vw := vw) (rs := rs) hcall hsel (fun ch a w h => h) (fun sm t' a' w' cm hk hb => ?_) _ _ _ _ he _ _ [] w.drew a w.drew (cxS vw w.drew c rs)
      ⟨⟨⟨a, h.drew⟩, hnd, hlt, hem'⟩, h.drew.rest rs, (h.drew.live vw hnd hlt hem').rebase (fun k hk => hk.elim (fun h => h) fun hk => by cases hk) rfl rfl (Keep.refl _ _) ⟨fun k hk => hk.elim (fun hk => hk.1) fun hk => (by cases hk), fun k hk => .inl ((h.drew.live vw hnd hlt hem').bs.blk k hk), (h.drew.live vw hnd hlt hem').bs.tab⟩, fun k hk => hk, Keep.refl _ _, fun z k hz => by cases hz⟩ (Ahead.nil _ _ _ _ _) (cnt_rep _)
    obtain ⟨c', hr⟩ := hb.merge hng
    exact hQ _ a' w' c' hk hr
  · intro e a' w' hq
    cases e with
    | normal => exact hq
    | _ => exact hq.elim
end
end Go.Rv
