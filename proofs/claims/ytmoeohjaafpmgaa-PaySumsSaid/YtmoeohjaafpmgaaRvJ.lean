/- Rv, part J: rows that are written no more; stores; append. Of no program. -/
import Derived.Test.YtmoeohjaafpmgaaRvI
import Derived.Laws.CopyRow
set_option linter.unusedVariables false
set_option linter.unusedSimpArgs false
set_option linter.unusedSectionVars false
namespace Go.Rv
open Go Go.RowKit
variable [Fx]
section
variable {P : Program} {base : Base} {w0 : World} {ks : List (Array Value)} {st : St} {a : Act} {w : World} {c : Cx} {o : Oper} {v : V} {bs : List B} {b : Bool}

/-- A substitution over all, the local heap told anew; no memory turns. -/
theorem Rel.turn (h : Rel base w0 ks st a w c) {c' : Cx} {σ : V → V} {h' : List B} (hF : ∀ k, c.F k → c'.F k) (hlt : ∀ k, c'.F k → k < w.heap.size) (hff : ∀ k, c'.F k → base.F k ∨ ¬ base.K k) (hpn : Pin base c') (hσ : ∀ v x, Loc v → Rv w c v x → Rv w c' (σ v) x) (hm : c'.m = h'.length)
    (hB : ∀ (r : Nat) b, h'[r]? = some b → BR w c' r b) (inj : ∀ r s k, r < c'.m → s < c'.m → c'.o r = some k → c'.o s = some k → r = s) (ge : ∀ r k, r < c'.m → c'.o r = some k → ¬ base.K k) (nF : ∀ r k, r < c'.m → c'.o r = some k → ¬ c'.F k) :
    Rel base w0 ks { t := st.t.map (V.sub σ dep), s := st.s.map (·.map (V.sub σ dep)), h := h' } a w c' := by
  have up := fun {v : V} {x : Value} (hv : Rv w c v x) => Rv.sub (w := w) (w' := w) (Same.refl c.F w) hF hσ dep v x hv
  refine ⟨by simp [h.len], fun i v x hv hx => ?_, by simp [h.ls], fun i vs xs hv hx => ?_, hm, hB, inj, ge, nF, hlt, h.bel, h.dn, h.bs, hff, hpn⟩
  · obtain ⟨u, hu, rfl⟩ := getElem?_map_some hv
    exact up (h.tm i u x hu hx)
  · obtain ⟨us, hus, rfl⟩ := getElem?_map_some hv
    obtain ⟨h1, h2⟩ := h.sv i us xs hus hx
    refine ⟨by simpa using h1, fun j v x hv hx => ?_⟩
    obtain ⟨u, hu, rfl⟩ := getElem?_map_some hv
    exact up (h2 j u x hu hx)

/-- The rows of which p holds are written no more. -/
def Cx.freeze (c : Cx) (p : Nat → Bool) : Cx := { c with F := fun k => c.F k ∨ ∃ r, r < c.m ∧ p r = true ∧ c.o r = some k, o := fun r => if p r then none else c.o r }

theorem row_reads {F' : Foot} {r : Nat} (hB : ∀ {k : Nat}, c.o r = some k → F' k) {wr nl : Bool} {sz n : Nat} {g : Cells} (h : BR w c r (.row wr nl sz n g)) (hF : ∀ k, c.F k → F' k) : Rd w F' (.sl nl sz n g) (c.ρ r) := by
  cases h with
  | rowNil _ sz g hz hρ ho => rw [hρ]; exact .slNil _ _
  | rowFull _ sz n g A hz hw hρ ho h => rw [hρ]; exact h.mono (Same.refl _ _) hF
  | row _ sz n cap g ty k xs fz hz hρ ho hk hfz hs hc h1 hg h =>
    rw [hρ]
    have hbd : ∀ i j, i < n → j < sz → i * sz + j < xs.size := by
      intro i j hi hj
      have : (i + 1) * sz ≤ cap * sz := Nat.mul_le_mul_right _ (by omega)
      rw [Nat.add_mul, Nat.one_mul] at this
      omega
    refine .sl sz n cap g k 0 (fun i j => xs.getD (i * sz + j) undef) hc (hB ho) hg (fun i j hi hj => ?_) fun i j u hi hu => ?_
    · have hlt := hbd i j hi hj
      rw [Nat.zero_add, cellAt hk, Array.getElem?_eq_getElem hlt]
      simp only [Array.getD_eq_getD_getElem?, Array.getElem?_eq_getElem hlt, Option.getD_some, true_and]
      exact h1 _ _ (Array.getElem?_eq_getElem hlt)
    · have hj : j < sz := by rw [← hg i hi]; exact (List.getElem?_eq_some_iff.1 hu).1
      have hlt := hbd i j hi hj
      obtain ⟨x, hx, hr⟩ := h i j u hi hu
      simp only [Array.getD_eq_getD_getElem?, hx, Option.getD_some]
      exact hr.mono (Same.refl _ _) hF

/-- Freezing, in general. -/
theorem BR.row_slice {r : Nat} {wr nl : Bool} {sz n : Nat} {g : Cells} (h : BR w c r (.row wr nl sz n g)) : ∃ A n cap, c.ρ r = .slice A n cap := by
  cases h with
  | rowNil _ _ _ _ hρ => exact ⟨_, _, _, hρ⟩
  | rowFull _ _ _ _ _ _ _ hρ => exact ⟨_, _, _, hρ⟩
  | row _ _ _ _ _ _ _ _ _ _ hρ => exact ⟨_, _, _, hρ⟩
theorem Rel.pin_row (h : Rel base w0 ks st a w c) {r k : Nat} {wr nl : Bool} {sz n : Nat} {g : Cells} (hp : base.pin r = some k) (hb : st.h[r]? = some (.row wr nl sz n g)) : False := by
  obtain ⟨A, m, cap, e⟩ := (h.hp r _ hb).row_slice
  rw [(h.pn r k hp).2.1] at e
  cases e

theorem Rel.freeze (h : Rel base w0 ks st a w c) (p : Nat → Bool) (hpb : ∀ r k, base.pin r = some k → p r = false) (σ : V → V) (h' : List B) (hl : h'.length = st.h.length)
    (hσ : ∀ v x, Loc v → Rv w c v x → Rv w (c.freeze p) (σ v) x)
    (hh : ∀ r, r < st.h.length → (p r = false ∧ h'[r]? = (st.h[r]?).map (B.sub σ)) ∨ (p r = true ∧ h'[r]? = some .gone)) :
    Rel base w0 ks { t := st.t.map (V.sub σ dep), s := st.s.map (·.map (V.sub σ dep)), h := h' } a w (c.freeze p) := by
  have hF : ∀ k, c.F k → (c.freeze p).F k := fun k hk => .inl hk
  refine h.turn hF ?_ ?_ ?_ hσ ?_ ?_ ?_ ?_ ?_
  · rintro k (hk | ⟨r, hr, _, ho⟩)
    · exact h.lt k hk
    · exact h.owned_lt hr ho
  · rintro k (hk | ⟨r, hr, _, ho⟩)
    · exact h.ff k hk
    · exact .inr (h.ge r k hr ho)
  · intro j k hj
    obtain ⟨h1, h2, h3⟩ := h.pn j k hj
    exact ⟨h1, h2, by simp [Cx.freeze, hpb j k hj, h3]⟩
  · show c.m = h'.length
    rw [hl, h.hm]
  · intro r b hb
    have hr : r < st.h.length := by rw [← hl]; exact (List.getElem?_eq_some_iff.1 hb).1
    rcases hh r hr with ⟨hp, he⟩ | ⟨hp, he⟩
    · rw [he, List.getElem?_eq_getElem hr] at hb
      simp only [Option.map_some, Option.some.injEq] at hb
      subst hb
      exact (h.hp r _ (List.getElem?_eq_getElem hr)).sub (Same.refl _ _) hF hσ (fun _ _ => rfl) rfl (by simp [Cx.freeze, hp])
    · rw [he] at hb
      cases hb
      exact .gone (by simp [Cx.freeze, hp])
  · intro r s k hr hs hk hk'
    simp only [Cx.freeze] at hk hk'
    split at hk <;> (try cases hk)
    split at hk' <;> (try cases hk')
    rename_i h1 h2
    exact h.inj r s k hr hs (by assumption) (by assumption)
  · intro r k hr hk
    simp only [Cx.freeze] at hk
    split at hk <;> (try cases hk)
    exact h.ge r k hr (by assumption)
  · intro r k hr hk
    simp only [Cx.freeze] at hk
    split at hk
    · cases hk
    · rename_i hp
      rintro (hf | ⟨s, hs, hp', ho⟩)
      · exact h.nF r k hr hk hf
      · have := h.inj r s k hr hs hk ho
        subst this
        exact hp hp'

theorem loc_cases {p : V → Value → Prop} (h1 : ∀ r x, p (.own r) x) (h2 : ∀ r o x, p (.ref r o) x) (h3 : ∀ r s i o x, p (.wptr r s i o) x) (h4 : ∀ r x, p (.mp r) x) : ∀ v x, Loc v → p v x := by
  intro v x hv
  cases v <;> first | exact h1 _ _ | exact h2 _ _ _ | exact h3 _ _ _ _ _ | exact h4 _ _ | exact absurd hv (by simp [Loc])

theorem Rel.frz (h : Rel base w0 ks st a w c) (r : Nat) : ∃ c', Rel base w0 ks (st.frz r) a w c' ∧ (∀ k, c.F k → c'.F k) ∧ c'.m = c.m ∧ (st.frz r).h.length = st.h.length := by
  unfold St.frz
  split
  · rename_i wr nl sz n g hb
    obtain ⟨hr, hB⟩ := h.at hb
    refine ⟨c.freeze fun s => s == r, ?_, fun k hk => .inl hk, rfl, (by show ((st.h.map (B.sub _)).set r .gone).length = _; simp)⟩
    refine h.freeze _ (fun s k hs => by
      rw [beq_eq_false_iff_ne]
      rintro rfl
      exact h.pin_row hs hb) _ _ (by show ((st.h.map (B.sub _)).set r .gone).length = _; simp) ?_ ?_
    · refine loc_cases ?_ ?_ ?_ ?_
      · intro s x hv
        obtain ⟨hs, rfl, A, m, cap, he⟩ := hv.own_inv
        unfold frzV
        simp only
        split
        · rename_i e
          subst e
          exact .im _ _ (row_reads (fun ho => .inr ⟨s, hr, by simp, ho⟩) hB fun k hk => .inl hk)
        · rw [he]
          exact Rv.own (c := c.freeze fun s => s == r) s hs A m cap he
      · intro s off x hv
        obtain ⟨hs, k, he, rfl⟩ := hv.ref_inv
        exact .ref s off k hs he
      · intro s sz' i off x hv
        obtain ⟨hs, k, m, cap, he, rfl⟩ := hv.wptr_inv
        unfold frzV
        simp only
        split
        · exact .dead _ _ _
        · exact .wptr s sz' i off k m cap hs he
      · intro s x hv
        obtain ⟨hs, k, he, rfl⟩ := hv.mp_inv
        exact .mp s k hs he
    · intro s hs
      by_cases e : s = r
      · subst e
        right
        refine ⟨by simp, ?_⟩
        show ((st.h.map (B.sub _)).set s .gone)[s]? = _
        rw [List.getElem?_set, if_pos rfl, if_pos (by simpa using hs)]
      · left
        refine ⟨by simp [e], ?_⟩
        show ((st.h.map (B.sub _)).set r .gone)[s]? = _
        rw [List.getElem?_set, if_neg (fun h => e h.symm), List.getElem?_map]
  · exact ⟨c, h, fun _ hk => hk, rfl, rfl⟩

theorem Rel.frzs (rs : List Nat) : ∀ {st : St} {c : Cx}, Rel base w0 ks st a w c → ∃ c', Rel base w0 ks (st.frzs rs) a w c' ∧ (∀ k, c.F k → c'.F k) ∧ c'.m = c.m ∧ (st.frzs rs).h.length = st.h.length := by
  induction rs with
  | nil => intro st c h; exact ⟨c, h, fun _ hk => hk, rfl, rfl⟩
  | cons r rs ih =>
    intro st c h
    obtain ⟨c1, h1, hF1, hm1, hl1⟩ := h.frz r
    obtain ⟨c2, h2, hF2, hm2, hl2⟩ := ih h1
    exact ⟨c2, h2, fun k hk => hF2 k (hF1 k hk), hm2.trans hm1, hl2.trans hl1⟩

/-- Places from m on are forgotten. -/
theorem Rel.trim (h : Rel base w0 ks st a w c) (m : Nat) (hpm : ∀ j k, base.pin j = some k → j < m) : Rel base w0 ks (st.trim m) a w { c with m := min m c.m } := by
  have hσ : ∀ v x, Loc v → Rv w c v x → Rv w { c with m := min m c.m } (cutV m v) x := by
    refine loc_cases ?_ ?_ ?_ ?_
    · intro s x hv
      obtain ⟨hs, rfl, A, n, cap, he⟩ := hv.own_inv
      simp only [cutV]
      split
      · rename_i hlt
        rw [he]
        exact .own s (by show s < min m c.m; omega) _ _ _ he
      · exact .dead _ _ _
    · intro s off x hv
      obtain ⟨hs, k, he, rfl⟩ := hv.ref_inv
      simp only [cutV]
      split
      · rename_i hlt
        exact .ref s off k (by show s < min m c.m; omega) he
      · exact .dead _ _ _
    · intro s sz' i off x hv
      obtain ⟨hs, k, n, cap, he, rfl⟩ := hv.wptr_inv
      simp only [cutV]
      split
      · rename_i hlt
        exact .wptr s sz' i off k n cap (by show s < min m c.m; omega) he
      · exact .dead _ _ _
    · intro s x hv
      obtain ⟨hs, k, he, rfl⟩ := hv.mp_inv
      simp only [cutV]
      split
      · rename_i hlt
        exact .mp s k (by show s < min m c.m; omega) he
      · exact .dead _ _ _
  refine h.turn (c' := { c with m := min m c.m }) (fun _ hk => hk) h.lt h.ff (fun j k hj => ⟨by have := hpm j k hj; have := (h.pn j k hj).1; show j < min m c.m; omega, (h.pn j k hj).2⟩) hσ ?_ ?_ (fun r s k hr hs => h.inj r s k (by simp at hr; omega) (by simp at hs; omega)) (fun r k hr => h.ge r k (by simp at hr; omega)) fun r k hr => h.nF r k (by simp at hr; omega)
  · have := h.hm
    simp [St.sub]
    omega
  · intro r b hb
    have hb : ((st.h.map (B.sub (cutV m))).take m)[r]? = some b := hb
    rw [List.getElem?_take] at hb
    split at hb <;> (try cases hb)
    obtain ⟨b', hb', rfl⟩ := getElem?_map_some hb
    exact (h.hp r b' hb').sub (Same.refl _ _) (fun _ hk => hk) hσ (fun _ _ => rfl) rfl rfl

/-- Of temporaries nothing is known. -/
theorem Rel.mask (h : Rel base w0 ks st a w c) (keep : List Nat) : Rel base w0 ks { st with t := maskL keep 0 st.t } a w c := by
  have hl : ∀ (l : List V) (i : Nat), (maskL keep i l).length = l.length := by
    intro l
    induction l with
    | nil => intro i; rfl
    | cons v l ih => intro i; simp [maskL, ih]
  have hg : ∀ (l : List V) (i j : Nat) (v : V), (maskL keep i l)[j]? = some v → v = .dead ∨ l[j]? = some v := by
    intro l
    induction l with
    | nil => intro i j v hv; simp [maskL] at hv
    | cons u l ih =>
      intro i j v hv
      cases j with
      | zero =>
        simp only [maskL, List.getElem?_cons_zero, Option.some.injEq] at hv
        split at hv
        · exact .inr (by simp [hv])
        · exact .inl hv.symm
      | succ j =>
        simp only [maskL, List.getElem?_cons_succ] at hv
        simpa using ih (i + 1) j v hv
  refine ⟨by simpa [hl] using h.len, fun i v x hv hx => ?_, h.ls, h.sv, h.hm, h.hp, h.inj, h.ge, h.nF, h.lt, h.bel, h.dn, h.bs, h.ff, h.pn⟩
  rcases hg _ _ _ _ hv with rfl | hv
  · exact .dead _ _ _
  · exact h.tm i v x hv hx

/-- A loop's head. -/
theorem Rel.head (h : Rel base w0 ks st a w c) (keep rows : List Nat) (m : Nat) (hpm : ∀ j k, base.pin j = some k → j < m) : ∃ c', Rel base w0 ks (st.head keep rows m) a w c' ∧ (∀ k, c.F k → c'.F k) := by
  let p : Nat → Bool := fun s => decide (s ∉ rows) && match st.h[s]? with | some (.row _ _ _ _ _) => true | _ => false
  have hσ : ∀ v x, Loc v → Rv w c v x → Rv w (c.freeze p) (headV st.h rows v) x := by
    refine loc_cases ?_ ?_ ?_ ?_
    · intro s x hv
      obtain ⟨hs, rfl, A, n, cap, he⟩ := hv.own_inv
      simp only [headV]
      split
      · rw [he]; exact Rv.own (c := c.freeze p) s hs A n cap he
      · rename_i hn
        split
        · rename_i wr nl sz n' g hb
          have hB := (h.at hb).2
          exact .im _ _ (row_reads (fun ho => .inr ⟨s, hs, by simp [p, hn, hb], ho⟩) hB fun k hk => .inl hk)
        · exact .dead _ _ _
    · intro s off x hv
      obtain ⟨hs, k, he, rfl⟩ := hv.ref_inv
      exact .ref s off k hs he
    · intro s sz' i off x hv
      obtain ⟨hs, k, n, cap, he, rfl⟩ := hv.wptr_inv
      simp only [headV]
      split
      · exact .wptr s sz' i off k n cap hs he
      · exact .dead _ _ _
    · intro s x hv
      obtain ⟨hs, k, he, rfl⟩ := hv.mp_inv
      exact .mp s k hs he
  have hgl : ∀ (l : List B) (i : Nat), (goneB rows i l).length = l.length := by
    intro l
    induction l with
    | nil => intro i; rfl
    | cons v l ih => intro i; simp [goneB, ih]
  have hgg : ∀ (l : List B) (i j : Nat), (goneB rows i l)[j]? = (l[j]?).map fun b => if i + j ∈ rows then b else match b with | .row _ _ _ _ _ => .gone | b => b := by
    intro l
    induction l with
    | nil => intro i j; simp [goneB]
    | cons u l ih =>
      intro i j
      cases j with
      | zero => cases u <;> simp [goneB]
      | succ j =>
        simp only [goneB, List.getElem?_cons_succ]
        rw [ih (i + 1) j, show i + 1 + j = i + (j + 1) by omega]
  have h1 := h.freeze p (fun s k hs => by
    by_cases hn : s ∈ rows
    · simp [p, hn]
    · cases e : st.h[s]? with
      | none => simp [p, e]
      | some b =>
        cases b with
        | row wr nl sz n g => exact (h.pin_row hs e).elim
        | box cs => simp [p, e]
        | mp ka va kt vt m => simp [p, e]
        | lit sz n cs => simp [p, e]
        | sb T v => simp [p, e]
        | bs e' s' => simp [p, e]
        | it s' q' => simp [p, e]
        | fin e' s' => simp [p, e]
        | gone => simp [p, e]) (headV st.h rows) (goneB rows 0 (st.h.map (B.sub (headV st.h rows)))) (by simp [hgl]) hσ (by
    intro s hs
    rw [hgg, List.getElem?_map, List.getElem?_eq_getElem hs]
    simp only [Option.map_some, Nat.zero_add]
    by_cases hn : s ∈ rows
    · left
      simp [p, hn]
    · cases e : st.h[s] with
      | row wr nl sz n g =>
        right
        have : st.h[s]? = some (.row wr nl sz n g) := by rw [List.getElem?_eq_getElem hs, e]
        simp [p, hn, this, B.sub]
      | box cs =>
        left
        have : st.h[s]? = some (.box cs) := by rw [List.getElem?_eq_getElem hs, e]
        simp [p, hn, this, B.sub]
      | mp ka va kt vt m =>
        left
        have : st.h[s]? = some (.mp ka va kt vt m) := by rw [List.getElem?_eq_getElem hs, e]
        simp [p, hn, this, B.sub]
      | lit sz n cs =>
        left
        have : st.h[s]? = some (.lit sz n cs) := by rw [List.getElem?_eq_getElem hs, e]
        simp [p, hn, this, B.sub]
      | sb T v =>
        left
        have : st.h[s]? = some (.sb T v) := by rw [List.getElem?_eq_getElem hs, e]
        simp [p, hn, this, B.sub]
      | bs e' s' =>
        left
        have : st.h[s]? = some (.bs e' s') := by rw [List.getElem?_eq_getElem hs, e]
        simp [p, hn, this, B.sub]
      | it s' q' =>
        left
        have : st.h[s]? = some (.it s' q') := by rw [List.getElem?_eq_getElem hs, e]
        simp [p, hn, this, B.sub]
      | fin e' s' =>
        left
        have : st.h[s]? = some (.fin e' s') := by rw [List.getElem?_eq_getElem hs, e]
        simp [p, hn, this, B.sub]
      | gone =>
        left
        have : st.h[s]? = some .gone := by rw [List.getElem?_eq_getElem hs, e]
        simp [p, hn, this, B.sub])
  have h2 := (h1.mask keep).trim m hpm
  exact ⟨_, h2, fun k hk => .inl hk⟩

/-! ### Stores -/
theorem run_storeCells' {k off : Nat} {ty : TypeId} {fz : Nat × Nat} : ∀ (vs : List Value) (i : Nat) (cur : Array Value) (w : World), w.heap[k]? = some (.cells cur ty fz) → (∀ j, j < cur.size → ¬ (fz.1 ≤ j ∧ j < fz.2)) → off + i + vs.length ≤ cur.size → (∀ v ∈ vs, one v) →
    (storeCells ⟨k, off, none⟩ vs i).run P w = .ok () (w.setRow k (putAt cur.toList (off + i) vs).toArray)
  | [], i, cur, w, hg, _, _, _ => by
    have : (putAt cur.toList (off + i) ([] : List Value)).toArray = cur := by simp [putAt]
    rw [this, setRow_self w k cur ty fz hg]
    rfl
  | v :: rest, i, cur, w, hg, hfz, hl, h1 => by
    simp only [List.length_cons] at hl
    have hi : off + i < cur.size := by omega
    have hcell : w.cell? ⟨k, off + i, none⟩ = some cur[off + i] := by rw [cellAt hg, Array.getElem?_eq_getElem hi]
    have hfro : w.frozen? ⟨k, off + i, none⟩ = false := by
      obtain ⟨lo, hi'⟩ := fz
      simp only [World.frozen?, hg]
      have := hfz (off + i) hi
      simp only [Bool.and_eq_false_iff, decide_eq_false_iff_not]
      omega
    have hst : (store ((⟨k, off, none⟩ : Addr).add i) v).run P w = .ok () (w.setRow k (cur.setIfInBounds (off + i) v)) := by
      rw [addp, run_store P w _ v _ (h1 v (by simp)), hcell]
      simp [hfro, setCell_eq_setRow w k (off + i) cur ty fz v hg]
    have ih := run_storeCells' (off := off) rest (i + 1) (cur.setIfInBounds (off + i) v) (w.setRow k (cur.setIfInBounds (off + i) v)) (setRow_heap w k cur _ ty _ hg) (by simpa using hfz) (by simp; omega) (fun x hx => h1 x (by simp [hx]))
    simp only [storeCells, Sem.run_bind, hst, Result.andThen_ok, ih, setRow_setRow]
    congr 3
    apply List.ext_getElem?
    intro j
    rw [putAt_get _ _ _ (by simp; omega), putAt_get _ _ _ (by simp; omega)]
    simp only [Array.toList_setIfInBounds, List.length_cons, List.getElem?_set, Array.length_toList]
    by_cases h2 : j = off + i
    · subst h2
      rw [if_neg (by omega), if_pos rfl, if_pos (by omega), if_pos (by omega)]
      simp
    · by_cases h3 : off + (i + 1) ≤ j ∧ j < off + (i + 1) + rest.length
      · rw [if_pos h3, if_pos (by omega), show j - (off + i) = (j - (off + (i + 1))) + 1 by omega, List.getElem?_cons_succ]
      · rw [if_neg h3, if_neg (by omega), if_neg (by omega)]

/-- A block of the local heap's own is written: what lies there is told anew. -/
theorem Rel.write' (h : Rel base w0 ks st a w c) {r k : Nat} (hr : r < c.m) (ho : c.o r = some k) {w' : World} (hw : ∀ q, q ≠ k → w'.heap[q]? = w.heap[q]?) (hsz : w'.heap.size = w.heap.size) (hos : w'.os = w.os) (htp : w'.tape = w.tape) (hout : w'.output = w.output) {b : B} (hb : BR w' c r b) :
    Rel base w0 ks { st with h := st.h.set r b } a w' c := by
  have hs : Same c.F w w' := fun q hq => hw q (fun e => h.nF r k hr ho (e ▸ hq))
  have up : ∀ {v x}, Rv w c v x → Rv w' c v x := fun hv => hv.mono hs (fun _ hk => hk) (Nat.le_refl _) fun _ _ => rfl
  refine ⟨h.len, fun i v x hv hx => up (h.tm i v x hv hx), h.ls, fun i vs xs hv hx => ⟨(h.sv i vs xs hv hx).1, fun j v x hv' hx' => up ((h.sv i vs xs hv hx).2 j v x hv' hx')⟩, ?_, ?_, h.inj, h.ge, h.nF, fun q hq => by rw [hsz]; exact h.lt q hq, ?_, h.dn, h.bs, h.ff, h.pn⟩
  · show c.m = (st.h.set r b).length
    simp [h.hm]
  · intro s b' hb0
    have hb' : (st.h.set r b)[s]? = some b' := hb0
    clear hb0
    rw [List.getElem?_set] at hb'
    split at hb'
    · rename_i e
      subst e
      split at hb' <;> (try cases hb')
      exact hb
    · rename_i e
      obtain ⟨hs', hB⟩ := h.at hb'
      exact hB.mono hs (fun _ hk => hk) (Nat.le_refl _) (fun _ _ => rfl) (fun q hq => hw q (fun e' => e (h.inj r s k hr hs' ho (e' ▸ hq)))) hs' rfl
  · refine h.bel.trans ⟨hos, htp, hout, by omega, fun q hq => hw q (fun e => ?_)⟩
    exact h.ge r k hr ho (e ▸ hq)
/-- A place that owns no block is told anew. -/
theorem Rel.writeN (h : Rel base w0 ks st a w c) {r : Nat} (hr : r < c.m) (ho : c.o r = none) {w' : World} (hw : ∀ q : Nat, w'.heap[q]? = w.heap[q]?) (hsz : w'.heap.size = w.heap.size) (hos : w'.os = w.os) (htp : w'.tape = w.tape) (hout : w'.output = w.output) {b : B} (hb : BR w' c r b) :
    Rel base w0 ks { st with h := st.h.set r b } a w' c := by
  have hs : Same c.F w w' := fun q hq => hw q
  have up : ∀ {v x}, Rv w c v x → Rv w' c v x := fun hv => hv.mono hs (fun _ hk => hk) (Nat.le_refl _) fun _ _ => rfl
  refine ⟨h.len, fun i v x hv hx => up (h.tm i v x hv hx), h.ls, fun i vs xs hv hx => ⟨(h.sv i vs xs hv hx).1, fun j v x hv' hx' => up ((h.sv i vs xs hv hx).2 j v x hv' hx')⟩, ?_, ?_, h.inj, h.ge, h.nF, fun q hq => by rw [hsz]; exact h.lt q hq, ?_, h.dn, h.bs, h.ff, h.pn⟩
  · show c.m = (st.h.set r b).length
    simp [h.hm]
  · intro s b' hb0
    have hb' : (st.h.set r b)[s]? = some b' := hb0
    clear hb0
    rw [List.getElem?_set] at hb'
    split at hb'
    · rename_i e
      subst e
      split at hb' <;> (try cases hb')
      exact hb
    · obtain ⟨hs', hB⟩ := h.at hb'
      exact hB.mono hs (fun _ hk => hk) (Nat.le_refl _) (fun _ _ => rfl) (fun q hq => hw q) hs' rfl
  · exact h.bel.trans ⟨hos, htp, hout, by omega, fun q hq => hw q⟩
theorem Rel.write (h : Rel base w0 ks st a w c) {r k : Nat} (hr : r < c.m) (ho : c.o r = some k) (cs : Array Value) {b : B} (hb : BR (w.setRow k cs) c r b) : Rel base w0 ks { st with h := st.h.set r b } a (w.setRow k cs) c :=
  h.write' hr ho (fun q hq => setRow_other w k q cs (fun e => hq e)) (setRow_size w k cs) rfl rfl rfl hb

/-- The operation writes as the evaluator says. -/
def EffOK (P : Program) (base : Base) (w0 : World) (ks : List (Array Value)) (st : St) (a : Act) (w : World) (o : Oper) (v : V) (st' : St) : Prop :=
  ∃ x w' c', ((execOp a.eval o).run P w = .ok (.value x) w' ∨ (x = undef ∧ (execOp a.eval o).run P w = .ok .skip w')) ∧ Rel base w0 ks st' a w' c' ∧ Rv w' c' v x

theorem eff_store (h : Rel base w0 ks st a w c) {t : TypeId} {p x : Operand} {st' : St} (hop : o.op = .store t p x) (he : evEff P st o.type o.op = some (b, v, st')) (hb : b = true) : EffOK P base w0 ks st a w o v st' := by
  rw [hop] at he
  simp only [evEff] at he
  split at he <;> (try cases he)
  rename_i vs hvs
  split at he <;> (try cases he)
  rename_i hsz
  obtain ⟨hsz, hz⟩ := hsz
  obtain ⟨hl, h1, hh⟩ := cells_sound (h.evT (P := P) t x) hvs
  have hp := h.ev p
  have hstore : ∀ (k off : Nat) (cur : Array Value) (ty : TypeId) (fz : Nat × Nat), a.eval p = .pointer (some ⟨k, off, none⟩) → w.heap[k]? = some (.cells cur ty fz) → (∀ j, j < cur.size → ¬ (fz.1 ≤ j ∧ j < fz.2)) → off + vs.length ≤ cur.size →
      (execOp a.eval o).run P w = .ok .skip (w.setRow k (putAt cur.toList off (a.eval x).cells.toList).toArray) := by
    intro k off cur ty fz hk hg hfz hle
    have hst := run_storeCells' (P := P) (off := off) (a.eval x).cells.toList 0 cur w hg hfz (by simp; omega) (fun y hy => by
      obtain ⟨i, hi, rfl⟩ := List.getElem_of_mem hy
      exact h1 i _ (by simp at hi; simp [hi]))
    rw [Nat.add_zero] at hst
    have hne : ¬ ((a.eval x).cells.size ≠ sizeT P t) := by omega
    simp only [execOp, hop, Instr.storeAt, hk, Instr.sureAddr, storeVar, Sem.run_bind, Sem.run_pure, Result.andThen_ok, run_sizeT_pos hz, Sem.run_ite, if_neg hne, hst]
  split at he
  · rename_i r off ep
    rw [ep] at hp
    obtain ⟨hr, k, hk, hpk⟩ := hp.ref_inv
    split at he <;> (try cases he)
    rotate_left
    · rename_i T0 u0 hbx
      split at he <;> (try cases he)
      split at he <;> (try cases he)
      rename_i u hoff
      subst hoff
      obtain ⟨_, hB⟩ := h.at hbx
      cases hB with
      | sb ty _ k' y z hρ ho hk' hy h1' hh' =>
        rw [hρ] at hk
        simp only [Value.pointer.injEq, Option.some.injEq, Addr.mk.injEq, and_true] at hk
        subst hk
        have hrun := hstore k' 1 #[y, z] T0 (0, 0) hpk hk' (fun j _ => by omega) (by simp)
        have hs : Same c.F w (w.setRow k' (putAt (#[y, z] : Array Value).toList 1 (a.eval x).cells.toList).toArray) := fun q hq => setRow_other w k' q _ (fun e => h.nF r k' hr ho (e ▸ hq))
        obtain ⟨x0, hx0⟩ : ∃ x0, (a.eval x).cells = #[x0] := by
          have : (a.eval x).cells.size = 1 := by rw [← hl]; rfl
          exact Array.size_eq_one_iff.1 this
        have hcells : (putAt (#[y, z] : Array Value).toList 1 (a.eval x).cells.toList).toArray = #[y, x0] := by rw [hx0]; rfl
        refine ⟨undef, _, c, .inr ⟨rfl, hrun⟩, h.write hr ho _ (.sb T0 _ k' y x0 hρ ho ?_ hy ?_ ?_), .dead _ _ _⟩
        · rw [setRow_heap w k' #[y, z] _ T0 _ hk', hcells]
        · exact h1 0 x0 (by rw [hx0]; rfl)
        · exact (hh 0 u x0 rfl (by rw [hx0]; rfl)).mono hs (fun _ hk => hk) (Nat.le_refl _) fun _ _ => rfl
    rename_i cs hbx
    split at he <;> (try cases he)
    rename_i hle
    obtain ⟨_, hB⟩ := h.at hbx
    cases hB with
    | box _ ty k' xs hρ ho hk' hl' h1' hh' =>
      rw [hρ] at hk
      simp only [Value.pointer.injEq, Option.some.injEq, Addr.mk.injEq, and_true] at hk
      subst hk
      have hrun := hstore k' off xs ty (0, 0) hpk hk' (fun j _ => by omega) (by omega)
      have hs : Same c.F w (w.setRow k' (putAt xs.toList off (a.eval x).cells.toList).toArray) := fun q hq => setRow_other w k' q _ (fun e => h.nF r k' hr ho (e ▸ hq))
      have hxl : off + (a.eval x).cells.toList.length ≤ xs.toList.length := by simp; omega
      refine ⟨undef, _, c, .inr ⟨rfl, hrun⟩, h.write hr ho _ (.box _ ty k' _ hρ ho (setRow_heap w k' xs _ ty _ hk') ?_ ?_ ?_), .dead _ _ _⟩
      · rw [putAt_length _ _ _ hle]; simp [putAt_length _ _ _ hxl, hl']
      · intro i y hy
        simp only [List.getElem?_toArray] at hy
        rw [putAt_get _ _ _ hxl] at hy
        split at hy
        · exact h1 _ y (by simpa using hy)
        · exact h1' _ y (by simpa using hy)
      · intro i u y hu hy
        simp only [List.getElem?_toArray] at hy
        rw [putAt_get _ _ _ hxl] at hy
        rw [putAt_get _ _ _ hle] at hu
        simp only [Array.length_toList] at hy
        split at hu
        · rw [if_pos (by omega)] at hy
          exact (hh _ u y hu (by simpa using hy)).mono hs (fun _ hk => hk) (Nat.le_refl _) fun _ _ => rfl
        · rw [if_neg (by omega)] at hy
          exact (hh' _ u y hu (by simpa using hy)).mono hs (fun _ hk => hk) (Nat.le_refl _) fun _ _ => rfl
  · rename_i r sz i off ep
    split at he <;> (try cases he)
    rename_i nl sz' n g hbx
    split at he <;> (try cases he)
    rename_i hle
    obtain ⟨rfl, hle, him⟩ := hle
    rw [ep] at hp
    have hi : i < n := by rwa [Nat.blt_eq] at hb
    obtain ⟨hr, k, n2, cap2, hk, hpk⟩ := hp.wptr_inv
    obtain ⟨_, hB⟩ := h.at hbx
    cases hB with
    | rowNil wr sz g hz hρ ho => omega
    | rowFull wr _ _ _ A2 hz hw hρ ho hd => cases hw
    | row wr _ _ cap _ ty k' xs fz hz' hρ ho hk' hfz hs' hc h1' hg hh' =>
      rw [hρ] at hk
      simp only [Value.slice.injEq, Option.some.injEq, Addr.mk.injEq, and_true] at hk
      obtain ⟨rfl, rfl, rfl⟩ := hk
      have hbd : i * sz + sz ≤ xs.size := by
        have : (i + 1) * sz ≤ cap * sz := Nat.mul_le_mul_right _ (by omega)
        rw [Nat.add_mul, Nat.one_mul] at this
        omega
      have hrun := hstore k' (i * sz + off) xs ty fz hpk hk' hfz (by omega)
      have hs : Same c.F w (w.setRow k' (putAt xs.toList (i * sz + off) (a.eval x).cells.toList).toArray) := fun q hq => setRow_other w k' q _ (fun e => h.nF r k' hr ho (e ▸ hq))
      have hxl : i * sz + off + (a.eval x).cells.toList.length ≤ xs.toList.length := by simp; omega
      have hgl := hg i hi
      refine ⟨undef, _, c, .inr ⟨rfl, hrun⟩, h.write hr ho _ (.row true sz n cap _ ty k' _ fz hz' hρ ho (setRow_heap w k' xs _ ty _ hk') ?_ ?_ hc ?_ ?_ ?_), .dead _ _ _⟩
      · simpa [putAt_length _ _ _ hxl] using hfz
      · simpa [putAt_length _ _ _ hxl] using hs'
      · intro q y hy
        simp only [List.getElem?_toArray] at hy
        rw [putAt_get _ _ _ hxl] at hy
        split at hy
        · exact h1 _ y (by simpa using hy)
        · exact h1' _ y (by simpa using hy)
      · intro j hj
        rw [Cells.put_fn]
        cases e : Nat.beq j i with
        | true => simp only [cond_true]; rw [putAt_length _ _ _ (by have := hg j hj; omega)]; exact hg j hj
        | false => simp only [cond_false]; exact hg j hj
      · intro j q u hj hu
        rw [Cells.put_fn] at hu
        rw [List.all_eq_true] at him
        have hq : q < sz := by
          have : q < (bif Nat.beq j i then putAt (g j) off vs else g j).length := (List.getElem?_eq_some_iff.1 hu).1
          cases e : Nat.beq j i with
          | true => simp only [e, cond_true] at this; rw [putAt_length _ _ _ (by have := hg j hj; omega), hg j hj] at this; exact this
          | false => simp only [e, cond_false] at this; rw [hg j hj] at this; exact this
        simp only [List.getElem?_toArray]
        cases e : Nat.beq j i with
        | true =>
          have e' : j = i := by simpa using e
          subst e'
          simp only [e, cond_true] at hu
          rw [putAt_get _ _ _ (by omega)] at hu
          split at hu
          · rename_i hq2
            have hqx : q - off < (a.eval x).cells.size := by omega
            refine ⟨(a.eval x).cells[q - off], ?_, (im_rd dep u _ (him u (List.mem_of_getElem? hu)) (hh _ u _ hu (Array.getElem?_eq_getElem hqx))).mono hs fun _ hk => hk⟩
            rw [putAt_get _ _ _ hxl, if_pos (by simp; omega), show j * sz + q - (j * sz + off) = q - off by omega]
            simp [Array.getElem?_eq_getElem hqx]
          · rename_i hq2
            obtain ⟨y, hy1, hy2⟩ := hh' j q u hj hu
            refine ⟨y, ?_, hy2.mono hs fun _ hk => hk⟩
            rw [putAt_get _ _ _ hxl, if_neg (by simp; omega)]
            simpa using hy1
        | false =>
          have e' : j ≠ i := by intro h; subst h; simp at e
          simp only [e, cond_false] at hu
          obtain ⟨y, hy1, hy2⟩ := hh' j q u hj hu
          refine ⟨y, ?_, hy2.mono hs fun _ hk => hk⟩
          rw [putAt_get _ _ _ hxl, if_neg ?_]
          · simpa using hy1
          · simp only [Array.length_toList]
            intro hcon
            rcases Nat.lt_or_gt_of_ne e' with hlt | hlt
            · have : (j + 1) * sz ≤ i * sz := Nat.mul_le_mul_right _ (by omega)
              rw [Nat.add_mul, Nat.one_mul] at this
              omega
            · have : (i + 1) * sz ≤ j * sz := Nat.mul_le_mul_right _ (by omega)
              rw [Nat.add_mul, Nat.one_mul] at this
              omega
  · cases he

theorem run_setObj_mp {w : World} {r : Nat} {es : Array MapEntry} {clock : Nat} (o : Obj) (hb : w.heap[r]? = some (.map es clock)) : (setObj r o).run P w = .ok () { w with heap := w.heap.setIfInBounds r o } := by
  simp [setObj, Sem.run, hb]

theorem vals_one {t : Ty} (hf : t.flat = true) {x : Tup t} {i : Nat} {y : Value} (h : (t.vals x)[i]? = some y) : one y := by
  have hlt : i < (t.cells x).length := by rw [t.cells_length, ← t.vals_length x]; exact (List.getElem?_eq_some_iff.1 h).1
  obtain ⟨y', h1, _, h3⟩ := t.cells_rd hf x (fun _ => False) default i _ (List.getElem?_eq_getElem hlt)
  rw [h] at h1; cases h1; exact h3

/-- A value that is put into a map, which leads nowhere but to what nobody writes. -/
theorem val_of {et : TypeId} {ee : Ty} {v : V} {y : Value} {vs : List V} (hv : Rv w c v y) (hc : v.cells = some vs) (ho : ee.ok vs = true) (ha : aggV v = aggT P et) : Rd w c.F (mkV (aggT P et) (ee.cells (ee.de vs))) y := by
  rw [ee.cells_de vs ho]
  have him : ∀ (t : Ty) (l : List V), t.ok l = true → ∀ u ∈ l, imV dep u = true := by
    intro t
    induction t with
    | nil => intro l hl u hu; cases l with | nil => cases hu | cons => cases hl
    | bool r ih => intro l hl u hu; cases l with | nil => cases hl | cons a l => cases a <;> first | (cases hl; done) | (cases hu with | head => rfl | tail _ hu => exact ih l hl u hu)
    | int k r ih =>
      intro l hl u hu
      cases l with
      | nil => cases hl
      | cons a l =>
        cases a <;> first | cases hl | skip
        simp only [Ty.ok, Bool.and_eq_true] at hl
        cases hu with
        | head => rfl
        | tail _ hu => exact ih l hl.2 u hu
    | str r ih => intro l hl u hu; cases l with | nil => cases hl | cons a l => cases a <;> first | (cases hl; done) | (cases hu with | head => rfl | tail _ hu => exact ih l hl u hu)
    | sl e r ihe ih =>
      intro l hl u hu
      cases l with
      | nil => cases hl
      | cons a l =>
        cases a <;> first | cases hl | skip
        rename_i g
        cases g with
        | raw g => cases hl
        | typ t G =>
          simp only [Ty.ok, Bool.and_eq_true] at hl
          cases hu with
          | head => rfl
          | tail _ hu => exact ih l hl.2 u hu
  cases e : aggT P et with
  | true =>
    rw [e] at ha
    cases v <;> first | (simp [aggV] at ha; done) | skip
    simp only [V.cells, Option.some.injEq] at hc
    subst hc
    obtain ⟨xs, rfl, hl, h1, hh⟩ := hv.agg_inv
    simp only [mkV, if_true]
    exact .agg _ _ hl h1 fun i u x hu hx => im_rd dep u x (him ee _ ho u (List.mem_of_getElem? hu)) (hh i u x hu hx)
  | false =>
    rw [e] at ha
    have key : vs = [v] := by
      cases v <;> first
        | (simp [aggV] at ha; done)
        | (simp only [V.cells, Option.some.injEq] at hc; exact hc.symm)
        | (simp only [V.cells] at hc; cases hc)
    subst key
    exact im_rd dep v y (him ee _ ho v List.mem_cons_self) hv

theorem Ty.beq_eq : ∀ (t : Ty), t.flat = true → ∀ (x y : Tup t), t.beq x y = true → x = y
  | .nil, _, _, _, _ => rfl
  | .bool r, hf, x, y, h => by
    simp only [Ty.beq, Bool.and_eq_true, beq_iff_eq] at h
    exact Prod.ext h.1 (r.beq_eq hf _ _ h.2)
  | .int _ r, hf, x, y, h => by
    simp only [Ty.beq, Bool.and_eq_true, beq_iff_eq] at h
    exact Prod.ext h.1 (r.beq_eq hf _ _ h.2)
  | .str r, hf, x, y, h => by
    simp only [Ty.beq, Bool.and_eq_true, beq_iff_eq] at h
    refine Prod.ext ?_ (r.beq_eq hf _ _ h.2)
    have h1 := h.1
    rw [ByteArray.toList_eq, ByteArray.toList_eq] at h1
    have h2 : x.1.data = y.1.data := Array.ext' h1
    cases e1 : x.1; cases e2 : y.1
    rw [e1, e2] at h2
    exact congrArg ByteArray.mk h2
  | .sl _ _, hf, _, _, _ => by cases hf
theorem vals_same : ∀ (t : Ty), t.flat = true → ∀ (x : Tup t) (n : Nat) (y : Value), y ∈ t.vals x → Instr.sameBits n y y = true
  | .nil, _, x, n, y, h => by simp [Ty.vals] at h
  | .bool r, hf, x, n, y, h => by
    rcases List.mem_cons.1 h with rfl | h
    · simp [Instr.sameBits]
    · exact vals_same r hf x.2 n y h
  | .int k r, hf, x, n, y, h => by
    rcases List.mem_cons.1 h with rfl | h
    · simp [Instr.sameBits]
    · exact vals_same r hf x.2 n y h
  | .str r, hf, x, n, y, h => by
    rcases List.mem_cons.1 h with rfl | h
    · simp only [Instr.sameBits]; rw [beq_toListBytes]; exact beq_self_eq_true _
    · exact vals_same r hf x.2 n y h
  | .sl _ _, hf, _, _, _, _ => by cases hf
theorem kVal_same {t : Ty} (hf : t.flat = true) (ka : Bool) (h1 : ka = false → t.size = 1) (x : Tup t) : Instr.sameBits 10000 (kVal ka t x) (kVal ka t x) = true := by
  unfold kVal
  cases ka with
  | true =>
    simp only [if_true]
    have : ∀ n, Instr.sameBits (n + 1) (.agg (t.vals x).toArray) (.agg (t.vals x).toArray) = true := by
      intro n
      simp only [Instr.sameBits, beq_self_eq_true, Bool.true_and]
      rw [List.all_eq_true]
      rintro ⟨y, z⟩ hz
      have h1 := List.of_mem_zip hz
      obtain ⟨i, hi, hiz⟩ := List.getElem_of_mem hz
      simp only [List.getElem_zip, Prod.mk.injEq] at hiz
      obtain ⟨rfl, rfl⟩ := hiz
      exact vals_same t hf x n _ (by simp)
    exact this 9999
  | false =>
    simp only [Bool.false_eq_true, if_false]
    cases e : t.vals x with
    | nil => have := t.vals_length x; rw [e, h1 rfl] at this; cases this
    | cons y l => exact vals_same t hf x _ y (by rw [e]; exact List.mem_cons_self)

theorem eff_mapUpdate (h : Rel base w0 ks st a w c) {t : TypeId} {mo ko x : Operand} {st' : St} (hop : o.op = .mapUpdate t mo ko x) (he : evEff P st o.type o.op = some (b, v, st')) (hb : b = true) : EffOK P base w0 ks st a w o v st' := by
  rw [hop] at he
  simp only [evEff] at he
  split at he <;> (try cases he)
  rename_i kt et hu
  split at he <;> (try cases he)
  rename_i r cs vs em hcs hvs
  split at he <;> (try cases he)
  rename_i ka va kk ee m hbx
  split at he <;> (try cases he)
  rename_i hc
  obtain ⟨rfl, rfl, hk, hok, hov, hak, hav⟩ := hc
  have hm := h.ev mo
  rw [em] at hm
  obtain ⟨hr, q, hρ', hxq⟩ := hm.mp_inv
  obtain ⟨_, hB⟩ := h.at hbx
  cases hB with
  | mp _ _ _ _ _ k' ens clock hρ ho hh hl hent =>
    rw [hρ] at hρ'
    simp only [Value.map.injEq, Option.some.injEq] at hρ'
    subst hρ'
    have hy := key_of hk (h.ev ko) hcs hok hak
    have hval := val_of (h.evT (P := P) et x) hvs hov hav
    have hkey := fun (j : Nat) p (e : MapEntry) (hp : m[j]? = some p) (he' : ens[j]? = some e) => key_val (c := c) (w := w) (keyT_flat hk) (keyT_one hk) (.im _ _ (hent j p e hp he').1)
    obtain ⟨res, hf1, hf2, hf3⟩ := findKey_run (W := w) hk (kk.de cs) (fun _ : Tup ee => undef) m ens.toList (by simpa using hl) (fun j p e hp he' => hkey j p e hp (by simpa using he'))
    have hkrd : ∀ W F, Rd W F (mkV (aggT P kt) (kk.cells (kk.de cs))) (kVal (aggT P kt) kk (kk.de cs)) := by
      intro W F
      have hcl := kk.cells_length (kk.de cs)
      have hvl := kk.vals_length (kk.de cs)
      unfold mkV kVal
      cases eg : aggT P kt with
      | true =>
        simp only [if_true]
        refine .agg _ _ (by simp [hcl, hvl]) (fun i y hy => vals_one (keyT_flat hk) (by simpa using hy)) fun i u y hu hy => ?_
        obtain ⟨y', h1, h2, _⟩ := Ty.cells_rd _ (keyT_flat hk) _ F W i u hu
        rw [show (kk.vals (kk.de cs))[i]? = some y from by simpa using hy] at h1
        cases h1; exact h2
      | false =>
        have hs1 := keyT_one hk eg
        rw [hs1] at hcl hvl
        simp only [Bool.false_eq_true, if_false]
        obtain ⟨u, hu⟩ := List.length_eq_one_iff.1 hcl
        obtain ⟨y, hy⟩ := List.length_eq_one_iff.1 hvl
        rw [hu, hy]
        obtain ⟨y', h1, h2, _⟩ := Ty.cells_rd _ (keyT_flat hk) (kk.de cs) F W 0 u (by rw [hu]; rfl)
        rw [hy] at h1
        cases h1; exact h2
    have done : ∀ (o' : Obj) (ens' : Array MapEntry) (clock' : Nat), o' = .map ens' clock' → (mPut kk m (kk.de cs) (ee.de vs)).length = ens'.size →
        (∀ (i : Nat) p e, (mPut kk m (kk.de cs) (ee.de vs))[i]? = some p → ens'[i]? = some e → Rd w c.F (mkV (aggT P kt) (kk.cells p.1)) e.key ∧ Rd w c.F (mkV (aggT P et) (ee.cells p.2)) e.val) →
        (Instr.mapUpdate t (.map (some k')) (kVal (aggT P kt) kk (kk.de cs)) (a.eval x)).run P w = .ok () { w with heap := w.heap.setIfInBounds k' o' } →
        EffOK P base w0 ks st a w o .dead { st with h := st.h.set r (.mp (aggT P kt) (aggT P et) kk ee (mPut kk m (kk.de cs) (ee.de vs))) } := by
      intro o' ens' clock' ho' hlen hent' hrun
      have hklt : k' < w.heap.size := (Array.getElem?_eq_some_iff.1 hh).1
      have hoth : ∀ q, q ≠ k' → ({ w with heap := w.heap.setIfInBounds k' o' } : World).heap[q]? = w.heap[q]? := by
        intro q hq
        show (w.heap.setIfInBounds k' o')[q]? = _
        rw [Array.getElem?_setIfInBounds, if_neg (fun e => hq e.symm)]
      have hs : Same c.F w { w with heap := w.heap.setIfInBounds k' o' } := fun q hq => hoth q (fun e => h.nF r k' hr ho (e ▸ hq))
      refine ⟨undef, _, c, .inr ⟨rfl, ?_⟩, h.write' hr ho hoth (by simp) rfl rfl rfl (.mp _ _ _ _ _ k' ens' clock' hρ ho ?_ hlen fun i p e hp he => ⟨(hent' i p e hp he).1.mono hs fun _ hk => hk, (hent' i p e hp he).2.mono hs fun _ hk => hk⟩), .dead _ _ _⟩
      · simp only [execOp, hop, hxq, hy, Sem.run_bind, hrun, Result.andThen_ok, Sem.run_pure]
      · show (w.heap.setIfInBounds k' o')[k']? = _
        rw [Array.getElem?_setIfInBounds, if_pos rfl, if_pos hklt, ho']
    cases res with
    | none =>
      cases e : mIdx kk (kk.de cs) m 0 with
      | some p => rw [e] at hf2; cases hf2
      | none =>
        have hput := mIdx_put kk (kk.de cs) (ee.de vs) m 0
        rw [e] at hput
        simp only at hput
        refine done _ (ens.push { key := kVal (aggT P kt) kk (kk.de cs), val := a.eval x, born := clock }) (clock + 1) rfl (by rw [hput]; simp [hl]) (fun i p e2 hp he2 => ?_) ?_
        · rw [hput] at hp
          rw [Array.getElem?_push] at he2
          split at he2
          · rename_i hi
            cases he2
            rw [List.getElem?_append_right (by omega), hi, hl, Nat.sub_self] at hp
            cases hp
            exact ⟨hkrd _ _, hval⟩
          · rename_i hi
            have hlt : i < ens.size := (Array.getElem?_eq_some_iff.1 he2).1
            rw [List.getElem?_append_left (by omega)] at hp
            exact hent i p e2 hp he2
        · simp only [Instr.mapUpdate, Sem.run_bind, run_underlying hu, Result.andThen_ok, run_getObj_mp hh, checkKey_run hk, hf1, run_setObj_mp _ hh]
    | some p =>
      obtain ⟨j, u⟩ := p
      cases e : mIdx kk (kk.de cs) m 0 with
      | none => rw [e] at hf2; cases hf2
      | some p' =>
        obtain ⟨j', u'⟩ := p'
        rw [e] at hf2
        simp only [Option.map_some, Option.some.injEq] at hf2
        subst hf2
        obtain ⟨hjl, k2, h4, hbq, hput⟩ := mIdx_at _ m e (ee.de vs)
        obtain ⟨e2, he2, _⟩ := hf3 j u rfl
        have he2' : ens[j]? = some e2 := by simpa using he2
        have hsame : Instr.sameBits 10000 e2.key (kVal (aggT P kt) kk (kk.de cs)) = true := by
          rw [hkey j _ e2 h4 he2', Ty.beq_eq _ (keyT_flat hk) _ _ hbq]
          exact kVal_same (keyT_flat hk) _ (keyT_one hk) _
        refine done _ (ens.modify j fun e => { e with key := kVal (aggT P kt) kk (kk.de cs), val := a.eval x }) clock rfl (by rw [hput]; simp [hl]) (fun i p e3 hp he3 => ?_) ?_
        · rw [hput, List.getElem?_set] at hp
          rw [Array.getElem?_modify] at he3
          by_cases hi : j = i
          · subst hi
            rw [if_pos rfl, if_pos hjl] at hp
            cases hp
            rw [if_pos rfl, he2'] at he3
            simp only [Option.map_some, Option.some.injEq] at he3
            subst he3
            exact ⟨hkrd _ _, hval⟩
          · rw [if_neg hi] at he3 hp
            exact hent i p e3 hp he3
        · simp only [Instr.mapUpdate, Sem.run_bind, run_underlying hu, Result.andThen_ok, run_getObj_mp hh, checkKey_run hk, hf1, he2', Option.map_some, Option.getD_some, Instr.keyThatStays, hsame, if_true, Sem.run_pure, run_setObj_mp _ hh]

end
end Go.Rv
