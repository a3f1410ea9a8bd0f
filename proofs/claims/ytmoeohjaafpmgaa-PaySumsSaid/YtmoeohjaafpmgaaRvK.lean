/- Rv, part K: append; all operations that write. Of no program. -/
import Derived.Test.YtmoeohjaafpmgaaRvJ
set_option linter.unusedVariables false
set_option linter.unusedSimpArgs false
set_option linter.unusedSectionVars false
namespace Go.Rv
open Go Go.RowKit
variable [Fx]
section
variable {P : Program} {base : Base} {w0 : World} {ks : List (Array Value)} {st : St} {a : Act} {w : World} {c : Cx} {o : Oper} {v : V} {bs : List B} {b : Bool}

def Cx.at (c : Cx) (r : Nat) (x : Value) (u : Option Nat) : Cx := { c with ρ := fun s => if s = r then x else c.ρ s, o := fun s => if s = r then u else c.o s }
theorem blt_false {i n : Nat} (h : Nat.blt i n = false) : n ≤ i := by
  rcases Nat.lt_or_ge i n with h2 | h2
  · have : Nat.blt i n = true := by rw [Nat.blt_eq]; exact h2
    rw [this] at h; cases h
  · exact h2
theorem blt_true {i n : Nat} (h : Nat.blt i n = true) : i < n := by rwa [Nat.blt_eq] at h
theorem beq_false {m : Nat} (h : 0 < m) : Nat.beq m 0 = false := by cases m with | zero => omega | succ m => rfl

/-- A row lies elsewhere now, or is longer: its elder slices are known no more. -/
theorem Rel.reown (h : Rel base w0 ks st a w c) {r : Nat} (hr : r < c.m) (hsl : ∃ A n cap, c.ρ r = .slice A n cap) {w' : World} {x : Value} {u : Option Nat} {b : B} (hb : Keep base.K w0 w') (hsz : w.heap.size ≤ w'.heap.size)
    (hw : ∀ q, q < w.heap.size → c.o r ≠ some q → w'.heap[q]? = w.heap[q]?)
    (hu : ∀ q, u = some q → ¬ base.K q ∧ ¬ c.F q ∧ ∀ s, s < c.m → s ≠ r → c.o s ≠ some q)
    (hB : BR w' (c.at r x u) r b) :
    Rel base w0 ks { (st.sub (killV r)) with h := (st.sub (killV r)).h.set r b } a w' (c.at r x u) := by
  have hs : Same c.F w w' := fun q hq => hw q (h.lt q hq) (fun e => h.nF r q hr e hq)
  have hσ : ∀ v y, Loc v → Rv w c v y → Rv w' (c.at r x u) (killV r v) y := by
    refine loc_cases ?_ ?_ ?_ ?_
    · intro s y hv
      obtain ⟨hs, rfl, A, n, cap, he⟩ := hv.own_inv
      simp only [killV]
      split
      · exact .dead _ _ _
      · rename_i hn
        rw [he]
        exact Rv.own (c := c.at r x u) s hs A n cap (by simp [Cx.at, hn, he])
    · intro s off y hv
      obtain ⟨hs, k, he, rfl⟩ := hv.ref_inv
      have hn : ¬ s = r := by
        rintro rfl
        obtain ⟨A, n, cap, e⟩ := hsl
        rw [e] at he; cases he
      exact Rv.ref (c := c.at r x u) s off k hs (by simp [Cx.at, hn, he])
    · intro s sz' i off y hv
      obtain ⟨hs, k, n, cap, he, rfl⟩ := hv.wptr_inv
      simp only [killV]
      split
      · exact .dead _ _ _
      · rename_i hn
        exact Rv.wptr (c := c.at r x u) s sz' i off k n cap hs (by simp [Cx.at, hn, he])
    · intro s y hv
      obtain ⟨hs, k, he, rfl⟩ := hv.mp_inv
      have hn : ¬ s = r := by
        rintro rfl
        obtain ⟨A, n, cap, e⟩ := hsl
        rw [e] at he; cases he
      exact Rv.mp (c := c.at r x u) s k hs (by simp [Cx.at, hn, he])
  have up := fun {v : V} {y : Value} (hv : Rv w c v y) => Rv.sub (c' := c.at r x u) hs (fun _ hk => hk) hσ dep v y hv
  refine ⟨by simpa [St.sub] using h.len, fun i v y hv hy => ?_, by simpa [St.sub] using h.ls, fun i vs xs hv hx => ?_, ?_, ?_, ?_, ?_, ?_, fun q hq => Nat.lt_of_lt_of_le (h.lt q hq) hsz, hb, h.dn, h.bs, h.ff, fun j k hj => by
    obtain ⟨h1, h2, h3⟩ := h.pn j k hj
    have hne : j ≠ r := by
      rintro rfl
      obtain ⟨A, n, cap, e⟩ := hsl
      rw [h2] at e
      cases e
    exact ⟨h1, by simp [Cx.at, hne, h2], by simp [Cx.at, hne, h3]⟩⟩
  · obtain ⟨z, hz, rfl⟩ := getElem?_map_some (f := V.sub (killV r) dep) hv
    exact up (h.tm i z y hz hy)
  · obtain ⟨us, hus, rfl⟩ := getElem?_map_some (f := fun l : List V => l.map (V.sub (killV r) dep)) hv
    obtain ⟨h1, h2⟩ := h.sv i us xs hus hx
    refine ⟨by simpa using h1, fun j v y hv hy => ?_⟩
    obtain ⟨z, hz, rfl⟩ := getElem?_map_some (f := V.sub (killV r) dep) hv
    exact up (h2 j z y hz hy)
  · show c.m = ((st.h.map (B.sub _)).set r b).length
    simp [h.hm]
  · intro s b' hb0
    have hb' : ((st.h.map (B.sub (killV r))).set r b)[s]? = some b' := hb0
    clear hb0
    rw [List.getElem?_set] at hb'
    split at hb'
    · rename_i e
      subst e
      split at hb' <;> (try cases hb')
      exact hB
    · rename_i e
      obtain ⟨b0, hb0, rfl⟩ := getElem?_map_some hb'
      obtain ⟨hs', hB0⟩ := h.at hb0
      have e' : s ≠ r := fun h => e h.symm
      exact hB0.sub hs (fun _ hk => hk) hσ (fun q hq => hw q (hB0.owned_lt hq) (fun e2 => e' (h.inj s r q hs' hr hq e2))) (by simp [Cx.at, e']) (by simp [Cx.at, e'])
  · intro s s' k hs hs' hk hk'
    simp only [Cx.at] at hk hk'
    split at hk <;> split at hk'
    · omega
    · rename_i e1 e2
      exact absurd hk' ((hu k hk).2.2 s' hs' e2)
    · rename_i e1 e2
      exact absurd hk ((hu k hk').2.2 s hs e1)
    · exact h.inj s s' k hs hs' hk hk'
  · intro s k hs hk
    simp only [Cx.at] at hk
    split at hk
    · exact (hu k hk).1
    · exact h.ge s k hs hk
  · intro s k hs hk
    simp only [Cx.at] at hk
    split at hk
    · exact (hu k hk).2.1
    · exact h.nF s k hs hk

/-- The cells of m elements. -/
def flat (sz m : Nat) (z : Nat → Nat → Value) : List Value := (List.range (m * sz)).map fun p => z (p / sz) (p % sz)
theorem flat_length (sz m : Nat) (z : Nat → Nat → Value) : (flat sz m z).length = m * sz := by simp [flat]
theorem flat_get {sz m : Nat} {z : Nat → Nat → Value} {i j : Nat} (hi : i < m) (hj : j < sz) : (flat sz m z)[i * sz + j]? = some (z i j) := by
  have hlt : i * sz + j < m * sz := by
    have : (i + 1) * sz ≤ m * sz := Nat.mul_le_mul_right _ (by omega)
    rw [Nat.add_mul, Nat.one_mul] at this
    omega
  have e1 : (i * sz + j) / sz = i := by rw [Nat.mul_comm, Nat.mul_add_div (by omega), Nat.div_eq_of_lt hj, Nat.add_zero]
  have e2 : (i * sz + j) % sz = j := by rw [Nat.mul_comm, Nat.mul_add_mod, Nat.mod_eq_of_lt hj]
  simp only [flat, List.getElem?_map, List.getElem?_range hlt, Option.map_some, e1, e2]
theorem flat_inv {sz m : Nat} (hz : 0 < sz) {z : Nat → Nat → Value} {p : Nat} {y : Value} (h : (flat sz m z)[p]? = some y) : ∃ i j, i < m ∧ j < sz ∧ p = i * sz + j ∧ y = z i j := by
  simp only [flat, List.getElem?_map] at h
  cases e : (List.range (m * sz))[p]? with
  | none => rw [e] at h; cases h
  | some q =>
    rw [e] at h
    simp only [Option.map_some, Option.some.injEq] at h
    obtain ⟨hq, rfl⟩ := List.getElem?_eq_some_iff.1 e
    simp at hq h
    refine ⟨p / sz, p % sz, Nat.div_lt_of_lt_mul (by rw [Nat.mul_comm]; exact hq), Nat.mod_lt _ hz, ?_, h.symm⟩
    rw [Nat.mul_comm]; exact (Nat.div_add_mod p sz).symm

theorem run_firstCells {sz m : Nat} (hz : 0 < sz) {A : Option Addr} {cap : Nat} {z : Nat → Nat → Value} {W : World} (hm : m = 0 ∨ ∃ q off, A = some ⟨q, off, none⟩ ∧ ∀ i j, i < m → j < sz → W.cell? ⟨q, off + (i * sz + j), none⟩ = some (z i j)) :
    (Builtin.firstCells sz m (.slice A m cap)).run P W = .ok (flat sz m z).toArray W := by
  rcases hm with rfl | ⟨q, off, rfl, hc⟩
  · cases A with
    | none => simp [Builtin.firstCells, flat]
    | some A => simp [Builtin.firstCells, flat, loadCells, loadCellsFrom]
  · refine run_firstCells_some W sz m _ m cap (flat sz m z) (flat_length _ _ _) fun j v hv => ?_
    obtain ⟨i, j', hi, hj, rfl, rfl⟩ := flat_inv hz hv
    rw [addp]
    exact hc i j' hi hj

theorem flat_one {sz m : Nat} (hz : 0 < sz) {z : Nat → Nat → Value} (h : ∀ i j, i < m → j < sz → one (z i j)) {p : Nat} {y : Value} (hp : (flat sz m z)[p]? = some y) : one y := by
  obtain ⟨i, j, hi, hj, _, rfl⟩ := flat_inv hz hp
  exact h i j hi hj

theorem app_grow (h : Rel base w0 ks st a w c) {r : Nat} (hr : r < c.m) (hsl : ∃ A n cap, c.ρ r = .slice A n cap) {wr nl : Bool} {sz n m : Nat} {g g' : Cells} (hz : 0 < sz) (hm : 0 < m) {e : TypeId} {z0 z : Nat → Nat → Value} {rest : Array Value} {cap : Nat}
    (hg : ∀ i, i < n → (g i).length = sz) (hg' : ∀ i, i < m → (g' i).length = sz) (h0 : ∀ i j, i < n → j < sz → one (z0 i j)) (h1 : ∀ i j, i < m → j < sz → one (z i j)) (hrest : ∀ (i : Nat) y, rest[i]? = some y → one y)
    (hh0 : ∀ (i j : Nat) u, i < n → (g i)[j]? = some u → Rd w c.F u (z0 i j)) (hh1 : ∀ (i j : Nat) u, i < m → (g' i)[j]? = some u → Rd w c.F u (z i j))
    (hcap : n + m ≤ cap) (hsz : n * sz + m * sz + rest.size = cap * sz) :
    ∃ c', Rel base w0 ks (appSt st r wr nl sz n m g g') a (w.drew.alloc (.cells ((flat sz n z0).toArray ++ (flat sz m z).toArray ++ rest) e)) c' ∧ Rv (w.drew.alloc (.cells ((flat sz n z0).toArray ++ (flat sz m z).toArray ++ rest) e)) c' (.own r) (.slice (some ⟨w.heap.size, 0, none⟩) (n + m) cap) := by
  have hd := h.drew
  have hs : Same c.F w (w.drew.alloc (.cells ((flat sz n z0).toArray ++ (flat sz m z).toArray ++ rest) e)) := fun k hk => Below.heap_alloc w.drew _ k (h.lt k hk)
  have hl1 := flat_length sz n z0
  have hl2 := flat_length sz m z
  refine ⟨_, hd.reown (x := .slice (some ⟨w.heap.size, 0, none⟩) (n + m) cap) (u := some w.heap.size) hr hsl (hd.bel.alloc hd.base_le _) (by simp) (fun q hq _ => Below.heap_alloc w.drew _ q hq) (fun q hq => ?_) ?_, ?_⟩
  · cases hq
    exact ⟨fun hb => by have := h.base_le _ hb; omega, fun hf => by have := h.lt _ hf; omega, fun s hs' _ ho => by have := h.owned_lt hs' ho; omega⟩
  · have : (nl && Nat.beq m 0) = false := by
      rw [beq_false hm, Bool.and_false]
    rw [this]
    refine .row wr sz (n + m) cap _ e w.heap.size _ (0, 0) hz (by simp [Cx.at]) (by simp [Cx.at]) (heap_new w.drew _) (fun j _ => by omega) ?_ hcap ?_ ?_ ?_
    · simp only [Array.size_append, List.size_toArray, hl1, hl2]; exact hsz
    · intro i y hy
      rw [Array.getElem?_append] at hy
      split at hy
      · rw [Array.getElem?_append] at hy
        split at hy
        · exact flat_one hz h0 (by simpa using hy)
        · exact flat_one hz h1 (by simpa using hy)
      · exact hrest _ y hy
    · intro i hi
      rw [Cells.app_fn]
      cases e : Nat.blt i n with
      | true => simp only [cond_true]; exact hg i (blt_true e)
      | false => simp only [cond_false]; exact hg' _ (by have := blt_false e; omega)
    · intro i j u hi hu
      rw [Cells.app_fn] at hu
      have hj : j < sz := by
        have hlen := (List.getElem?_eq_some_iff.1 hu).1
        cases e : Nat.blt i n with
        | true => simp only [e, cond_true] at hlen; rw [hg i (blt_true e)] at hlen; exact hlen
        | false => simp only [e, cond_false] at hlen; rw [hg' _ (by have := blt_false e; omega)] at hlen; exact hlen
      cases e : Nat.blt i n with
      | true =>
        simp only [e, cond_true] at hu
        have hi' : i < n := blt_true e
        refine ⟨z0 i j, ?_, (hh0 i j u hi' hu).mono hs fun _ hk => hk⟩
        have hlt : i * sz + j < n * sz := by
          have : (i + 1) * sz ≤ n * sz := Nat.mul_le_mul_right _ (by omega)
          rw [Nat.add_mul, Nat.one_mul] at this
          omega
        rw [Array.append_assoc, Array.getElem?_append_left (by simpa [hl1] using hlt)]
        simp only [List.getElem?_toArray]
        exact flat_get hi' hj
      | false =>
        simp only [e, cond_false] at hu
        have hi' : n ≤ i := blt_false e
        refine ⟨z (i - n) j, ?_, (hh1 (i - n) j u (by omega) hu).mono hs fun _ hk => hk⟩
        have hge : n * sz ≤ i * sz := Nat.mul_le_mul_right _ hi'
        have hlt : (i - n) * sz + j < m * sz := by
          have : (i - n + 1) * sz ≤ m * sz := Nat.mul_le_mul_right _ (by omega)
          rw [Nat.add_mul, Nat.one_mul] at this
          omega
        have hsub : (i - n) * sz = i * sz - n * sz := Nat.sub_mul _ _ _
        rw [Array.getElem?_append_left (by simp only [Array.size_append, List.size_toArray, hl1, hl2]; omega), Array.getElem?_append_right (by simp only [List.size_toArray, hl1]; omega)]
        simp only [List.size_toArray, hl1, List.getElem?_toArray]
        rw [show i * sz + j - n * sz = (i - n) * sz + j by omega]
        exact flat_get (by omega) hj
  · exact Rv.own (c := c.at r _ _) r hr _ _ _ (by simp [Cx.at])

theorem run_append_fit {t t' ty e e' : TypeId} (ht : P.underlying t = some (.slice e)) (ht' : P.underlying t' = some (.slice e')) (hz : 0 < sizeT P e) {Bs A : Option Addr} {n m cap c2 : Nat} {news : Array Value} (hfit : n + m ≤ cap)
    (hf : (Builtin.firstCells (sizeT P e) m (.slice A m c2)).run P w = .ok news w) :
    (Builtin.append_ #[t, t'] ty #[.slice Bs n cap, .slice A m c2]).run P w = match Bs with
      | some q => ((storeCells (q.add (n * sizeT P e)) news.toList).run P w).andThen fun _ w' => .ok (.slice Bs (n + m) cap) w'
      | none => .ok (.slice none (n + m) cap) w := by
  cases Bs with
  | none => simp [Builtin.append_, run_underlying ht, run_underlying ht', run_sizeT_pos hz, Builtin.lenOf, hfit, hf]
  | some q => simp [Builtin.append_, run_underlying ht, run_underlying ht', run_sizeT_pos hz, Builtin.lenOf, hfit, hf]

theorem run_append_over {t t' ty e e' : TypeId} (ht : P.underlying t = some (.slice e)) (ht' : P.underlying t' = some (.slice e')) (hz : 0 < sizeT P e) {Bs A : Option Addr} {n m cap c2 : Nat} {olds news : Array Value} (hover : cap < n + m)
    (hb0 : 0 < P.bytesOf e) (hb : (n + m) * P.bytesOf e ≤ 140737488355328) {z : Value} (hzz : ∀ W : World, (zeroValue e).run P W = .ok z W)
    (hfo : (Builtin.firstCells (sizeT P e) n (.slice Bs n cap)).run P w.drew = .ok olds w.drew) (hf : (Builtin.firstCells (sizeT P e) m (.slice A m c2)).run P w.drew = .ok news w.drew) :
    ∃ nc, n + m ≤ nc ∧ (Builtin.append_ #[t, t'] ty #[.slice Bs n cap, .slice A m c2]).run P w =
      .ok (.slice (some ⟨w.heap.size, 0, none⟩) (n + m) nc) (w.drew.alloc (.cells (olds ++ news ++ Builtin.zeroCells z.cells (nc - (n + m))) e)) := by
  have hinfo : ∃ i, P.info? e = some i := by
    cases hi : P.info? e with
    | some i => exact ⟨i, rfl⟩
    | none => simp [sizeT, hi] at hz
  obtain ⟨i, hi⟩ := hinfo
  have hby : P.bytesOf e = i.bytes := by simp [Program.bytesOf, hi]
  rw [hby] at hb0 hb
  have hti : ∀ W : World, (typeInfo e).run P W = .ok i W := fun W => by simp [typeInfo, hi]
  have hfits := growslice_fits hover hb
  refine ⟨grownCap w (n + m) cap e, ?_, ?_⟩
  · simp only [grownCap, Question.cut]; omega
  · have hn : ¬ (n + m ≤ cap) := by omega
    have h48 : ¬ (281474976710656 < Builtin.nextslicecap (n + m) cap * i.bytes) := by omega
    have hb0' : ¬ i.bytes = 0 := by omega
    simp [Builtin.append_, run_underlying ht, run_underlying ht', run_sizeT_pos hz, Builtin.lenOf, hn, hti, h48, hb0', Question.forced, hf, hfo, hzz, newRow, grownCap]

/-- What append does with something that is appended: it fits, or it does not. -/
def AppOK (P : Program) (t t' ty e : TypeId) (Y : Value) (m : Nat) (news : Array Value) (w : World) : Prop :=
  (∀ (Bs : Option Addr) (n cap : Nat), n + m ≤ cap → (Builtin.append_ #[t, t'] ty #[.slice Bs n cap, Y]).run P w = match Bs with
      | some q => ((storeCells (q.add (n * sizeT P e)) news.toList).run P w).andThen fun _ w' => .ok (.slice Bs (n + m) cap) w'
      | none => .ok (.slice none (n + m) cap) w) ∧
  ∀ (Bs : Option Addr) (n cap : Nat) (olds : Array Value) (z : Value), cap < n + m → (n + m) * P.bytesOf e ≤ 140737488355328 → (∀ W : World, (zeroValue e).run P W = .ok z W) →
    (Builtin.firstCells (sizeT P e) n (.slice Bs n cap)).run P w.drew = .ok olds w.drew →
    ∃ nc, n + m ≤ nc ∧ (Builtin.append_ #[t, t'] ty #[.slice Bs n cap, Y]).run P w =
      .ok (.slice (some ⟨w.heap.size, 0, none⟩) (n + m) nc) (w.drew.alloc (.cells (olds ++ news ++ Builtin.zeroCells z.cells (nc - (n + m))) e))
/-- Behind an append. -/
def AppEnd (P : Program) (base : Base) (w0 : World) (ks : List (Array Value)) (st : St) (a : Act) (w : World) (X Y : Value) (t t' ty : TypeId) (r : Nat) (st' : St) : Prop :=
  ∃ x w' c', (Builtin.append_ #[t, t'] ty #[X, Y]).run P w = .ok x w' ∧ Rel base w0 ks st' a w' c' ∧ Rv w' c' (.own r) x

theorem append_core (h : Rel base w0 ks st a w c) {t t' tyo e : TypeId} {X Y : Value} {r m : Nat} {wr nl : Bool} {n : Nat} {g g' : Cells} {z : Nat → Nat → Value}
    (hr : r < c.m) (hxr : X = c.ρ r) (hbx : st.h[r]? = some (.row wr nl (sizeT P e) n g)) (hby : 0 < P.bytesOf e) (hzl : (zeroT P e).length = sizeT P e) (hb : (n + m) * P.bytesOf e ≤ 140737488355328)
    (hA : AppOK P t t' tyo e Y m (flat (sizeT P e) m z).toArray w) (hz1' : ∀ i j, i < m → j < sizeT P e → one (z i j)) (hzg' : ∀ i, i < m → (g' i).length = sizeT P e)
    (hzr : ∀ (i j : Nat) u, i < m → (g' i)[j]? = some u → Rd w c.F u (z i j)) : AppEnd P base w0 ks st a w X Y t t' tyo r (appSt st r wr nl (sizeT P e) n m g g') := by
  obtain ⟨_, hB⟩ := h.at hbx
  have hz : 0 < sizeT P e := by cases hB <;> assumption
  obtain ⟨zero, hzz, hzs, hzo, _⟩ := zeroT_sound hz hzl w c
  have hrun : ∀ Z w', (Builtin.append_ #[t, t'] tyo #[c.ρ r, Y]).run P w = .ok Z w' → (Builtin.append_ #[t, t'] tyo #[X, Y]).run P w = .ok Z w' := by
    intro Z w' hX
    rw [hxr]; exact hX
  have over : ∀ {Bs : Option Addr} {cap : Nat} {z0 : Nat → Nat → Value}, c.ρ r = .slice Bs n cap → cap < n + m → 0 < m → (n = 0 ∨ ∃ q off, Bs = some ⟨q, off, none⟩ ∧ ∀ i j, i < n → j < sizeT P e → w.cell? ⟨q, off + (i * sizeT P e + j), none⟩ = some (z0 i j)) →
      (∀ i, i < n → (g i).length = sizeT P e) → (∀ i j, i < n → j < sizeT P e → one (z0 i j)) → (∀ (i j : Nat) u, i < n → (g i)[j]? = some u → Rd w c.F u (z0 i j)) → AppEnd P base w0 ks st a w X Y t t' tyo r (appSt st r wr nl (sizeT P e) n m g g') := by
    intro Bs cap z0 hρ hov hm hcells hg h1 hh
    have hfo : (Builtin.firstCells (sizeT P e) n (.slice Bs n cap)).run P w.drew = .ok (flat (sizeT P e) n z0).toArray w.drew := run_firstCells (P := P) hz (cap := cap) hcells
    obtain ⟨nc, hnc, hr2⟩ := hA.2 Bs n cap _ zero hov hb hzz hfo
    rw [← hρ] at hr2
    obtain ⟨c', hrel, hrv⟩ := app_grow h hr ⟨_, _, _, hρ⟩ (wr := wr) (nl := nl) (cap := nc) (e := e) (rest := Builtin.zeroCells zero.cells (nc - (n + m))) hz hm hg hzg' h1 hz1' (fun i y hy => by
        simp only [Builtin.zeroCells, Array.getElem?_map] at hy
        cases hq : (Array.range ((nc - (n + m)) * zero.cells.size))[i]? with
        | none => rw [hq] at hy; cases hy
        | some q =>
          rw [hq] at hy
          simp only [Option.map_some, Option.some.injEq] at hy
          subst hy
          have hlt : q % zero.cells.size < zero.cells.size := Nat.mod_lt _ (by omega)
          rw [getElem!_pos zero.cells (q % zero.cells.size) hlt]
          exact hzo _ _ (Array.getElem?_eq_getElem hlt)) hh hzr hnc (by
        simp only [Builtin.zeroCells, Array.size_map, Array.size_range, hzs]
        rw [← Nat.add_mul, ← Nat.add_mul]
        congr 1
        omega)
    exact ⟨_, _, c', hrun _ _ hr2, hrel, hrv⟩
  -- nothing is appended, and no block is written
  have none_ : ∀ {Bs : Option Addr} {cap : Nat}, c.ρ r = .slice Bs n cap → m = 0 → n ≤ cap → (∀ c' : Cx, c' = c.at r (.slice Bs n cap) (c.o r) → BR w c' r (.row wr nl (sizeT P e) n (Cells.app n g g'))) → AppEnd P base w0 ks st a w X Y t t' tyo r (appSt st r wr nl (sizeT P e) n m g g') := by
    intro Bs cap hρ hm hle hBR
    subst hm
    have hr2 := hA.1 Bs n cap (by omega)
    have hr3 : (Builtin.append_ #[t, t'] tyo #[c.ρ r, Y]).run P w = .ok (.slice Bs n cap) w := by
      rw [hρ, hr2]
      cases Bs with
      | none => simp
      | some q =>
        have : (flat (sizeT P e) 0 z) = [] := by simp [flat]
        simp [this, storeCells]
    have hrel := h.reown (x := .slice Bs n cap) (u := c.o r) hr ⟨_, _, _, hρ⟩ h.bel (Nat.le_refl _) (fun _ _ _ => rfl) (fun q hq => ⟨h.ge r q hr hq, h.nF r q hr hq, fun s hs' hne ho => hne (h.inj s r q hs' hr ho hq)⟩) (hBR _ rfl)
    refine ⟨_, w, _, hrun _ _ hr3, ?_, Rv.own (c := c.at r (.slice Bs n cap) (c.o r)) r hr Bs n cap (by simp [Cx.at])⟩
    have e1 : appSt st r wr nl (sizeT P e) n 0 g g' = { (st.sub (killV r)) with h := (st.sub (killV r)).h.set r (.row wr nl (sizeT P e) n (Cells.app n g g')) } := by
      have h0 : (nl && Nat.beq 0 0) = nl := Bool.and_true nl
      show ({ (st.sub (killV r)) with h := (st.sub (killV r)).h.set r (.row wr (nl && Nat.beq 0 0) (sizeT P e) (n + 0) (Cells.app n g g')) } : St) = _
      rw [h0]
      rfl
    rw [e1]
    exact hrel
  show AppEnd P base w0 ks st a w X Y t t' tyo r (appSt st r wr nl (sizeT P e) n m g g')
  cases hB with
  | rowNil _ _ _ hz0 hρ ho =>
    rcases Nat.eq_zero_or_pos m with hm | hm
    · refine none_ hρ hm (Nat.le_refl _) fun c' hc' => ?_
      subst hc'
      exact .rowNil wr _ _ hz (by simp [Cx.at]) (by simp [Cx.at, ho])
    · exact over (z0 := fun _ _ => undef) hρ (by omega) hm (.inl rfl) (fun i hi => by omega) (fun i j hi => by omega) fun i j u hi => by omega
  | rowFull _ _ _ _ A2 hz0 hw hρ ho hd =>
    rcases Nat.eq_zero_or_pos m with hm | hm
    · refine none_ hρ hm (Nat.le_refl _) fun c' hc' => ?_
      subst hc'
      refine .rowFull wr _ n _ A2 hz hw (by simp [Cx.at]) (by simp [Cx.at, ho]) ?_
      cases hd with
      | slE => exact .slE _ _ _ _
      | sl _ _ _ _ _ _ zz hc hF hsz hcell hh =>
        refine .sl _ n n _ _ _ zz hc hF (fun i hi => ?_) hcell fun i j u hi hu => ?_
        · rw [Cells.app_fn]; simp only [show Nat.blt i n = true by rw [Nat.blt_eq]; exact hi, cond_true]; exact hsz i hi
        · rw [Cells.app_fn] at hu; simp only [show Nat.blt i n = true by rw [Nat.blt_eq]; exact hi, cond_true] at hu; exact hh i j u hi hu
    · cases hd with
      | slE => exact over (z0 := fun _ _ => undef) hρ (by omega) hm (.inl rfl) (fun i hi => by omega) (fun i j hi => by omega) fun i j u hi => by omega
      | sl _ _ _ _ _ _ zz hc hF hsz hcell hh =>
        exact over (z0 := zz) hρ (by omega) hm (.inr ⟨_, _, rfl, fun i j hi hj => (hcell i j hi hj).1⟩) hsz (fun i j hi hj => (hcell i j hi hj).2) hh
  | row _ _ _ cap _ ty k xs fz hz0 hρ ho hk hfz hs2 hcp h1 hg hh =>
    have hbd : ∀ i j, i < n → j < sizeT P e → i * sizeT P e + j < xs.size := by
      intro i j hi hj
      have : (i + 1) * sizeT P e ≤ cap * sizeT P e := Nat.mul_le_mul_right _ (by omega)
      rw [Nat.add_mul, Nat.one_mul] at this
      omega
    by_cases hfit : n + m ≤ cap
    · have hr2 := hA.1 (some ⟨k, 0, none⟩) n cap hfit
      have hbig : n * sizeT P e + m * sizeT P e ≤ xs.size := by
        rw [hs2, ← Nat.add_mul]
        exact Nat.mul_le_mul_right _ hfit
      have hfl := flat_length (sizeT P e) m z
      have hst := run_storeCells' (P := P) (off := n * sizeT P e) (flat (sizeT P e) m z) 0 xs w hk hfz (by rw [hfl]; omega) (fun y hy => by
        obtain ⟨i, hi, rfl⟩ := List.getElem_of_mem hy
        exact flat_one hz hz1' (List.getElem?_eq_getElem hi))
      rw [Nat.add_zero] at hst
      have hr3 : (Builtin.append_ #[t, t'] tyo #[c.ρ r, Y]).run P w = .ok (.slice (some ⟨k, 0, none⟩) (n + m) cap) (w.setRow k (putAt xs.toList (n * sizeT P e) (flat (sizeT P e) m z)).toArray) := by
        rw [hρ, hr2]
        simp only [addp, Nat.zero_add, hst, Result.andThen_ok]
      have hxl : n * sizeT P e + (flat (sizeT P e) m z).length ≤ xs.toList.length := by rw [hfl]; simpa using hbig
      have hrel := h.reown (w' := w.setRow k (putAt xs.toList (n * sizeT P e) (flat (sizeT P e) m z)).toArray) (x := .slice (some ⟨k, 0, none⟩) (n + m) cap) (u := some k) (b := .row wr false (sizeT P e) (n + m) (Cells.app n g g')) hr ⟨_, _, _, hρ⟩
        (h.bel.trans ⟨rfl, rfl, rfl, by simp, fun q hq => setRow_other w k q _ (fun e => h.ge r k hr ho (e ▸ hq))⟩) (by simp) (fun q _ hne => setRow_other w k q _ (fun e => hne (e ▸ ho)))
        (fun q hq => by cases hq; exact ⟨h.ge r k hr ho, h.nF r k hr ho, fun s hs' hne ho' => hne (h.inj s r k hs' hr ho' ho)⟩)
        (by
          have hsm : Same c.F w (w.setRow k (putAt xs.toList (n * sizeT P e) (flat (sizeT P e) m z)).toArray) := fun q hq => setRow_other w k q _ (fun e => h.nF r k hr ho (e ▸ hq))
          refine .row wr _ (n + m) cap _ ty k _ fz hz (by simp [Cx.at]) (by simp [Cx.at]) (setRow_heap w k xs _ ty fz hk) ?_ ?_ hfit ?_ ?_ ?_
          · simpa [putAt_length _ _ _ hxl] using hfz
          · simpa [putAt_length _ _ _ hxl] using hs2
          · intro i y hy
            simp only [List.getElem?_toArray] at hy
            rw [putAt_get _ _ _ hxl] at hy
            split at hy
            · exact flat_one hz hz1' hy
            · exact h1 _ y (by simpa using hy)
          · intro i hi
            rw [Cells.app_fn]
            cases eb : Nat.blt i n with
            | true => simp only [cond_true]; exact hg i (blt_true eb)
            | false => simp only [cond_false]; exact hzg' _ (by have := blt_false eb; omega)
          · intro i j u hi hu
            rw [Cells.app_fn] at hu
            have hj : j < sizeT P e := by
              have hlen := (List.getElem?_eq_some_iff.1 hu).1
              cases eb : Nat.blt i n with
              | true => simp only [eb, cond_true] at hlen; rw [hg i (blt_true eb)] at hlen; exact hlen
              | false => simp only [eb, cond_false] at hlen; rw [hzg' _ (by have := blt_false eb; omega)] at hlen; exact hlen
            simp only [List.getElem?_toArray]
            cases eb : Nat.blt i n with
            | true =>
              simp only [eb, cond_true] at hu
              have hi' := blt_true eb
              obtain ⟨y, hy1, hy2⟩ := hh i j u hi' hu
              refine ⟨y, ?_, hy2.mono hsm fun _ hk => hk⟩
              have : (i + 1) * sizeT P e ≤ n * sizeT P e := Nat.mul_le_mul_right _ (by omega)
              rw [Nat.add_mul, Nat.one_mul] at this
              rw [putAt_get _ _ _ hxl, if_neg (by omega)]
              simpa using hy1
            | false =>
              simp only [eb, cond_false] at hu
              have hi' := blt_false eb
              refine ⟨z (i - n) j, ?_, (hzr (i - n) j u (by omega) hu).mono hsm fun _ hk => hk⟩
              have hge : n * sizeT P e ≤ i * sizeT P e := Nat.mul_le_mul_right _ hi'
              have hlt : (i - n) * sizeT P e + j < m * sizeT P e := by
                have : (i - n + 1) * sizeT P e ≤ m * sizeT P e := Nat.mul_le_mul_right _ (by omega)
                rw [Nat.add_mul, Nat.one_mul] at this
                omega
              have hsub : (i - n) * sizeT P e = i * sizeT P e - n * sizeT P e := Nat.sub_mul _ _ _
              rw [putAt_get _ _ _ hxl, if_pos (by rw [hfl]; omega), show i * sizeT P e + j - n * sizeT P e = (i - n) * sizeT P e + j by omega]
              exact flat_get (by omega) hj)
      refine ⟨_, _, _, hrun _ _ hr3, ?_, Rv.own (c := c.at r (.slice (some ⟨k, 0, none⟩) (n + m) cap) (some k)) r hr _ _ _ (by simp [Cx.at])⟩
      simpa only [appSt, Bool.false_and] using hrel
    · exact over (z0 := fun i j => xs.getD (i * sizeT P e + j) undef) hρ (by omega) (by omega) (.inr ⟨k, 0, rfl, fun i j hi hj => by
          have hlt := hbd i j hi hj
          rw [Nat.zero_add, cellAt hk, Array.getElem?_eq_getElem hlt]
          simp only [Array.getD_eq_getD_getElem?, Array.getElem?_eq_getElem hlt, Option.getD_some]⟩) hg
        (fun i j hi hj => by
          have hlt := hbd i j hi hj
          simp only [Array.getD_eq_getD_getElem?, Array.getElem?_eq_getElem hlt, Option.getD_some]
          exact h1 _ _ (Array.getElem?_eq_getElem hlt))
        fun i j u hi hu => by
          obtain ⟨y, hy1, hy2⟩ := hh i j u hi hu
          simp only [Array.getD_eq_getD_getElem?, hy1, Option.getD_some]
          exact hy2

theorem appOK_slice {t t' ty e e' : TypeId} (ht : P.underlying t = some (.slice e)) (ht' : P.underlying t' = some (.slice e')) (hz : 0 < sizeT P e) (hby : 0 < P.bytesOf e) {A : Option Addr} {m c2 : Nat} {z : Nat → Nat → Value}
    (hm : m = 0 ∨ ∃ q off, A = some ⟨q, off, none⟩ ∧ ∀ i j, i < m → j < sizeT P e → w.cell? ⟨q, off + (i * sizeT P e + j), none⟩ = some (z i j)) : AppOK P t t' ty e (.slice A m c2) m (flat (sizeT P e) m z).toArray w :=
  ⟨fun Bs n cap hfit => run_append_fit ht ht' hz hfit (run_firstCells hz hm), fun Bs n cap olds zero hov hb hzz hfo => run_append_over ht ht' hz hov hby hb hzz hfo (run_firstCells (W := w.drew) hz hm)⟩

theorem bytes_flat (s : ByteArray) : (s.extract 0 s.size).data.map (fun b => Value.int .u8 b.toNat) = (flat 1 s.size fun i _ => .int .u8 (byteAt s i)).toArray := by
  apply Array.ext'
  apply List.ext_getElem?
  intro i
  have hs : (s.extract 0 s.size) = s := by simp
  rw [hs]
  by_cases hi : i < s.size
  · have hf := flat_get (sz := 1) (m := s.size) (z := fun i _ => .int .u8 (byteAt s i)) (i := i) (j := 0) hi (by omega)
    rw [Nat.mul_one, Nat.add_zero] at hf
    have hi' : i < s.data.size := hi
    rw [hf, byteAt_get hi, Array.getElem?_toList, Array.getElem?_map, Array.getElem?_eq_getElem hi']
    rfl
  · rw [List.getElem?_eq_none, List.getElem?_eq_none]
    · simp only [flat_length]; omega
    · simp only [Array.length_toList, Array.size_map]
      have : s.data.size = s.size := rfl
      omega

theorem appOK_str {t t' ty e : TypeId} (ht : P.underlying t = some (.slice e)) (ht' : P.underlying t' = some .string) (hs1 : sizeT P e = 1) (hby : 0 < P.bytesOf e) (s : ByteArray) :
    AppOK P t t' ty e (.string s) s.size (flat (sizeT P e) s.size fun i _ => .int .u8 (byteAt s i)).toArray w := by
  have hz : 0 < sizeT P e := by omega
  have hf : ∀ W : World, (Builtin.firstCells (sizeT P e) s.size (.string s)).run P W = .ok (flat (sizeT P e) s.size fun i _ => .int .u8 (byteAt s i)).toArray W := fun W => by
    rw [hs1, ← bytes_flat]
    rfl
  refine ⟨fun Bs n cap hfit => ?_, fun Bs n cap olds zero hov hb hzz hfo => ?_⟩
  · cases Bs with
    | none => simp [Builtin.append_, run_underlying ht, run_underlying ht', run_sizeT_pos hz, Builtin.lenOf, hfit, hf]
    | some q => simp [Builtin.append_, run_underlying ht, run_underlying ht', run_sizeT_pos hz, Builtin.lenOf, hfit, hf]
  · have hinfo : ∃ i, P.info? e = some i := by
      cases hi : P.info? e with
      | some i => exact ⟨i, rfl⟩
      | none => simp [sizeT, hi] at hz
    obtain ⟨i, hi⟩ := hinfo
    have hb1 : P.bytesOf e = i.bytes := by simp [Program.bytesOf, hi]
    rw [hb1] at hby hb
    have hti : ∀ W : World, (typeInfo e).run P W = .ok i W := fun W => by simp [typeInfo, hi]
    have hfits := growslice_fits hov hb
    refine ⟨grownCap w (n + s.size) cap e, by simp only [grownCap, Question.cut]; omega, ?_⟩
    have hn : ¬ (n + s.size ≤ cap) := by omega
    have h48 : ¬ (281474976710656 < Builtin.nextslicecap (n + s.size) cap * i.bytes) := by omega
    have hb0' : ¬ i.bytes = 0 := by omega
    simp [Builtin.append_, run_underlying ht, run_underlying ht', run_sizeT_pos hz, Builtin.lenOf, hn, hti, h48, hb0', Question.forced, hf, hfo, hzz, newRow, grownCap]

theorem zeros_flat {sz : Nat} (m : Nat) {cs : Array Value} (hs : cs.size = sz) : Builtin.zeroCells cs m = (flat sz m fun _ j => cs[j]!).toArray := by
  subst hs
  apply Array.ext'
  simp [Builtin.zeroCells, flat]

theorem appOK_zeros {t t' ty e : TypeId} {q : IntKind} (ht : P.underlying t = some (.slice e)) (ht' : P.underlying t' = some (.int q)) (hz : 0 < sizeT P e) (hby : 0 < P.bytesOf e) {l : Int} (h0 : 0 ≤ l) (h1b : l * (P.bytesOf e : Int) ≤ 140737488355328) {zero : Value}
    (hzz : ∀ W : World, (zeroValue e).run P W = .ok zero W) (hzs : zero.cells.size = sizeT P e) :
    AppOK P t t' ty e (.int .i64 l) l.toNat (flat (sizeT P e) l.toNat fun _ j => zero.cells[j]!).toArray w := by
  have h1 : l ≤ 140737488355328 := by
    have : l * 1 ≤ l * (P.bytesOf e : Int) := Int.mul_le_mul_of_nonneg_left (by omega) h0
    omega
  have hw := wrap_i64 h0 h1
  have hln : ¬ l < 0 := by omega
  have hinfo : ∃ i, P.info? e = some i := by
    cases hi : P.info? e with
    | some i => exact ⟨i, rfl⟩
    | none => simp [sizeT, hi] at hz
  obtain ⟨i, hi⟩ := hinfo
  have hti : ∀ W : World, (typeInfo e).run P W = .ok i W := fun W => by simp [typeInfo, hi]
  have hb1 : P.bytesOf e = i.bytes := by simp [Program.bytesOf, hi]
  rw [hb1] at hby h1b
  have hfl : (flat (sizeT P e) l.toNat fun _ j => zero.cells[j]!).toArray = Builtin.zeroCells zero.cells l.toNat := (zeros_flat _ hzs).symm
  rw [hfl]
  have hzero0 : l.toNat * sizeT P e = 0 → Builtin.zeroCells zero.cells l.toNat = #[] := by
    intro h; simp [Builtin.zeroCells, hzs, h]
  have hai : ∀ W : World, (asInt (.int .i64 l)).run P W = .ok l W := fun W => by simp [asInt, asIntOf]
  have hl48 : ¬ (281474976710656 < l * (i.bytes : Int)) := by omega
  refine ⟨fun Bs n cap hfit => ?_, fun Bs n cap olds z hov hb hzz' hfo => ?_⟩
  · cases Bs with
    | none =>
      by_cases hm0 : l.toNat * sizeT P e = 0
      · simp [Builtin.append_, run_underlying ht, run_underlying ht', run_sizeT_pos hz, hai, hw, hln, hl48, hti, hfit, hm0]
      · simp [Builtin.append_, run_underlying ht, run_underlying ht', run_sizeT_pos hz, hai, hw, hln, hl48, hti, hfit, hm0, hzz]
    | some q =>
      by_cases hm0 : l.toNat * sizeT P e = 0
      · simp [Builtin.append_, run_underlying ht, run_underlying ht', run_sizeT_pos hz, hai, hw, hln, hl48, hti, hfit, hm0, hzero0 hm0]
      · simp [Builtin.append_, run_underlying ht, run_underlying ht', run_sizeT_pos hz, hai, hw, hln, hl48, hti, hfit, hm0, hzz]
  · have hzq : z = zero := by
      have := hzz' w
      rw [hzz w] at this
      cases this; rfl
    subst hzq
    rw [hb1] at hb
    have hfits := growslice_fits hov hb
    refine ⟨grownCap w (n + l.toNat) cap e, by simp only [grownCap, Question.cut]; omega, ?_⟩
    have hn : ¬ (n + l.toNat ≤ cap) := by omega
    have h48 : ¬ (281474976710656 < Builtin.nextslicecap (n + l.toNat) cap * i.bytes) := by omega
    have hb0' : ¬ i.bytes = 0 := by omega
    have hnm : n + l.toNat ≤ 140737488355328 := by
      have : (n + l.toNat) * 1 ≤ (n + l.toNat) * i.bytes := Nat.mul_le_mul_left _ hby
      omega
    have hmx : ¬ (9223372036854775807 < (n : Int) + max l 0) := by omega
    by_cases hm0 : l.toNat * sizeT P e = 0
    · simp [Builtin.append_, run_underlying ht, run_underlying ht', run_sizeT_pos hz, hai, hw, hln, hl48, hti, hn, h48, hb0', hmx, Question.forced, hfo, hm0, hzero0 hm0, hzz, newRow, grownCap]
    · simp [Builtin.append_, run_underlying ht, run_underlying ht', run_sizeT_pos hz, hai, hw, hln, hl48, hti, hn, h48, hb0', hmx, Question.forced, hfo, hm0, hzz, newRow, grownCap]

theorem size_append' (s s2 : ByteArray) : (s ++ s2).size = s.size + s2.size := by simp
theorem byteAt_append (s s2 : ByteArray) (i : Nat) (hi : i < s.size + s2.size) : byteAt (s ++ s2) i = if i < s.size then byteAt s i else byteAt s2 ((i - s.size : Nat) : Int) := by
  have hd : (s ++ s2).data.toList = s.data.toList ++ s2.data.toList := by simp
  unfold byteAt
  rw [hd, Int.toNat_natCast, Int.toNat_natCast]
  split
  · rename_i h
    rw [List.getElem?_append_left (by simpa using h)]
  · rename_i h
    rw [List.getElem?_append_right (by simpa using h)]
    simp

theorem append_bs (h : Rel base w0 ks st a w c) {t t' tyo e : TypeId} {X Y : Value} {r : Nat} {s s2 : ByteArray} (hr : r < c.m) (hxr : X = c.ρ r) (hbx : st.h[r]? = some (.bs e s))
    (hA : AppOK P t t' tyo e Y s2.size (flat 1 s2.size fun i _ => .int .u8 (byteAt s2 i)).toArray w)
    (hs1 : sizeT P e = 1) (hby : 0 < P.bytesOf e) (hzl : (zeroT P e).length = 1) (hb : (s.size + s2.size) * P.bytesOf e ≤ 140737488355328) :
    AppEnd P base w0 ks st a w X Y t t' tyo r { (st.sub (killV r)) with h := (st.sub (killV r)).h.set r (.bs e (s ++ s2)) } := by
  obtain ⟨_, hB⟩ := h.at hbx
  have hz : 0 < sizeT P e := by omega
  have hb1 : s.size + s2.size ≤ 140737488355328 := Nat.le_trans (Nat.le_mul_of_pos_right _ hby) hb
  obtain ⟨zero, hzz, hzs, hzo, _⟩ := zeroT_sound hz (by rw [hzl, hs1]) w c
  have hfl := flat_length 1 s2.size fun i _ => Value.int .u8 (byteAt s2 i)
  rw [Nat.mul_one] at hfl
  have hfg : ∀ i, i < s2.size → (flat 1 s2.size fun i _ => Value.int .u8 (byteAt s2 i))[i]? = some (.int .u8 (byteAt s2 i)) := fun i hi => by
    have := flat_get (sz := 1) (m := s2.size) (z := fun i _ => Value.int .u8 (byteAt s2 i)) (i := i) (j := 0) hi (by omega)
    rwa [Nat.mul_one, Nat.add_zero] at this
  have hf1 : ∀ (i : Nat) y, (flat 1 s2.size fun i _ => Value.int .u8 (byteAt s2 i))[i]? = some y → one y := fun i y hy => by
    have hi : i < s2.size := by rw [← hfl]; exact (List.getElem?_eq_some_iff.1 hy).1
    rw [hfg i hi] at hy
    cases hy; rfl
  rw [hxr]
  -- a new block
  have over : ∀ {Bs : Option Addr} {cap : Nat} {olds : Array Value}, c.ρ r = .slice Bs s.size cap → cap < s.size + s2.size → (Builtin.firstCells 1 s.size (.slice Bs s.size cap)).run P w.drew = .ok olds w.drew → olds.size = s.size → (∀ (i : Nat) y, olds[i]? = some y → one y) →
      (∀ i, i < s.size → olds[i]? = some (.int .u8 (byteAt s i))) → AppEnd P base w0 ks st a w (c.ρ r) Y t t' tyo r { (st.sub (killV r)) with h := (st.sub (killV r)).h.set r (.bs e (s ++ s2)) } := by
    intro Bs cap olds hρ hov hfo hos ho1 hoc
    obtain ⟨nc, hnc, hr2⟩ := hA.2 Bs s.size cap olds zero hov hb hzz (by rw [hs1]; exact hfo)
    have hzc : zero.cells.size = 1 := by rw [hzs, hs1]
    have hsz : (olds ++ (flat 1 s2.size fun i _ => Value.int .u8 (byteAt s2 i)).toArray ++ Builtin.zeroCells zero.cells (nc - (s.size + s2.size))).size = nc := by
      simp only [Array.size_append, hos, List.size_toArray, hfl, Builtin.zeroCells, Array.size_map, Array.size_range, hzc]
      omega
    have hd := h.drew
    have hreown := hd.reown (w' := w.drew.alloc (.cells (olds ++ (flat 1 s2.size fun i _ => Value.int .u8 (byteAt s2 i)).toArray ++ Builtin.zeroCells zero.cells (nc - (s.size + s2.size))) e)) (x := .slice (some ⟨w.heap.size, 0, none⟩) (s.size + s2.size) nc) (u := some w.heap.size) (b := .bs e (s ++ s2)) hr ⟨_, _, _, hρ⟩ (hd.bel.alloc hd.base_le _) (by simp) (fun q hq _ => Below.heap_alloc w.drew _ q hq) (fun q hq => by
        cases hq
        exact ⟨fun hb => by have := h.base_le _ hb; omega, fun hf => by have := h.lt _ hf; omega, fun s' hs' _ ho => by have := h.owned_lt hs' ho; omega⟩) (by
        have hsa := size_append' s s2
        refine .bs e _ nc w.heap.size _ (0, 0) (by simp [Cx.at, hsa]) (by simp [Cx.at]) (heap_new w.drew _) (fun j _ => by omega) hsz (by rw [hsa]; exact hnc) ⟨by omega, by rw [hsa]; exact hb1⟩ (fun i y hy => ?_) fun i hi => ?_
        · rw [Array.getElem?_append] at hy
          split at hy
          · rw [Array.getElem?_append] at hy
            split at hy
            · exact ho1 _ y hy
            · exact hf1 _ y (by simpa using hy)
          · simp only [Builtin.zeroCells, Array.getElem?_map] at hy
            cases hq : (Array.range ((nc - (s.size + s2.size)) * zero.cells.size))[i - (olds ++ (flat 1 s2.size fun i _ => Value.int .u8 (byteAt s2 i)).toArray).size]? with
            | none => rw [hq] at hy; cases hy
            | some q =>
              rw [hq] at hy
              simp only [Option.map_some, Option.some.injEq] at hy
              subst hy
              have hlt : q % zero.cells.size < zero.cells.size := Nat.mod_lt _ (by omega)
              rw [getElem!_pos zero.cells (q % zero.cells.size) hlt]
              exact hzo _ _ (Array.getElem?_eq_getElem hlt)
        · rw [hsa] at hi
          rw [byteAt_append s s2 i hi, Array.getElem?_append_left (by simp only [Array.size_append, hos, List.size_toArray, hfl]; omega)]
          split
          · rename_i hlt
            rw [Array.getElem?_append_left (by omega)]
            exact hoc i hlt
          · rename_i hge
            rw [Array.getElem?_append_right (by omega), hos]
            simp only [List.getElem?_toArray]
            exact hfg _ (by omega))
    exact ⟨_, _, _, by rw [hρ]; exact hr2, hreown, Rv.own (c := c.at r _ _) r hr _ _ _ (by simp [Cx.at])⟩
  cases hB with
  | bsNil _ hρ ho =>
    by_cases hm : s2.size = 0
    · have hr2 := hA.1 none 0 0 (by omega)
      have he : ByteArray.empty ++ s2 = ByteArray.empty := by
        cases s2
        rename_i d
        have : d.size = 0 := hm
        have hd : d = #[] := Array.eq_empty_of_size_eq_zero this
        subst hd
        rfl
      rw [he]
      refine ⟨_, w, _, ?_, h.reown (x := .slice none 0 0) (u := none) hr ⟨_, _, _, hρ⟩ h.bel (Nat.le_refl _) (fun _ _ _ => rfl) (fun q hq => by cases hq) (.bsNil e (by simp [Cx.at]) (by simp [Cx.at])), Rv.own (c := c.at r (.slice none 0 0) none) r hr none 0 0 (by simp [Cx.at])⟩
      rw [hρ, hr2, hm]
    · exact over (olds := #[]) hρ (by show 0 < 0 + s2.size; omega) (by simp [Builtin.firstCells]) rfl (fun i y hy => by simp at hy) fun i hi => absurd hi (Nat.not_lt_zero _)
  | bs _ _ cap k xs fz hρ ho hk hfz hs2 hc hp h1 hcell =>
    by_cases hfit : s.size + s2.size ≤ cap
    · have hr2 := hA.1 (some ⟨k, 0, none⟩) s.size cap hfit
      have hst := run_storeCells' (P := P) (off := s.size) (flat 1 s2.size fun i _ => Value.int .u8 (byteAt s2 i)) 0 xs w hk hfz (by rw [hfl]; omega) (fun y hy => by
        obtain ⟨i, hi, rfl⟩ := List.getElem_of_mem hy
        exact hf1 i _ (List.getElem?_eq_getElem hi))
      rw [Nat.add_zero] at hst
      have hr3 : (Builtin.append_ #[t, t'] tyo #[c.ρ r, Y]).run P w = .ok (.slice (some ⟨k, 0, none⟩) (s.size + s2.size) cap) (w.setRow k (putAt xs.toList s.size (flat 1 s2.size fun i _ => Value.int .u8 (byteAt s2 i))).toArray) := by
        rw [hρ, hr2]
        simp only [addp, hs1, Nat.mul_one, Nat.zero_add, hst, Result.andThen_ok]
      have hxl : s.size + (flat 1 s2.size fun i _ => Value.int .u8 (byteAt s2 i)).length ≤ xs.toList.length := by rw [hfl]; simp; omega
      have hsa := size_append' s s2
      refine ⟨_, _, _, hr3, h.reown (x := .slice (some ⟨k, 0, none⟩) (s.size + s2.size) cap) (u := some k) (b := .bs e (s ++ s2)) hr ⟨_, _, _, hρ⟩ (h.bel.trans ⟨rfl, rfl, rfl, by simp, fun q hq => setRow_other w k q _ (fun e => h.ge r k hr ho (e ▸ hq))⟩) (by simp) (fun q _ hne => setRow_other w k q _ (fun e => hne (e ▸ ho)))
        (fun q hq => by cases hq; exact ⟨h.ge r k hr ho, h.nF r k hr ho, fun s' hs' hne ho' => hne (h.inj s' r k hs' hr ho' ho)⟩)
        (.bs e _ cap k _ fz (by simp [Cx.at, hsa]) (by simp [Cx.at]) (setRow_heap w k xs _ e fz hk) ?_ ?_ (by rw [hsa]; exact hfit) ⟨hp.1, by rw [hsa]; exact hb1⟩ ?_ ?_), Rv.own (c := c.at r _ _) r hr _ _ _ (by simp [Cx.at])⟩
      · simpa [putAt_length _ _ _ hxl] using hfz
      · simpa [putAt_length _ _ _ hxl] using hs2
      · intro i y hy
        simp only [List.getElem?_toArray] at hy
        rw [putAt_get _ _ _ hxl] at hy
        split at hy
        · exact hf1 _ y hy
        · exact h1 _ y (by simpa using hy)
      · intro i hi
        rw [hsa] at hi
        simp only [List.getElem?_toArray]
        rw [putAt_get _ _ _ hxl, byteAt_append s s2 i hi, hfl]
        by_cases hlt : i < s.size
        · rw [if_neg (by omega), if_pos hlt]
          simpa using hcell i hlt
        · rw [if_pos (by omega), if_neg hlt]
          exact hfg _ (by omega)
    · have hex : xs.size ≥ s.size := by omega
      refine over (olds := xs.extract 0 s.size) hρ (by omega) ?_ (by simp; omega) (fun i y hy => ?_) fun i hi => ?_
      · have := run_firstCells (P := P) (W := w.drew) (sz := 1) (m := s.size) (A := some ⟨k, 0, none⟩) (cap := cap) (z := fun i _ => xs.getD i undef) (by omega) (.inr ⟨k, 0, rfl, fun i j hi hj => by
          obtain rfl : j = 0 := by omega
          have hk' : w.drew.heap[k]? = some (.cells xs e fz) := hk
          rw [Nat.mul_one, Nat.add_zero, Nat.zero_add, cellAt hk', Array.getElem?_eq_getElem (by omega : i < xs.size)]
          simp [show i < xs.size by omega]⟩)
        rw [this]
        congr 1
        apply Array.ext'
        apply List.ext_getElem?
        intro i
        by_cases hi : i < s.size
        · have hg := flat_get (sz := 1) (m := s.size) (z := fun i _ => xs.getD i undef) (i := i) (j := 0) hi (by omega)
          rw [Nat.mul_one, Nat.add_zero] at hg
          have hix : i < xs.size := by omega
          rw [hg]
          simp [List.getElem?_take, hi, hix]
        · rw [List.getElem?_eq_none, List.getElem?_eq_none]
          · simp; omega
          · rw [flat_length]; omega
      · simp only [Array.getElem?_extract] at hy
        split at hy
        · exact h1 _ y hy
        · cases hy
      · have hix : i < xs.size := by omega
        have := hcell i hi
        rw [Array.getElem?_eq_getElem hix] at this
        rw [Array.getElem?_extract_of_lt (by omega)]
        simpa using this

theorem eff_append (h : Rel base w0 ks st a w c) {args : Array Operand} {tys : Array TypeId} {st' : St} (hop : o.op = .call { callee := .builtin .append, args := args, argTypes := tys }) (he : evEff P st o.type o.op = some (b, v, st')) (hb : b = true) : EffOK P base w0 ks st a w o v st' := by
  rw [hop] at he
  simp only [evEff] at he
  split at he <;> (try cases he)
  rename_i x y t t' hax hat
  have hargs : args = #[x, y] := by apply Array.ext'; exact hax
  have htys : tys = #[t, t'] := by apply Array.ext'; exact hat
  subst hargs; subst htys
  split at he <;> (try cases he)
  rename_i e ht
  split at he <;> (try cases he)
  rename_i b0 m g' hY
  -- what is appended
  have hyok : 0 < sizeT P e → 0 < P.bytesOf e → (zeroT P e).length = sizeT P e → b0 = true → ∃ z : Nat → Nat → Value, AppOK P t t' o.type e (a.eval y) m (flat (sizeT P e) m z).toArray w ∧ (∀ i j, i < m → j < sizeT P e → one (z i j)) ∧
      (∀ i, i < m → (g' i).length = sizeT P e) ∧ ∀ (i j : Nat) u, i < m → (g' i)[j]? = some u → Rd w c.F u (z i j) := by
    intro hz hby hzl hb0
    unfold appY at hY
    have hy := h.ev y
    split at hY
    · rename_i s ht' ey
      split at hY <;> (try cases hY)
      rename_i hbt
      rw [ey] at hy
      have hy := hy.str_inv
      have hs1 : sizeT P e = 1 := by
        unfold bytesTy at hbt
        rw [ht] at hbt
        simp only at hbt
        split at hbt
        · simpa using hbt
        · cases hbt
      rw [hy]
      refine ⟨_, appOK_str ht ht' hs1 hby s, fun i j _ _ => rfl, fun i _ => by rw [hs1]; rfl, fun i j u hi hu => ?_⟩
      obtain rfl : j = 0 := by
        have := (List.getElem?_eq_some_iff.1 hu).1
        simp only [Cells.fn, Ty.cells, List.length_singleton] at this
        omega
      simp only [Cells.fn, Ty.cells, byteG, List.getElem?_cons_zero, Option.some.injEq] at hu
      subst hu
      exact .int _ _
    · rename_i q l ht' ey
      simp only [Option.some.injEq, Prod.mk.injEq] at hY
      obtain ⟨rfl, rfl, rfl⟩ := hY
      simp only [Bool.and_eq_true, decide_eq_true_eq] at hb0
      rw [ey] at hy
      have hy := hy.int_inv
      obtain ⟨zero, hzz, hzs, hzo, hzr⟩ := zeroT_sound hz hzl w c
      rw [hy]
      refine ⟨_, appOK_zeros ht ht' hz hby hb0.1 hb0.2 hzz hzs, fun i j _ hj => ?_, fun i _ => by rw [repC_fn]; exact hzl, fun i j u hi hu => ?_⟩
      · simp only [getElem!_pos zero.cells j (by omega)]
        exact hzo j _ (Array.getElem?_eq_getElem (by omega))
      · rw [repC_fn] at hu
        have hj : j < zero.cells.size := by rw [hzs, ← hzl]; exact (List.getElem?_eq_some_iff.1 hu).1
        simp only [getElem!_pos zero.cells j hj]
        exact hzr j u _ hu (Array.getElem?_eq_getElem hj)
    · rename_i e' ht'
      split at hY <;> (try cases hY)
      rename_i nl' sz' m' g2 hs
      split at hY <;> (try cases hY)
      rename_i hsz'
      obtain ⟨A, c2, z, hyv, hzc, hz1, hzg, hzr⟩ := slOf_reads h hs hy
      rw [hyv]
      have hzc' : m = 0 ∨ ∃ q off, A = some ⟨q, off, none⟩ ∧ ∀ i j, i < m → j < sizeT P e → w.cell? ⟨q, off + (i * sizeT P e + j), none⟩ = some (z i j) := by
        rcases hsz' with rfl | h0
        · exact hzc
        · exact .inl h0
      refine ⟨z, appOK_slice ht ht' hz hby hzc', ?_, ?_, hzr⟩
      · rcases hsz' with rfl | h0
        · exact hz1
        · intro i j hi; omega
      · rcases hsz' with rfl | h0
        · exact hzg
        · intro i hi; omega
    · cases hY
  have fin : ∀ {r : Nat} {st' : St}, AppEnd P base w0 ks st a w (a.eval x) (a.eval y) t t' o.type r st' → EffOK P base w0 ks st a w o (.own r) st' := by
    rintro r st' ⟨X, w', c', hrun, hrel, hrv⟩
    refine ⟨X, w', c', .inl ?_, hrel, hrv⟩
    simp [execOp, hop, resolve, invoke, builtin, hrun]
  have hx := h.ev x
  split at he
  · rename_i r ex
    rw [ex] at hx
    obtain ⟨hr, hxr, _⟩ := hx.own_inv
    split at he <;> (try cases he)
    rotate_left
    · rename_i e2 s hbx
      have size1 : ∀ {e2 : TypeId}, P.underlying t = some (.slice e2) → bytesTy P t = true → sizeT P e2 = 1 := by
        intro e2 ht hbt
        unfold bytesTy at hbt
        rw [ht] at hbt
        simp only at hbt
        split at hbt
        · simpa using hbt
        · cases hbt
      split at he
      · rename_i s2 ey
        split at he <;> (try cases he)
        rename_i hc
        obtain ⟨rfl, hbt, hst, hby, hzl⟩ := hc
        have hs1 := size1 ht hbt
        have ht' : P.underlying t' = some .string := by
          unfold strT at hst
          split at hst
          · assumption
          · cases hst
        have hy := h.ev y
        rw [ey] at hy
        refine fin ?_
        rw [hy.str_inv]
        have hA := appOK_str (w := w) (ty := o.type) ht ht' hs1 hby s2
        rw [hs1] at hA
        exact append_bs h hr hxr hbx hA hs1 hby hzl (by simpa using hb)
      · split at he <;> (try cases he)
        rename_i G
        split at he <;> (try cases he)
        rename_i hc
        obtain ⟨rfl, hbt, hby, hzl⟩ := hc
        have hs1 := size1 ht hbt
        simp only [Bool.and_eq_true, decide_eq_true_eq] at hb
        obtain ⟨⟨hb0, hbk⟩, hb2⟩ := hb
        obtain ⟨z, hA, h1, h2, h3⟩ := hyok (by omega) hby (by rw [hzl, hs1]) hb0
        have hsz : (bytesT m G).size = m := by simp [bytesT, ByteArray.size]
        have hin : ∀ i, i < m → 0 ≤ (G i).1 ∧ (G i).1 < 256 := by
          intro i hi
          simp only [bytesOk, List.all_eq_true, List.mem_range, Bool.and_eq_true, decide_eq_true_eq] at hbk
          exact hbk i hi
        have hzv : ∀ i, i < m → z i 0 = .int .u8 (byteAt (bytesT m G) i) := by
          intro i hi
          have h4 := h3 i 0 (.int .u8 (G i).1) hi (by simp [Cells.fn, Ty.cells])
          have : z i 0 = .int .u8 (G i).1 := by
            generalize z i 0 = q at h4
            cases h4; rfl
          rw [this]
          congr 1
          obtain ⟨g0, g1⟩ := hin i hi
          unfold byteAt bytesT
          rw [Int.toNat_natCast]
          simp only [List.getElem?_map, List.getElem?_range hi, Option.map_some, Option.getD_some]
          rw [UInt8.toNat_ofNat']
          omega
        have hfe : flat (sizeT P e2) m z = flat 1 (bytesT m G).size fun i _ => .int .u8 (byteAt (bytesT m G) i) := by
          rw [hs1, hsz]
          apply List.ext_getElem?
          intro i
          by_cases hi : i < m
          · have f1 := flat_get (sz := 1) (m := m) (z := z) (i := i) (j := 0) hi (by omega)
            have f2 := flat_get (sz := 1) (m := m) (z := fun i _ => Value.int .u8 (byteAt (bytesT m G) i)) (i := i) (j := 0) hi (by omega)
            rw [Nat.mul_one, Nat.add_zero] at f1 f2
            rw [f1, f2, hzv i hi]
          · rw [List.getElem?_eq_none, List.getElem?_eq_none]
            · rw [flat_length]; omega
            · rw [flat_length]; omega
        rw [hfe] at hA
        have hA' : AppOK P t t' o.type e2 (a.eval y) (bytesT m G).size (flat 1 (bytesT m G).size fun i _ => .int .u8 (byteAt (bytesT m G) i)).toArray w := by rw [hsz] at hA ⊢; exact hA
        exact fin (append_bs h hr hxr hbx hA' hs1 hby hzl (by rw [hsz]; exact hb2))
    rename_i wr nl sz n g hbx
    split at he <;> (try cases he)
    rename_i hc
    obtain ⟨rfl, hby, hzl⟩ := hc
    simp only [Bool.and_eq_true, decide_eq_true_eq] at hb
    have hz : 0 < sizeT P e := by cases (h.at hbx).2 <;> assumption
    obtain ⟨z, hA, h1, h2, h3⟩ := hyok hz hby hzl hb.1
    exact fin (append_core h hr hxr hbx hby hzl hb.2 hA h1 h2 h3)
  · rename_i sz n g ex
    split at he <;> (try cases he)
    rename_i hc
    obtain ⟨hz, hby, hzl⟩ := hc
    rw [ex] at hx
    have hxn : a.eval x = .slice none 0 0 := by
      cases hx with
      | im _ _ hd =>
        generalize hq : a.eval x = q at hd
        cases hd
        rfl
    simp only [Bool.and_eq_true, decide_eq_true_eq] at hb
    obtain ⟨z, hA, h1, h2, h3⟩ := hyok hz hby hzl hb.1
    have hp := h.pushNone (.slice none 0 0) (b := .row true true (sizeT P e) 0 (repC P e)) (.rowNil _ _ _ hz (by simp [Cx.push]) (by simp [Cx.push]))
    have hcm := h.hm
    refine fin ?_
    have := append_core hp (wr := true) (nl := true) (n := 0) (g := repC P e) (r := st.h.length) (X := a.eval x) (Y := a.eval y) (by rw [← hcm]; show c.m < c.m + 1; omega) (by rw [hxn, ← hcm]; simp [Cx.push]) (by show (st.h ++ [_])[st.h.length]? = _; simp) hby hzl hb.2 hA h1 h2 (fun i j u hi hu => h3 i j u hi hu)
    exact this
  · cases he

theorem eff_cut (h : Rel base w0 ks st a w c) {t : TypeId} {x : Operand} {lo hi mx : Option Operand} {st' : St} (hop : o.op = .slice t x lo hi mx) (he : evEff P st o.type o.op = some (b, v, st')) (hb : b = true) : EffOK P base w0 ks st a w o v st' := by
  rw [hop] at he
  simp only [evEff] at he
  split at he <;> (try cases he)
  rename_i r ex
  split at he
  · rename_i hq
    split at he <;> (try cases he)
    rename_i e k u nl sz n g hu ehi hbx
    split at he <;> (try cases he)
    rename_i hz
    obtain ⟨rfl, hz⟩ := hz
    simp only [Bool.and_eq_true, decide_eq_true_eq] at hb
    have hforms : lo = none ∧ mx = none := by
      unfold cutQ at hq
      split at hq
      · exact ⟨rfl, rfl⟩
      · cases hq
    obtain ⟨rfl, rfl⟩ := hforms
    have hx := h.ev x
    rw [ex] at hx
    obtain ⟨hr, hxr, _⟩ := hx.own_inv
    have hhi : hi.map a.eval = some (.int k u) := by
      cases hi with
      | none => cases ehi
      | some y =>
        simp only [Option.map_some, Option.some.injEq] at ehi ⊢
        have hy := h.ev y
        rw [ehi] at hy
        exact hy.int_inv
    obtain ⟨hue, hel⟩ := elem_of hu
    have hsz : ∀ W : World, (sizeOf (P.elem t)).run P W = .ok (sizeT P e) W := fun W => by rw [hel]; exact run_sizeT_pos hz W
    have hrun : ∀ A cap, c.ρ r = .slice A n cap → n ≤ cap → (execOp a.eval o).run P w = .ok (.value (.slice A u.toNat cap)) w := by
      intro A cap hA hcap
      have h1 := run_slice_h w t A n cap hue k u hb.1 (by omega)
      rw [← hhi] at h1
      have hX : (Instr.slice t (.slice A n cap) ((none : Option Operand).map a.eval) (hi.map a.eval) ((none : Option Operand).map a.eval)).run P w = .ok (.slice A u.toNat cap) w := by
        simp only [Option.map_none]
        rw [h1, hsz]
        cases A with
        | none => simp [sliced]
        | some A => simp [sliced, Addr.add]
      simp only [execOp, hop, hxr, hA, Sem.run_bind, run_sliceAt_slice w t _ _ _ _ hue, hX, Result.andThen_ok, Sem.run_pure]
    obtain ⟨_, hB⟩ := h.at hbx
    cases hB with
    | rowNil _ _ _ hz0 hρ ho =>
      obtain rfl : u = 0 := by omega
      refine ⟨_, w, _, .inl (hrun none 0 hρ (Nat.le_refl _)), h.reown (x := .slice none 0 0) (u := none) hr ⟨_, _, _, hρ⟩ h.bel (Nat.le_refl _) (fun _ _ _ => rfl) (fun q hq => by cases hq) (.rowNil true _ _ hz (by simp [Cx.at]) (by simp [Cx.at])), Rv.own (c := c.at r (.slice none 0 0) none) r hr none 0 0 (by simp [Cx.at])⟩
    | rowFull _ _ _ _ A2 hz0 hw hρ ho hd => cases hw
    | row _ _ _ cap _ ty k2 xs fz hz0 hρ ho hk hfz hs2 hcp h1 hg hh =>
      have hun : u.toNat ≤ n := by omega
      refine ⟨_, w, _, .inl (hrun _ cap hρ hcp), h.reown (x := .slice (some ⟨k2, 0, none⟩) u.toNat cap) (u := some k2) hr ⟨_, _, _, hρ⟩ h.bel (Nat.le_refl _) (fun _ _ _ => rfl) (fun q hq => by cases hq; exact ⟨h.ge r k2 hr ho, h.nF r k2 hr ho, fun s hs' hne ho' => hne (h.inj s r k2 hs' hr ho' ho)⟩)
        (.row true _ u.toNat cap _ ty k2 xs fz hz (by simp [Cx.at]) (by simp [Cx.at]) hk hfz hs2 (by omega) h1 (fun i hi => hg i (by omega)) fun i j v hi hv => hh i j v (by omega) hv), Rv.own (c := c.at r (.slice (some ⟨k2, 0, none⟩) u.toNat cap) (some k2)) r hr _ _ _ (by simp [Cx.at])⟩
  · rw [Option.map_eq_some_iff] at he
    obtain ⟨⟨b', v', bs⟩, hm, he⟩ := he
    simp only [Prod.mk.injEq] at he
    obtain ⟨rfl, rfl, rfl⟩ := he
    obtain ⟨c', h', _, _, hl⟩ := h.frz r
    rw [← hop, ← hl] at hm
    obtain ⟨y, w', c'', hrun, hrel, hrv, _⟩ := evMono_sound h' hm hb
    exact ⟨y, w', c'', .inl hrun, hrel, hrv⟩

theorem eff_copy (h : Rel base w0 ks st a w c) {args : Array Operand} {tys : Array TypeId} {st' : St} (hop : o.op = .call { callee := .builtin .copy, args := args, argTypes := tys }) (he : evEff P st o.type o.op = some (b, v, st')) (hb : b = true) : EffOK P base w0 ks st a w o v st' := by
  rw [hop] at he
  simp only [evEff] at he
  split at he <;> (try cases he)
  rename_i x y t t' hax hat
  have hargs : args = #[x, y] := by apply Array.ext'; exact hax
  have htys : tys = #[t, t'] := by apply Array.ext'; exact hat
  subst hargs; subst htys
  split at he <;> (try cases he)
  rename_i e e' r nl' sz' m g' ht ht' ex hs
  split at he <;> (try cases he)
  rename_i nl sz n g hbx
  split at he <;> (try cases he)
  rename_i hc
  obtain ⟨rfl, rfl⟩ := hc
  have hx := h.ev x
  rw [ex] at hx
  obtain ⟨hr, hxr, _⟩ := hx.own_inv
  obtain ⟨A, c2, z, hy, hzc, hz1, hzg, hzr⟩ := slOf_reads h hs (h.ev y)
  obtain ⟨_, hB⟩ := h.at hbx
  have hz : 0 < sizeT P e := by cases hB <;> assumption
  have hmn : min m n ≤ m := Nat.min_le_left _ _
  have hmn2 : min m n ≤ n := Nat.min_le_right _ _
  have hf : (Builtin.firstCells (sizeT P e) (min m n) (.slice A m c2)).run P w = .ok (flat (sizeT P e) (min m n) z).toArray w := by
    have := run_firstCells (P := P) (W := w) (A := A) (m := min m n) (cap := c2) (z := z) hz (by
      rcases hzc with h0 | ⟨q, off, hA, hcell⟩
      · exact .inl (by omega)
      · exact .inr ⟨q, off, hA, fun i j hi hj => hcell i j (by omega) hj⟩)
    cases A <;> exact this
  have hex : ∀ X w', (Builtin.copy_ #[t, t'] o.type #[a.eval x, .slice A m c2]).run P w = .ok X w' → (execOp a.eval o).run P w = .ok (.value X) w' := by
    intro X w' hX
    rw [← hy] at hX
    simp [execOp, hop, resolve, invoke, builtin, hX]
  have hcopy : ∀ (Bs : Option Addr) (cap : Nat), (Builtin.copy_ #[t, t'] o.type #[.slice Bs n cap, .slice A m c2]).run P w = match Bs with
      | some q => ((storeCells q (flat (sizeT P e) (min m n) z)).run P w).andThen fun _ w' => .ok (.int .i64 ((min m n : Nat) : Int)) w'
      | none => .ok (.int .i64 ((min m n : Nat) : Int)) w := by
    intro Bs cap
    have hcast : (Nat.min m n : Nat) = min m n := rfl
    revert hf
    cases Bs with
    | none =>
      intro hf
      simp only [Builtin.copy_, List.getElem?_toArray, List.getElem?_cons_zero, List.getElem?_cons_succ, Sem.run_bind, run_underlying ht, Result.andThen_ok, Builtin.lenOf, Sem.run_pure, run_sizeT_pos hz, hcast, goInt, hf]
    | some q =>
      intro hf
      simp only [Builtin.copy_, List.getElem?_toArray, List.getElem?_cons_zero, List.getElem?_cons_succ, Sem.run_bind, run_underlying ht, Result.andThen_ok, Builtin.lenOf, Sem.run_pure, run_sizeT_pos hz, hcast, goInt, hf]
  cases hB with
  | rowNil _ _ _ hz0 hρ ho =>
    have hm0 : min m 0 = 0 := by omega
    rw [hρ] at hxr
    have hrun : (Builtin.copy_ #[t, t'] o.type #[.slice none 0 0, .slice A m c2]).run P w = .ok (.int .i64 ((min m 0 : Nat) : Int)) w := hcopy none 0
    have e1 : ({ st with h := st.h.set r (.row true true (sizeT P e) 0 (Cells.app (min m 0) g' (Cells.shift (min m 0) g))) } : St) = { st with h := st.h.set r (.row true true (sizeT P e) 0 (Cells.app (min m 0) g' (Cells.shift (min m 0) g))) } := rfl
    refine ⟨_, w, c, .inl (hex _ _ (by rw [hxr]; exact hrun)), ?_, .im _ _ (.int _ _)⟩
    refine ⟨h.len, h.tm, h.ls, h.sv, by simpa using h.hm, fun s b' hb' => ?_, h.inj, h.ge, h.nF, h.lt, h.bel, h.dn, h.bs, h.ff, h.pn⟩
    change (st.h.set r _)[s]? = some b' at hb'
    rw [List.getElem?_set] at hb'
    split at hb'
    · rename_i e
      subst e
      split at hb' <;> (try cases hb')
      exact .rowNil _ _ _ hz hρ ho
    · exact h.hp s b' hb'
  | rowFull _ _ _ _ A2 hz0 hw hρ ho hd => cases hw
  | row _ _ _ cap _ ty k xs fz hz0 hρ ho hk hfz hs2 hcp h1 hg hh =>
    rw [hρ] at hxr
    have hfl := flat_length (sizeT P e) (min m n) z
    have hle : min m n * sizeT P e ≤ cap * sizeT P e := Nat.mul_le_mul_right _ (by omega)
    have hst := run_storeCells' (P := P) (off := 0) (flat (sizeT P e) (min m n) z) 0 xs w hk hfz (by rw [hfl]; omega) (fun y hy => by
      obtain ⟨i, hi, rfl⟩ := List.getElem_of_mem hy
      exact flat_one hz (fun i j hi hj => hz1 i j (by omega) hj) (List.getElem?_eq_getElem hi))
    have hrun : (Builtin.copy_ #[t, t'] o.type #[.slice (some ⟨k, 0, none⟩) n cap, .slice A m c2]).run P w = .ok (.int .i64 ((min m n : Nat) : Int)) (w.setRow k (putAt xs.toList 0 (flat (sizeT P e) (min m n) z)).toArray) := by
      rw [hcopy (some ⟨k, 0, none⟩) cap]
      have hst' : (storeCells ⟨k, 0, none⟩ (flat (sizeT P e) (min m n) z)).run P w = .ok () (w.setRow k (putAt xs.toList 0 (flat (sizeT P e) (min m n) z)).toArray) := hst
      simp only [hst', Result.andThen_ok]
    have hxl : 0 + (flat (sizeT P e) (min m n) z).length ≤ xs.toList.length := by rw [hfl]; simp; omega
    have hsm : Same c.F w (w.setRow k (putAt xs.toList 0 (flat (sizeT P e) (min m n) z)).toArray) := fun q hq => setRow_other w k q _ (fun e => h.nF r k hr ho (e ▸ hq))
    refine ⟨_, _, c, .inl (hex _ _ (by rw [hxr]; exact hrun)), h.write hr ho _ (.row true _ n cap _ ty k _ fz hz hρ ho (setRow_heap w k xs _ ty fz hk) ?_ ?_ hcp ?_ ?_ ?_), .im _ _ (.int _ _)⟩
    · simpa [putAt_length _ _ _ hxl] using hfz
    · simpa [putAt_length _ _ _ hxl] using hs2
    · intro i y hy
      simp only [List.getElem?_toArray] at hy
      rw [putAt_get _ _ _ hxl] at hy
      split at hy
      · exact flat_one hz (fun i j hi hj => hz1 i j (by omega) hj) hy
      · exact h1 _ y (by simpa using hy)
    · intro i hi
      rw [Cells.app_fn]
      cases eb : Nat.blt i (min m n) with
      | true => simp only [cond_true]; exact hzg i (by have := blt_true eb; omega)
      | false => simp only [cond_false, Cells.shift_fn]; have := blt_false eb; rw [show min m n + (i - min m n) = i by omega]; exact hg i hi
    · intro i j u hi hu
      rw [Cells.app_fn] at hu
      simp only [List.getElem?_toArray]
      cases eb : Nat.blt i (min m n) with
      | true =>
        simp only [eb, cond_true] at hu
        have hi' := blt_true eb
        have hj : j < sizeT P e := by rw [← hzg i (by omega)]; exact (List.getElem?_eq_some_iff.1 hu).1
        refine ⟨z i j, ?_, (hzr i j u (by omega) hu).mono hsm fun _ hk => hk⟩
        have hlt : i * sizeT P e + j < (min m n) * sizeT P e := by
          have : (i + 1) * sizeT P e ≤ (min m n) * sizeT P e := Nat.mul_le_mul_right _ (by omega)
          rw [Nat.add_mul, Nat.one_mul] at this
          omega
        rw [putAt_get _ _ _ hxl, if_pos (by rw [hfl]; omega), Nat.sub_zero]
        exact flat_get hi' hj
      | false =>
        simp only [eb, cond_false, Cells.shift_fn] at hu
        have hi' := blt_false eb
        rw [show min m n + (i - min m n) = i by omega] at hu
        obtain ⟨y, hy1, hy2⟩ := hh i j u hi hu
        refine ⟨y, ?_, hy2.mono hsm fun _ hk => hk⟩
        have : (min m n) * sizeT P e ≤ i * sizeT P e := Nat.mul_le_mul_right _ hi'
        rw [putAt_get _ _ _ hxl, if_neg (by rw [hfl]; omega)]
        simpa using hy1

/-- EVERY OPERATION THAT WRITES. -/
theorem evEff_sound (h : Rel base w0 ks st a w c) {st' : St} (he : evEff P st o.type o.op = some (b, v, st')) (hb : b = true) : EffOK P base w0 ks st a w o v st' := by
  cases hop : o.op with
  | store t p x => exact eff_store h hop he hb
  | slice t x lo hi mx => exact eff_cut h hop he hb
  | mapUpdate t m k x => exact eff_mapUpdate h hop he hb
  | call cl =>
    obtain ⟨callee, args, tys⟩ := cl
    cases callee with
    | builtin bi =>
      cases bi <;> first
        | exact eff_append h hop he hb
        | exact eff_copy h hop he hb
        | (rw [hop] at he; simp [evEff] at he)
    | value f => rw [hop] at he; simp [evEff] at he
    | invoke r m => rw [hop] at he; simp [evEff] at he
  | _ => rw [hop] at he; simp [evEff] at he

end
end Go.Rv
