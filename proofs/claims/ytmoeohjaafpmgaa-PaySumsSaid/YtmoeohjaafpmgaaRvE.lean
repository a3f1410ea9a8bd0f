/- Rv, part E: new places in the local heap; reading memory; types. Of no program. -/
import Derived.Test.YtmoeohjaafpmgaaRvD
import Derived.Laws.StructEq
import Derived.Laws.Entries
import Derived.Laws.Cells
set_option linter.unusedVariables false
set_option linter.unusedSimpArgs false
set_option linter.unusedSectionVars false
namespace Go.Rv
open Go Go.RowKit
variable [Fx]

theorem addp (b o j : Nat) : (⟨b, o, none⟩ : Addr).add j = ⟨b, o + j, none⟩ := by unfold Addr.add; split <;> simp_all

section
variable {base : Base} {w0 : World} {ks : List (Array Value)} {st : St} {a : Act} {w : World} {c : Cx}

theorem BR.owned_lt {r k : Nat} {b : B} (h : BR w c r b) (ho : c.o r = some k) : k < w.heap.size := by
  have lt : ∀ {k : Nat} {o : Obj}, w.heap[k]? = some o → k < w.heap.size := fun h => (Array.getElem?_eq_some_iff.1 h).1
  cases h with
  | box cs ty k' xs hρ ho' hk => rw [ho'] at ho; cases ho; exact lt hk
  | rowNil wr sz g hz hρ ho' => rw [ho'] at ho; cases ho
  | rowFull wr sz n g A hz hw hρ ho' => rw [ho'] at ho; cases ho
  | row wr sz n cap g ty k' xs fz hz hρ ho' hk => rw [ho'] at ho; cases ho; exact lt hk
  | mp _ _ _ _ _ k' ens clock hρ ho' hk => rw [ho'] at ho; cases ho; exact lt hk
  | lit _ _ _ _ k' xs hz hρ ho' hk => rw [ho'] at ho; cases ho; exact lt hk
  | sb _ _ k' x y hρ ho' hk => rw [ho'] at ho; cases ho; exact lt hk
  | bsNil _ hρ ho' => rw [ho'] at ho; cases ho
  | it _ _ k' hρ ho' hk => rw [ho'] at ho; cases ho; exact lt hk
  | finNil _ hρ ho' => rw [ho'] at ho; cases ho
  | fin _ _ _ k' _ _ hρ ho' hk => rw [ho'] at ho; cases ho; exact lt hk
  | bs _ _ _ k' _ _ hρ ho' hk => rw [ho'] at ho; cases ho; exact lt hk
  | gone ho' => rw [ho'] at ho; cases ho

theorem Rel.owned_lt (h : Rel base w0 ks st a w c) {r k : Nat} (hr : r < c.m) (ho : c.o r = some k) : k < w.heap.size := by
  have hr' : r < st.h.length := h.hm ▸ hr
  exact (h.hp r st.h[r] (List.getElem?_eq_getElem hr')).owned_lt ho

theorem Rel.base_le (h : Rel base w0 ks st a w c) : ∀ k, base.K k → k < w.heap.size := fun k hk => Nat.lt_of_lt_of_le (h.bs.lt k hk) h.bel.size

theorem Rel.tabNow (h : Rel base w0 ks st a w c) : Fx.tab w := Fx.stab w0 w (fun k hk => h.bel.block k (h.bs.blk k hk)) h.bs.tab

theorem Rel.same (h : Rel base w0 ks st a w c) {w' : World} (hw : ∀ k, k < w.heap.size → w'.heap[k]? = w.heap[k]?) : Same c.F w w' := fun k hk => hw k (h.lt k hk)

/-- New places behind the old ones; nothing that was there has turned. -/
theorem Rel.ext (h : Rel base w0 ks st a w c) {w' : World} {c' : Cx} {bs : List B} (hw : ∀ k, k < w.heap.size → w'.heap[k]? = w.heap[k]?) (hb : Keep base.K w0 w') (hsz : w.heap.size ≤ w'.heap.size)
    (hF : ∀ k, c.F k → c'.F k) (hF' : ∀ k, c'.F k → c.F k ∨ (w.heap.size ≤ k ∧ k < w'.heap.size)) (hm : c'.m = c.m + bs.length) (hρ : ∀ r, r < c.m → c'.ρ r = c.ρ r) (ho : ∀ r, r < c.m → c'.o r = c.o r)
    (hnew : ∀ (i : Nat) b, bs[i]? = some b → BR w' c' (c.m + i) b) (hon : ∀ r k, c.m ≤ r → r < c'.m → c'.o r = some k → w.heap.size ≤ k ∧ ¬ c'.F k)
    (hinj : ∀ r s k, c.m ≤ r → r < c'.m → c.m ≤ s → s < c'.m → c'.o r = some k → c'.o s = some k → r = s) :
    Rel base w0 ks { st with h := st.h ++ bs } a w' c' := by
  have hs := h.same hw
  have up : ∀ {v x}, Rv w c v x → Rv w' c' v x := fun hv => hv.mono hs hF (by omega) hρ
  refine ⟨h.len, fun i v x hv hx => up (h.tm i v x hv hx), h.ls, fun i vs xs hv hx => ⟨(h.sv i vs xs hv hx).1, fun j v x hv' hx' => up ((h.sv i vs xs hv hx).2 j v x hv' hx')⟩, ?_, ?_, ?_, ?_, ?_, ?_, hb, h.dn, h.bs, fun k hk => (hF' k hk).elim (h.ff k) fun hn => .inr fun hb' => by have := h.base_le k hb'; omega, fun j k hj => by obtain ⟨h1, h2, h3⟩ := h.pn j k hj; exact ⟨by omega, (hρ j h1).trans h2, (ho j h1).trans h3⟩⟩
  · show c'.m = (st.h ++ bs).length
    rw [List.length_append, hm, h.hm]
  · intro r b hr
    have hr : (st.h ++ bs)[r]? = some b := hr
    by_cases hlt : r < c.m
    · rw [List.getElem?_append_left (h.hm ▸ hlt)] at hr
      exact (h.hp r b hr).mono hs hF (by omega) hρ (fun k hk => hw k (h.owned_lt hlt hk)) hlt (ho r hlt)
    · rw [List.getElem?_append_right (by have := h.hm; omega)] at hr
      have := hnew (r - st.h.length) b hr
      rwa [show c.m + (r - st.h.length) = r by have := h.hm; omega] at this
  · intro r s k hr hs' hk hk'
    by_cases h1 : r < c.m <;> by_cases h2 : s < c.m
    · exact h.inj r s k h1 h2 (ho r h1 ▸ hk) (ho s h2 ▸ hk')
    · have := h.owned_lt h1 (ho r h1 ▸ hk)
      have := (hon s k (by omega) hs' hk').1
      omega
    · have := h.owned_lt h2 (ho s h2 ▸ hk')
      have := (hon r k (by omega) hr hk).1
      omega
    · exact hinj r s k (by omega) hr (by omega) hs' hk hk'
  · intro r k hr hk
    by_cases h1 : r < c.m
    · exact h.ge r k h1 (ho r h1 ▸ hk)
    · have := (hon r k (by omega) hr hk).1
      intro hb
      have := h.base_le k hb
      omega
  · intro r k hr hk
    by_cases h1 : r < c.m
    · intro hf
      have hk2 : c.o r = some k := ho r h1 ▸ hk
      rcases hF' k hf with h2 | h2
      · exact h.nF r k h1 hk2 h2
      · have := h.owned_lt h1 hk2
        omega
    · exact (hon r k (by omega) hr hk).2
  · intro k hk
    rcases hF' k hk with h2 | h2
    · have := h.lt k h2
      omega
    · exact h2.2

/-- One new block, one new place. -/
def Cx.push (c : Cx) (x : Value) (o : Option Nat) : Cx := { c with ρ := fun r => if r = c.m then x else c.ρ r, o := fun r => if r = c.m then o else c.o r, m := c.m + 1 }

theorem Rel.push (h : Rel base w0 ks st a w c) (o : Obj) (x : Value) {b : B} (hb : BR (w.alloc o) (c.push x (some w.heap.size)) c.m b) : Rel base w0 ks { st with h := st.h ++ [b] } a (w.alloc o) (c.push x (some w.heap.size)) := by
  refine h.ext (fun k hk => Below.heap_alloc w o k hk) (h.bel.alloc h.base_le o) (by simp) (fun k hk => hk) (fun k hk => .inl hk) (by simp [Cx.push]) (fun r hr => by simp [Cx.push]; omega) (fun r hr => by simp [Cx.push]; omega) ?_ ?_ ?_
  · intro i b' hi
    cases i with
    | zero => simp at hi; subst hi; exact hb
    | succ i => simp at hi
  · intro r k hr hr' hk
    simp only [Cx.push] at hr' hk
    rw [if_pos (by omega)] at hk
    cases hk
    exact ⟨Nat.le_refl _, fun hf => by have := h.lt _ hf; omega⟩
  · intro r s k hr hr' hs hs' _ _
    simp only [Cx.push] at hr' hs'
    omega

/-- A new place without a block. -/
theorem Rel.pushNone (h : Rel base w0 ks st a w c) (x : Value) {b : B} (hb : BR w (c.push x none) c.m b) : Rel base w0 ks { st with h := st.h ++ [b] } a w (c.push x none) := by
  refine h.ext (fun k hk => rfl) h.bel (Nat.le_refl _) (fun k hk => hk) (fun k hk => .inl hk) (by simp [Cx.push]) (fun r hr => by simp [Cx.push]; omega) (fun r hr => by simp [Cx.push]; omega) ?_ ?_ ?_
  · intro i b' hi
    cases i with
    | zero => simp at hi; subst hi; exact hb
    | succ i => simp at hi
  · intro r k hr hr' hk
    simp only [Cx.push] at hr' hk
    rw [if_pos (by omega)] at hk
    cases hk
  · intro r s k hr hr' hs hs' _ _
    simp only [Cx.push] at hr' hs'
    omega

theorem Rv.push {v : V} {x y : Value} (h : Rv w c v x) (hs : ∀ k, c.F k → k < w.heap.size) (o : Obj) (u : Option Nat) : Rv (w.alloc o) (c.push y u) v x :=
  h.mono (fun k hk => Below.heap_alloc w o k (hs k hk)) (fun _ hk => hk) (by simp [Cx.push]) fun r hr => by simp [Cx.push]; omega
theorem Rd.push {v : V} {x : Value} {F : Foot} (h : Rd w F v x) (hs : ∀ k, F k → k < w.heap.size) (o : Obj) : Rd (w.alloc o) F v x :=
  h.mono (fun k hk => Below.heap_alloc w o k (hs k hk)) (fun _ hk => hk)

theorem Rel.drew (h : Rel base w0 ks st a w c) : Rel base w0 ks st a w.drew c := by
  have up : ∀ {v x}, Rv w c v x → Rv w.drew c v x := fun hv => hv.mono (fun _ _ => rfl) (fun _ hk => hk) (Nat.le_refl _) fun _ _ => rfl
  exact ⟨h.len, fun i v x hv hx => up (h.tm i v x hv hx), h.ls, fun i vs xs hv hx => ⟨(h.sv i vs xs hv hx).1, fun j v x hv' hx' => up ((h.sv i vs xs hv hx).2 j v x hv' hx')⟩, h.hm,
    fun r b hr => (h.hp r b hr).mono (fun _ _ => rfl) (fun _ hk => hk) (Nat.le_refl _) (fun _ _ => rfl) (fun _ _ => rfl) (h.hm ▸ (List.getElem?_eq_some_iff.1 hr).1) rfl, h.inj, h.ge, h.nF, h.lt, h.bel.drew, h.dn, h.bs, h.ff, h.pn⟩

/-- A place and its block. -/
theorem Rel.at (h : Rel base w0 ks st a w c) {r : Nat} {b : B} (hb : st.h[r]? = some b) : r < c.m ∧ BR w c r b := ⟨h.hm ▸ (List.getElem?_eq_some_iff.1 hb).1, h.hp r b hb⟩

theorem cellAt {k : Nat} {xs : Array Value} {ty : TypeId} {fz : Nat × Nat} (hk : w.heap[k]? = some (.cells xs ty fz)) (j : Nat) : w.cell? ⟨k, j, none⟩ = xs[j]? := by simp [World.cell?, hk]

/-- What lies at an address, as the machine reads it. -/
theorem readAt_sound (h : Rel base w0 ks st a w c) {n : Nat} {v : V} {x : Value} {cs : List V} {b : Bool} (hr : readAt st.h n v = some (b, cs)) (hb : b = true) (hv : Rv w c v x) :
    ∃ k off, ∃ ys : Nat → Value, x = .pointer (some ⟨k, off, none⟩) ∧ cs.length = n ∧ (∀ j, j < n → w.cell? ⟨k, off + j, none⟩ = some (ys j) ∧ one (ys j)) ∧ ∀ (j : Nat) u, cs[j]? = some u → Rv w c u (ys j) := by
  unfold readAt at hr
  split at hr
  · rename_i r off
    split at hr
    · rename_i bs hbx
      split at hr
      · rename_i hle
        simp only [Option.some.injEq, Prod.mk.injEq] at hr
        obtain ⟨_, rfl⟩ := hr
        obtain ⟨hlt, k, hk, rfl⟩ := hv.ref_inv
        obtain ⟨_, hB⟩ := h.at hbx
        cases hB with
        | box _ ty k' xs hρ ho hk' hl h1 hh =>
          rw [hρ] at hk
          simp only [Value.pointer.injEq, Option.some.injEq, Addr.mk.injEq, and_true] at hk
          subst hk
          refine ⟨k', off, fun j => xs.getD (off + j) undef, rfl, by simp; omega, fun j hj => ?_, fun j u hu => ?_⟩
          · have hjx : off + j < xs.size := by omega
            rw [cellAt hk', Array.getElem?_eq_getElem hjx]
            simp only [Array.getD_eq_getD_getElem?, Array.getElem?_eq_getElem hjx, Option.getD_some, true_and]
            exact h1 _ _ (Array.getElem?_eq_getElem hjx)
          · rw [List.getElem?_take] at hu
            split at hu
            · rename_i hj
              rw [List.getElem?_drop] at hu
              have hjx : off + j < xs.size := by omega
              simp only [Array.getD_eq_getD_getElem?, Array.getElem?_eq_getElem hjx, Option.getD_some]
              exact hh _ _ _ hu (Array.getElem?_eq_getElem hjx)
            · cases hu
      · cases hr
    · rename_i T0 u hbx
      split at hr
      · rename_i hle
        obtain ⟨rfl, rfl⟩ := hle
        simp only [Option.some.injEq, Prod.mk.injEq] at hr
        obtain ⟨_, rfl⟩ := hr
        obtain ⟨hlt, k, hk, rfl⟩ := hv.ref_inv
        obtain ⟨_, hB⟩ := h.at hbx
        cases hB with
        | sb ty _ k' y z hρ ho hk' hx h1 hh =>
          rw [hρ] at hk
          simp only [Value.pointer.injEq, Option.some.injEq, Addr.mk.injEq, and_true] at hk
          subst hk
          refine ⟨k', 1, fun _ => z, rfl, rfl, fun j hj => ?_, fun j u' hu => ?_⟩
          · obtain rfl : j = 0 := by omega
            exact ⟨by rw [cellAt hk']; rfl, h1⟩
          · cases j with
            | zero => cases hu; exact hh
            | succ j => simp at hu
      · cases hr
    · cases hr
  · rename_i bs
    split at hr
    · rename_i hle
      simp only [Option.some.injEq, Prod.mk.injEq] at hr
      obtain ⟨_, rfl⟩ := hr
      cases hv with
      | im _ _ hd =>
        cases hd with
        | eptr _ k off ys hF hx hh =>
          refine ⟨k, off, ys, rfl, by simp; omega, fun j hj => hx j (by omega), fun j u hu => ?_⟩
          rw [List.getElem?_take] at hu
          split at hu
          · exact .im _ _ (hh j u hu)
          · cases hu
    · cases hr
  · rename_i r sz i off
    split at hr
    · rename_i wr nl sz' n' g hbx
      split at hr
      · rename_i hle
        obtain ⟨rfl, hle⟩ := hle
        simp only [Option.some.injEq, Prod.mk.injEq] at hr
        obtain ⟨hi, rfl⟩ := hr
        rw [hb] at hi
        have hi : i < n' := by rwa [Nat.blt_eq] at hi
        obtain ⟨hlt, k, n2, cap2, hk, rfl⟩ := hv.wptr_inv
        obtain ⟨_, hB⟩ := h.at hbx
        cases hB with
        | rowNil wr sz g hz hρ ho => omega
        | rowFull wr _ _ _ A2 hz hw hρ ho hd =>
          rw [hρ] at hk
          simp only [Value.slice.injEq, Option.some.injEq, Addr.mk.injEq, and_true] at hk
          obtain ⟨rfl, rfl, rfl⟩ := hk
          cases hd with
          | slE => omega
          | sl _ _ cap _ b off' x hc hF hsz hx hh =>
            have hgl := hsz i hi
            refine ⟨k, i * sz + off, fun j => x i (off + j), rfl, by simp [hgl]; omega, fun j hj => ?_, fun j u hu => ?_⟩
            · have := hx i (off + j) hi (by omega)
              rwa [show 0 + (i * sz + (off + j)) = i * sz + off + j by omega] at this
            · rw [List.getElem?_take] at hu
              split at hu
              · rw [List.getElem?_drop] at hu
                exact .im _ _ (hh i _ u hi hu)
              · cases hu
        | row wr _ _ cap _ ty k' xs fz hz hρ ho hk' hfz hs hc h1 hg hh =>
          rw [hρ] at hk
          simp only [Value.slice.injEq, Option.some.injEq, Addr.mk.injEq, and_true] at hk
          obtain ⟨rfl, rfl, rfl⟩ := hk
          have hgl := hg i hi
          have hbound : ∀ j, j < n → i * sz + off + j < xs.size := by
            intro j hj
            have : (i + 1) * sz ≤ cap * sz := Nat.mul_le_mul_right _ (by omega)
            rw [Nat.add_mul] at this
            omega
          refine ⟨k', i * sz + off, fun j => xs.getD (i * sz + off + j) undef, rfl, by simp [hgl]; omega, fun j hj => ?_, fun j u hu => ?_⟩
          · have hjx := hbound j hj
            rw [cellAt hk', Array.getElem?_eq_getElem hjx]
            simp only [Array.getD_eq_getD_getElem?, Array.getElem?_eq_getElem hjx, Option.getD_some, true_and]
            exact h1 _ _ (Array.getElem?_eq_getElem hjx)
          · rw [List.getElem?_take] at hu
            split at hu
            · rw [List.getElem?_drop] at hu
              obtain ⟨x, hx, hrd⟩ := hh i (off + j) u hi hu
              rw [show i * sz + (off + j) = i * sz + off + j by omega] at hx
              simp only [Array.getD_eq_getD_getElem?, hx, Option.getD_some]
              exact .im _ _ hrd
            · cases hu
      · cases hr
    · rename_i sz' n' cs' hbx
      split at hr
      · rename_i hle
        obtain ⟨rfl, hle⟩ := hle
        simp only [Option.some.injEq, Prod.mk.injEq] at hr
        obtain ⟨hi, rfl⟩ := hr
        rw [hb] at hi
        have hi : i < n' := by rwa [Nat.blt_eq] at hi
        obtain ⟨hlt, k, n2, cap2, hk, rfl⟩ := hv.wptr_inv
        obtain ⟨_, hB⟩ := h.at hbx
        cases hB with
        | lit _ _ _ ty k' xs hz hρ ho hk' hl hs h1 hh =>
          rw [hρ] at hk
          simp only [Value.slice.injEq, Option.some.injEq, Addr.mk.injEq, and_true] at hk
          obtain ⟨rfl, rfl, rfl⟩ := hk
          have hbound : ∀ j, j < n → i * sz + off + j < xs.size := by
            intro j hj
            have : (i + 1) * sz ≤ n' * sz := Nat.mul_le_mul_right _ (by omega)
            rw [Nat.add_mul] at this
            omega
          have hlen : n ≤ cs'.length - (i * sz + off) := by
            rcases Nat.eq_zero_or_pos n with h0 | h0
            · omega
            · have := hbound (n - 1) (by omega)
              omega
          refine ⟨k', i * sz + off, fun j => xs.getD (i * sz + off + j) undef, rfl, by simp; omega, fun j hj => ?_, fun j u hu => ?_⟩
          · have hjx := hbound j hj
            rw [cellAt hk', Array.getElem?_eq_getElem hjx]
            simp only [Array.getD_eq_getD_getElem?, Array.getElem?_eq_getElem hjx, Option.getD_some, true_and]
            exact h1 _ _ (Array.getElem?_eq_getElem hjx)
          · rw [List.getElem?_take] at hu
            split at hu
            · rename_i hj
              rw [List.getElem?_drop] at hu
              have hjx := hbound j hj
              simp only [Array.getD_eq_getD_getElem?, Array.getElem?_eq_getElem hjx, Option.getD_some]
              exact hh _ _ _ hu (Array.getElem?_eq_getElem hjx)
            · cases hu
      · cases hr
    · cases hr
  · cases hr

end

/-! ### Types -/
section
variable {P : Program}
theorem info_of_underlying {t : TypeId} {d : TypeDesc} (h : P.underlying t = some d) : ∃ i, P.info? t = some i := by
  unfold Program.underlying at h
  cases e : P.info? t with
  | none => rw [e] at h; cases h
  | some i => exact ⟨i, rfl⟩
theorem run_sizeT {t : TypeId} {i : TypeInfo} (h : P.info? t = some i) (w : World) : (sizeOf t).run P w = .ok (sizeT P t) w := by
  simp [sizeOf, typeInfo, h, sizeT]
theorem run_sizeT_pos {t : TypeId} (h : 0 < sizeT P t) (w : World) : (sizeOf t).run P w = .ok (sizeT P t) w := by
  unfold sizeT at h
  cases e : P.info? t with
  | none => rw [e] at h; exact absurd h (Nat.lt_irrefl 0)
  | some i => exact run_sizeT e w
theorem run_isAgg {t : TypeId} {d : TypeDesc} (h : P.underlying t = some d) (w : World) : (isAgg t).run P w = .ok (aggT P t) w := by
  simp only [isAgg, Sem.run_bind, run_underlying h, Result.andThen_ok, aggT, h]
  cases d <;> rfl
theorem underlying_of_size {t : TypeId} (h : 0 < sizeT P t) (hu : ∃ d, P.underlying t = some d) (w : World) : (isAgg t).run P w = .ok (aggT P t) w := by
  obtain ⟨d, hd⟩ := hu
  exact run_isAgg hd w

/-- A value out of its cells. -/
theorem mkV_sound {w : World} {c : Cx} {t : TypeId} (hok : okT P t = true) {cs : List V} (hl : cs.length = sizeT P t) {ys : Nat → Value} (h1 : ∀ j, j < cs.length → one (ys j)) (h : ∀ (j : Nat) u, cs[j]? = some u → Rv w c u (ys j)) :
    Rv w c (mkV (aggT P t) cs) (if aggT P t then .agg ((List.range (sizeT P t)).map ys).toArray else ys 0) := by
  unfold mkV
  cases e : aggT P t with
  | true =>
    simp only [if_true]
    refine .agg _ _ (by simp [hl]) (fun i x hx => ?_) fun i v x hv hx => ?_
    · simp only [List.getElem?_toArray, List.getElem?_map] at hx
      cases e2 : (List.range (sizeT P t))[i]? with
      | none => rw [e2] at hx; cases hx
      | some j =>
        rw [e2] at hx; simp only [Option.map_some, Option.some.injEq] at hx
        have hj := List.getElem?_eq_some_iff.1 e2
        obtain ⟨hj1, hj2⟩ := hj
        simp at hj1 hj2
        subst hx; subst hj2
        exact h1 _ (by omega)
    · have hi : i < cs.length := (List.getElem?_eq_some_iff.1 hv).1
      have : ((List.range (sizeT P t)).map ys).toArray[i]? = some (ys i) := by
        simp [List.getElem?_map, List.getElem?_range (by omega : i < sizeT P t)]
      rw [this] at hx
      cases hx
      exact h i v hv
  | false =>
    simp only [Bool.false_eq_true, if_false]
    have h1' : sizeT P t = 1 := by simp [okT, e] at hok; exact hok.2
    rw [h1'] at hl
    match cs, hl with
    | [v], _ => exact h 0 v rfl

theorem run_loadVar' {w : World} {t : TypeId} {k off : Nat} {d : TypeDesc} (hu : P.underlying t = some d) (hok : okT P t = true) {ys : Nat → Value} (h : ∀ j, j < sizeT P t → w.cell? ⟨k, off + j, none⟩ = some (ys j)) :
    (loadVar t ⟨k, off, none⟩).run P w = .ok (if aggT P t then .agg ((List.range (sizeT P t)).map ys).toArray else ys 0) w := by
  obtain ⟨i, hi⟩ := info_of_underlying hu
  simp only [loadVar, Sem.run_bind, run_isAgg hu, Result.andThen_ok]
  cases e : aggT P t with
  | true =>
    simp only [if_true, Sem.run_bind, run_sizeT hi, Result.andThen_ok]
    rw [run_loadCells w ⟨k, off, none⟩ (sizeT P t) ys (fun j hj => by rw [addp]; exact h j hj)]
    rfl
  | false =>
    have h1' : sizeT P t = 1 := by simp [okT, e] at hok; exact hok.2
    simp only [Bool.false_eq_true, if_false, run_load]
    have := h 0 (by omega)
    rw [Nat.add_zero] at this
    rw [this]
end
end Go.Rv
