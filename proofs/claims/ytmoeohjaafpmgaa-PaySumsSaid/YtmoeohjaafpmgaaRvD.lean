/- Rv, part D: what the evaluator's small steps keep. Of no program. -/
import Derived.Test.YtmoeohjaafpmgaaRvC
set_option linter.unusedVariables false
set_option linter.unusedSimpArgs false
set_option linter.unusedSectionVars false
namespace Go.Rv
open Go Go.RowKit
variable [Fx]

theorem Rv.dead (w : World) (c : Cx) (x : Value) : Rv w c .dead x := .im _ _ (.dead _)

theorem Rv.agg_inv {w : World} {c : Cx} {cs : List V} {x : Value} (h : Rv w c (.agg cs) x) : ∃ xs : Array Value, x = .agg xs ∧ cs.length = xs.size ∧ (∀ (i : Nat) x, xs[i]? = some x → one x) ∧ ∀ (i : Nat) v x, cs[i]? = some v → xs[i]? = some x → Rv w c v x := by
  cases h with
  | im _ _ h => cases h with
    | agg _ xs hl h1 h => exact ⟨xs, rfl, hl, h1, fun i v x hv hx => .im _ _ (h i v x hv hx)⟩
  | agg _ xs hl h1 h => exact ⟨xs, rfl, hl, h1, h⟩
theorem Rv.tup_inv {w : World} {c : Cx} {cs : List V} {x : Value} (h : Rv w c (.tup cs) x) : ∃ xs : Array Value, x = .tuple xs ∧ cs.length = xs.size ∧ ∀ (i : Nat) v x, cs[i]? = some v → xs[i]? = some x → Rv w c v x := by
  cases h with
  | im _ _ h => cases h with
    | tup _ xs hl h => exact ⟨xs, rfl, hl, fun i v x hv hx => .im _ _ (h i v x hv hx)⟩
  | tup _ xs hl h => exact ⟨xs, rfl, hl, h⟩
theorem Rv.func_inv {w : World} {c : Cx} {fn : Fn} {fs cs : List V} {x : Value} (h : Rv w c (.func fn fs cs) x) : ∃ ys zs : Array Value, x = .func fn ys zs ∧ fs.length = ys.size ∧ cs.length = zs.size ∧
    (∀ (i : Nat) v x, fs[i]? = some v → ys[i]? = some x → Rv w c v x) ∧ ∀ (i : Nat) v x, cs[i]? = some v → zs[i]? = some x → Rv w c v x := by
  cases h with
  | im _ _ h => cases h with
    | func _ _ _ ys zs hl hl' h h' => exact ⟨ys, zs, rfl, hl, hl', fun i v x hv hx => .im _ _ (h i v x hv hx), fun i v x hv hx => .im _ _ (h' i v x hv hx)⟩
  | func _ _ _ ys zs hl hl' h h' => exact ⟨ys, zs, rfl, hl, hl', h, h'⟩
theorem Rv.iface_inv {w : World} {c : Cx} {t : TypeId} {v : V} {x : Value} (h : Rv w c (.iface t v) x) : ∃ y, x = .iface t y ∧ Rv w c v y := by
  cases h with
  | im _ _ h => cases h with
    | iface _ _ y h => exact ⟨y, rfl, .im _ _ h⟩
  | iface _ _ y h => exact ⟨y, rfl, h⟩
theorem Rv.int_inv {w : World} {c : Cx} {k : IntKind} {n : Int} {x : Value} (h : Rv w c (.int k n) x) : x = .int k n := by
  cases h with
  | im _ _ h => cases h; rfl
theorem Rv.bool_inv {w : World} {c : Cx} {b : Bool} {x : Value} (h : Rv w c (.bool b) x) : x = .bool b := by
  cases h with
  | im _ _ h => cases h; rfl
theorem Rv.str_inv {w : World} {c : Cx} {s : ByteArray} {x : Value} (h : Rv w c (.str s) x) : x = .string s := by
  cases h with
  | im _ _ h => cases h; rfl
theorem Rv.own_inv {w : World} {c : Cx} {r : Nat} {x : Value} (h : Rv w c (.own r) x) : r < c.m ∧ x = c.ρ r ∧ ∃ A n cap, x = .slice A n cap := by
  cases h with
  | im _ _ h => cases h
  | own _ hr A n cap he => exact ⟨hr, he.symm, A, n, cap, rfl⟩
theorem Rv.ref_inv {w : World} {c : Cx} {r off : Nat} {x : Value} (h : Rv w c (.ref r off) x) : r < c.m ∧ ∃ b, c.ρ r = .pointer (some ⟨b, 0, none⟩) ∧ x = .pointer (some ⟨b, off, none⟩) := by
  cases h with
  | im _ _ h => cases h
  | ref _ _ b hr he => exact ⟨hr, b, he, rfl⟩
theorem Rv.wptr_inv {w : World} {c : Cx} {r sz i off : Nat} {x : Value} (h : Rv w c (.wptr r sz i off) x) : r < c.m ∧ ∃ b n cap, c.ρ r = .slice (some ⟨b, 0, none⟩) n cap ∧ x = .pointer (some ⟨b, i * sz + off, none⟩) := by
  cases h with
  | im _ _ h => cases h
  | wptr _ _ _ _ b n cap hr he => exact ⟨hr, b, n, cap, he, rfl⟩
theorem Rv.mp_inv {w : World} {c : Cx} {r : Nat} {x : Value} (h : Rv w c (.mp r) x) : r < c.m ∧ ∃ b, c.ρ r = .map (some b) ∧ x = .map (some b) := by
  cases h with
  | im _ _ h => cases h
  | mp _ b hr he => exact ⟨hr, b, he, rfl⟩

theorem getElem?_map_some {α β : Type} {f : α → β} {l : List α} {i : Nat} {y : β} (h : (l.map f)[i]? = some y) : ∃ x, l[i]? = some x ∧ f x = y := by
  rw [List.getElem?_map] at h
  cases e : l[i]? with
  | none => rw [e] at h; simp at h
  | some x => rw [e] at h; simp at h; exact ⟨x, rfl, h⟩

def Loc : V → Prop
  | .own _ | .ref _ _ | .wptr _ _ _ _ | .mp _ => True
  | _ => False

/-- A substitution that is right at what leads into the local heap is right everywhere. -/
theorem Rv.sub {w w' : World} {c c' : Cx} {σ : V → V} (hs : Same c.F w w') (hF : ∀ k, c.F k → c'.F k) (hσ : ∀ v x, Loc v → Rv w c v x → Rv w' c' (σ v) x) :
    ∀ n v x, Rv w c v x → Rv w' c' (V.sub σ n v) x := by
  intro n
  induction n with
  | zero => intro v x _; exact .dead _ _ _
  | succ n ih =>
    intro v x h
    have leaf : ∀ {v : V}, ¬ Loc v → (∀ cs, v ≠ .agg cs) → (∀ cs, v ≠ .tup cs) → (∀ f a b, v ≠ .func f a b) → (∀ t u, v ≠ .iface t u) → Rv w c v x → Rv w' c' v x := by
      intro v hl h1 h2 h3 h4 h
      cases h with
      | im _ _ h => exact .im _ _ (h.mono hs hF)
      | agg cs => exact absurd rfl (h1 cs)
      | tup cs => exact absurd rfl (h2 cs)
      | own => exact absurd trivial hl
      | ref => exact absurd trivial hl
      | wptr => exact absurd trivial hl
      | mp => exact absurd trivial hl
      | func f a b => exact absurd rfl (h3 f a b)
      | iface t u => exact absurd rfl (h4 t u)
    cases v with
    | agg cs =>
      obtain ⟨xs, rfl, hl, h1, h⟩ := h.agg_inv
      refine .agg _ xs (by simpa using hl) h1 fun i v x hv hx => ?_
      obtain ⟨u, hu, rfl⟩ := getElem?_map_some hv
      exact ih _ _ (h i u x hu hx)
    | tup cs =>
      obtain ⟨xs, rfl, hl, h⟩ := h.tup_inv
      refine .tup _ xs (by simpa using hl) fun i v x hv hx => ?_
      obtain ⟨u, hu, rfl⟩ := getElem?_map_some hv
      exact ih _ _ (h i u x hu hx)
    | func fn fs cs =>
      obtain ⟨ys, zs, rfl, hl, hl', h, h'⟩ := h.func_inv
      refine .func _ _ _ ys zs (by simpa using hl) (by simpa using hl') (fun i v x hv hx => ?_) fun i v x hv hx => ?_
      · obtain ⟨u, hu, rfl⟩ := getElem?_map_some hv
        exact ih _ _ (h i u x hu hx)
      · obtain ⟨u, hu, rfl⟩ := getElem?_map_some hv
        exact ih _ _ (h' i u x hu hx)
    | iface t v =>
      obtain ⟨y, rfl, h5⟩ := h.iface_inv
      exact .iface _ _ _ (ih _ _ h5)
    | own r => exact hσ _ _ trivial h
    | ref r o => exact hσ _ _ trivial h
    | wptr r s i o => exact hσ _ _ trivial h
    | mp r => exact hσ _ _ trivial h
    | bool b => exact leaf (v := .bool b) (by simp [Loc]) (by simp) (by simp) (by simp) (by simp) h
    | int k m => exact leaf (v := .int k m) (by simp [Loc]) (by simp) (by simp) (by simp) (by simp) h
    | str s => exact leaf (v := .str s) (by simp [Loc]) (by simp) (by simp) (by simp) (by simp) h
    | sl a b d e => exact leaf (v := .sl a b d e) (by simp [Loc]) (by simp) (by simp) (by simp) (by simp) h
    | eptr a => exact leaf (v := .eptr a) (by simp [Loc]) (by simp) (by simp) (by simp) (by simp) h
    | nilp => exact leaf (v := .nilp) (by simp [Loc]) (by simp) (by simp) (by simp) (by simp) h
    | nilm => exact leaf (v := .nilm) (by simp [Loc]) (by simp) (by simp) (by simp) (by simp) h
    | nilf => exact leaf (v := .nilf) (by simp [Loc]) (by simp) (by simp) (by simp) (by simp) h
    | nili => exact leaf (v := .nili) (by simp [Loc]) (by simp) (by simp) (by simp) (by simp) h
    | dead => exact leaf (v := .dead) (by simp [Loc]) (by simp) (by simp) (by simp) (by simp) h

/-- The same into what nobody writes. -/
theorem Rv.subRd {w w' : World} {c : Cx} {F' : Foot} {σ : V → V} (hs : Same c.F w w') (hF : ∀ k, c.F k → F' k) (hσ : ∀ v x, Loc v → Rv w c v x → Rd w' F' (σ v) x) :
    ∀ n v x, Rv w c v x → Rd w' F' (V.sub σ n v) x := by
  intro n
  induction n with
  | zero => intro v x _; exact .dead _
  | succ n ih =>
    intro v x h
    have leaf : ∀ {v : V}, ¬ Loc v → (∀ cs, v ≠ .agg cs) → (∀ cs, v ≠ .tup cs) → (∀ f a b, v ≠ .func f a b) → (∀ t u, v ≠ .iface t u) → Rv w c v x → Rd w' F' v x := by
      intro v hl h1 h2 h3 h4 h
      cases h with
      | im _ _ h => exact h.mono hs hF
      | agg cs => exact absurd rfl (h1 cs)
      | tup cs => exact absurd rfl (h2 cs)
      | own => exact absurd trivial hl
      | ref => exact absurd trivial hl
      | wptr => exact absurd trivial hl
      | mp => exact absurd trivial hl
      | func f a b => exact absurd rfl (h3 f a b)
      | iface t u => exact absurd rfl (h4 t u)
    cases v with
    | agg cs =>
      obtain ⟨xs, rfl, hl, h1, h⟩ := h.agg_inv
      refine .agg _ xs (by simpa using hl) h1 fun i v x hv hx => ?_
      obtain ⟨u, hu, rfl⟩ := getElem?_map_some hv
      exact ih _ _ (h i u x hu hx)
    | tup cs =>
      obtain ⟨xs, rfl, hl, h⟩ := h.tup_inv
      refine .tup _ xs (by simpa using hl) fun i v x hv hx => ?_
      obtain ⟨u, hu, rfl⟩ := getElem?_map_some hv
      exact ih _ _ (h i u x hu hx)
    | func fn fs cs =>
      obtain ⟨ys, zs, rfl, hl, hl', h, h'⟩ := h.func_inv
      refine .func _ _ _ ys zs (by simpa using hl) (by simpa using hl') (fun i v x hv hx => ?_) fun i v x hv hx => ?_
      · obtain ⟨u, hu, rfl⟩ := getElem?_map_some hv
        exact ih _ _ (h i u x hu hx)
      · obtain ⟨u, hu, rfl⟩ := getElem?_map_some hv
        exact ih _ _ (h' i u x hu hx)
    | iface t v =>
      obtain ⟨y, rfl, h5⟩ := h.iface_inv
      exact .iface _ _ _ (ih _ _ h5)
    | own r => exact hσ _ _ trivial h
    | ref r o => exact hσ _ _ trivial h
    | wptr r s i o => exact hσ _ _ trivial h
    | mp r => exact hσ _ _ trivial h
    | bool b => exact leaf (v := .bool b) (by simp [Loc]) (by simp) (by simp) (by simp) (by simp) h
    | int k m => exact leaf (v := .int k m) (by simp [Loc]) (by simp) (by simp) (by simp) (by simp) h
    | str s => exact leaf (v := .str s) (by simp [Loc]) (by simp) (by simp) (by simp) (by simp) h
    | sl a b d e => exact leaf (v := .sl a b d e) (by simp [Loc]) (by simp) (by simp) (by simp) (by simp) h
    | eptr a => exact leaf (v := .eptr a) (by simp [Loc]) (by simp) (by simp) (by simp) (by simp) h
    | nilp => exact leaf (v := .nilp) (by simp [Loc]) (by simp) (by simp) (by simp) (by simp) h
    | nilm => exact leaf (v := .nilm) (by simp [Loc]) (by simp) (by simp) (by simp) (by simp) h
    | nilf => exact leaf (v := .nilf) (by simp [Loc]) (by simp) (by simp) (by simp) (by simp) h
    | nili => exact leaf (v := .nili) (by simp [Loc]) (by simp) (by simp) (by simp) (by simp) h
    | dead => exact leaf (v := .dead) (by simp [Loc]) (by simp) (by simp) (by simp) (by simp) h

theorem RowCells.mono {w w' : World} {F F' : Foot} {sz n : Nat} {g : Cells} {xs : Array Value} (h : RowCells w F sz n g xs) (hs : Same F w w') (hF : ∀ k, F k → F' k) : RowCells w' F' sz n g xs := by
  intro i j v hi hv
  obtain ⟨x, hx, hr⟩ := h i j v hi hv
  exact ⟨x, hx, hr.mono hs hF⟩

/-- What lies at a place, its own block being as it was, a substitution having gone over it. -/
theorem BR.sub {w w' : World} {c c' : Cx} {r r' : Nat} {b : B} {σ : V → V} (h : BR w c r b) (hs : Same c.F w w') (hF : ∀ k, c.F k → c'.F k) (hσ : ∀ v x, Loc v → Rv w c v x → Rv w' c' (σ v) x)
    (hk : ∀ k, c.o r = some k → w'.heap[k]? = w.heap[k]?) (hρ : c'.ρ r' = c.ρ r) (ho : c'.o r' = c.o r) : BR w' c' r' (b.sub σ) := by
  cases h with
  | box cs ty k xs hρ' ho' hk' hl h1 h =>
    refine .box _ ty k xs (hρ.trans hρ') (ho.trans ho') ((hk k ho').trans hk') (by simpa using hl) h1 fun i v x hv hx => ?_
    obtain ⟨u, hu, rfl⟩ := getElem?_map_some hv
    exact Rv.sub hs hF hσ _ _ _ (h i u x hu hx)
  | rowNil wr sz g hz hρ' ho' => exact .rowNil wr sz g hz (hρ.trans hρ') (ho.trans ho')
  | rowFull wr sz n g A hz hw hρ' ho' h => exact .rowFull wr sz n g A hz hw (hρ.trans hρ') (ho.trans ho') (h.mono hs hF)
  | row wr sz n cap g ty k xs fz hz hρ' ho' hk' hfz hs' hc h1 hg h => exact .row wr sz n cap g ty k xs fz hz (hρ.trans hρ') (ho.trans ho') ((hk k ho').trans hk') hfz hs' hc h1 hg (h.mono hs hF)
  | mp ka va kt vt m k ens clock hρ' ho' hk' hl h => exact .mp ka va kt vt m k ens clock (hρ.trans hρ') (ho.trans ho') ((hk k ho').trans hk') hl fun i p e hp he => ⟨(h i p e hp he).1.mono hs hF, (h i p e hp he).2.mono hs hF⟩
  | lit sz n cs ty k xs hz hρ' ho' hk' hl hs' h1 h =>
    refine .lit sz n _ ty k xs hz (hρ.trans hρ') (ho.trans ho') ((hk k ho').trans hk') (by simpa using hl) hs' h1 fun i v x hv hx => ?_
    obtain ⟨u, hu, rfl⟩ := getElem?_map_some hv
    exact Rv.sub hs hF hσ _ _ _ (h i u x hu hx)
  | sb ty v k x y hρ' ho' hk' hx h1 h => exact .sb ty _ k x y (hρ.trans hρ') (ho.trans ho') ((hk k ho').trans hk') hx h1 (Rv.sub hs hF hσ _ _ _ h)
  | bsNil e hρ' ho' => exact .bsNil e (hρ.trans hρ') (ho.trans ho')
  | bs e s cap k xs fz hρ' ho' hk' hfz hs' hc hp h1 h => exact .bs e s cap k xs fz (hρ.trans hρ') (ho.trans ho') ((hk k ho').trans hk') hfz hs' hc hp h1 h
  | it s pos k hρ' ho' hk' => exact .it s pos k (hρ.trans hρ') (ho.trans ho') ((hk k ho').trans hk')
  | finNil e hρ' ho' => exact .finNil e (hρ.trans hρ') (ho.trans ho')
  | fin e s cap k xs fz hρ' ho' hk' hs' hc hp h1 h => exact .fin e s cap k xs fz (hρ.trans hρ') (ho.trans ho') ((hk k ho').trans hk') hs' hc hp h1 h
  | gone ho' => exact .gone (ho.trans ho')

theorem BR.mono {w w' : World} {c c' : Cx} {r : Nat} {b : B} (h : BR w c r b) (hs : Same c.F w w') (hF : ∀ k, c.F k → c'.F k) (hm : c.m ≤ c'.m) (hρ : ∀ r, r < c.m → c'.ρ r = c.ρ r)
    (hk : ∀ k, c.o r = some k → w'.heap[k]? = w.heap[k]?) (hr : r < c.m) (ho : c'.o r = c.o r) : BR w' c' r b := by
  cases h with
  | box cs ty k xs hρ' ho' hk' hl h1 h => exact .box _ ty k xs ((hρ r hr).trans hρ') (ho.trans ho') ((hk k ho').trans hk') hl h1 fun i v x hv hx => (h i v x hv hx).mono hs hF hm hρ
  | rowNil wr sz g hz hρ' ho' => exact .rowNil wr sz g hz ((hρ r hr).trans hρ') (ho.trans ho')
  | rowFull wr sz n g A hz hw hρ' ho' h => exact .rowFull wr sz n g A hz hw ((hρ r hr).trans hρ') (ho.trans ho') (h.mono hs hF)
  | row wr sz n cap g ty k xs fz hz hρ' ho' hk' hfz hs' hc h1 hg h => exact .row wr sz n cap g ty k xs fz hz ((hρ r hr).trans hρ') (ho.trans ho') ((hk k ho').trans hk') hfz hs' hc h1 hg (h.mono hs hF)
  | mp ka va kt vt m k ens clock hρ' ho' hk' hl h => exact .mp ka va kt vt m k ens clock ((hρ r hr).trans hρ') (ho.trans ho') ((hk k ho').trans hk') hl fun i p e hp he => ⟨(h i p e hp he).1.mono hs hF, (h i p e hp he).2.mono hs hF⟩
  | lit sz n cs ty k xs hz hρ' ho' hk' hl hs' h1 h => exact .lit sz n cs ty k xs hz ((hρ r hr).trans hρ') (ho.trans ho') ((hk k ho').trans hk') hl hs' h1 fun i v x hv hx => (h i v x hv hx).mono hs hF hm hρ
  | sb ty v k x y hρ' ho' hk' hx h1 h => exact .sb ty v k x y ((hρ r hr).trans hρ') (ho.trans ho') ((hk k ho').trans hk') hx h1 (h.mono hs hF hm hρ)
  | bsNil e hρ' ho' => exact .bsNil e ((hρ r hr).trans hρ') (ho.trans ho')
  | bs e s cap k xs fz hρ' ho' hk' hfz hs' hc hp h1 h => exact .bs e s cap k xs fz ((hρ r hr).trans hρ') (ho.trans ho') ((hk k ho').trans hk') hfz hs' hc hp h1 h
  | it s pos k hρ' ho' hk' => exact .it s pos k ((hρ r hr).trans hρ') (ho.trans ho') ((hk k ho').trans hk')
  | finNil e hρ' ho' => exact .finNil e ((hρ r hr).trans hρ') (ho.trans ho')
  | fin e s cap k xs fz hρ' ho' hk' hs' hc hp h1 h => exact .fin e s cap k xs fz ((hρ r hr).trans hρ') (ho.trans ho') ((hk k ho').trans hk') hs' hc hp h1 h
  | gone ho' => exact .gone (ho.trans ho')

/-! ### Operands -/
theorem cst1_rd (w : World) (F : Foot) (x : Value) : Rd w F (cst1 x) x := by
  unfold cst1
  split <;> first | exact .bool _ | exact .int _ _ | exact .str _ | exact .nilp | exact .slNil _ _ | exact .nilm | exact .nilf | exact .nili | exact .dead _
theorem cstV_rd (w : World) (F : Foot) (x : Value) : Rd w F (cstV x) x := by
  unfold cstV
  split
  · rename_i cs
    split
    · rename_i h
      refine .agg _ _ (by simp) (fun i x hx => ?_) fun i v x hv hx => ?_
      · rw [List.all_eq_true] at h
        exact h x (by simpa using Array.mem_of_getElem? hx)
      · obtain ⟨u, hu, rfl⟩ := getElem?_map_some hv
        have : u = x := by
          have h2 : cs.toList[i]? = some x := by simpa using hx
          rw [hu] at h2; exact Option.some.inj h2
        rw [this]; exact cst1_rd _ _ _
    · exact .dead _
  · exact .func _ _ _ _ _ rfl rfl (fun i v x hv => by simp at hv) (fun i v x hv => by simp at hv)
  · exact cst1_rd _ _ _

theorem Rel.ev {base : Base} {w0 : World} {ks : List (Array Value)} {st : St} {a : Act} {w : World} {c : Cx} (h : Rel base w0 ks st a w c) (x : Operand) : Rv w c (ev st x) (a.eval x) := by
  cases x with
  | tmp t =>
    show Rv w c (st.t.getD t .dead) (a.tmps.getD t undef)
    rw [List.getD_eq_getElem?_getD, Array.getD_eq_getD_getElem?]
    cases e : st.t[t]? with
    | none => exact .dead _ _ _
    | some v =>
      have hlt : t < a.tmps.size := by rw [← h.len]; exact (List.getElem?_eq_some_iff.1 e).1
      rw [Array.getElem?_eq_getElem hlt]
      exact h.tm t v _ e (Array.getElem?_eq_getElem hlt)
  | const v => exact .im _ _ (cstV_rd _ _ _)
  | global g => exact .dead _ _ _
  | func f => exact .im _ _ (.func _ _ _ _ _ rfl rfl (fun i v x hv => by simp at hv) (fun i v x hv => by simp at hv))

theorem Rel.evT {P : Program} {base : Base} {w0 : World} {ks : List (Array Value)} {st : St} {a : Act} {w : World} {c : Cx} (h : Rel base w0 ks st a w c) (ty : TypeId) (x : Operand) : Rv w c (evT P st ty x) (a.eval x) := by
  unfold Go.Rv.evT
  split
  · exact .im _ _ (.slNil _ _)
  · exact h.ev x

/-- The dst of an operation is written. -/
theorem Rel.put {base : Base} {w0 : World} {ks : List (Array Value)} {st : St} {a : Act} {w : World} {c : Cx} (h : Rel base w0 ks st a w c) (d : Option Tmp) {v : V} {x : Value} (hv : Rv w c v x) :
    Rel base w0 ks (st.put d v) (a.put d x) w c := by
  cases d with
  | none => exact h
  | some d =>
    refine ⟨?_, ?_, h.ls, h.sv, h.hm, h.hp, h.inj, h.ge, h.nF, h.lt, h.bel, h.dn, h.bs, h.ff, h.pn⟩
    · show (st.t.set d v).length = (a.tmps.setIfInBounds d x).size
      simp [h.len]
    · intro i u y hu0 hy0
      have hu : (st.t.set d v)[i]? = some u := hu0
      have hy : (a.tmps.setIfInBounds d x)[i]? = some y := hy0
      clear hu0 hy0
      rw [List.getElem?_set] at hu
      rw [Array.getElem?_setIfInBounds] at hy
      by_cases e : d = i
      · rw [if_pos e] at hu hy
        subst e
        by_cases hd : d < st.t.length
        · rw [if_pos hd] at hu
          rw [if_pos (h.len ▸ hd)] at hy
          obtain rfl := Option.some.inj hu
          obtain rfl := Option.some.inj hy
          exact hv
        · rw [if_neg hd] at hu; cases hu
      · rw [if_neg e] at hu hy
        exact h.tm i u y hu hy

end Go.Rv
