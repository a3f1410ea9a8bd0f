/- Rv, part N: calls that are gone through, functions as a whole. Of no program. -/
import Derived.Test.YtmoeohjaafpmgaaRvM
set_option linter.unusedVariables false
set_option linter.unusedSimpArgs false
set_option linter.unusedSectionVars false
namespace Go.Rv
open Go Go.RowKit
variable [Fx]
section
variable {P : Program} {α : Type} {base : Base} {w0 : World} {ks : List (Array Value)} {st : St} {a : Act} {w : World} {c : Cx}

/-- One of the results. -/
def res1 (P : Program) (tmps : Array Value) : ResultVar → Sem Value
  | .tmp t => pure (tmps.getD t undef)
  | .cell a t => do loadVar t (← asAddr (tmps.getD a undef))

theorem resV_list (h : Rel base w0 ks st a w c) : ∀ (l : List ResultVar) (vs : List V), (l.foldr (fun r acc => match r, acc with
    | .tmp t, some l => some (st.t.getD t .dead :: l)
    | .cell a t, some l => if okT P t then match readAt st.h (sizeT P t) (st.t.getD a .dead) with | some (true, cs) => some (mkV (aggT P t) cs :: l) | _ => none else none
    | _, none => none) (some [])) = some vs →
    ∃ xs : List Value, (l.mapM (res1 P a.tmps)).run P w = .ok xs w ∧ vs.length = xs.length ∧ ∀ (i : Nat) v x, vs[i]? = some v → xs[i]? = some x → Rv w c v x := by
  intro l
  induction l with
  | nil => intro vs he; cases he; exact ⟨[], by simp, rfl, fun i v x hv => by simp at hv⟩
  | cons r l ih =>
    intro vs he
    rw [List.foldr_cons] at he
    have step : ∀ (v : V) (x : Value) (vs' : List V), (res1 P a.tmps r).run P w = .ok x w → Rv w c v x → vs = v :: vs' → (l.foldr (fun r acc => match r, acc with
        | .tmp t, some l => some (st.t.getD t .dead :: l)
        | .cell a t, some l => if okT P t then match readAt st.h (sizeT P t) (st.t.getD a .dead) with | some (true, cs) => some (mkV (aggT P t) cs :: l) | _ => none else none
        | _, none => none) (some [])) = some vs' → ∃ xs : List Value, ((r :: l).mapM (res1 P a.tmps)).run P w = .ok xs w ∧ vs.length = xs.length ∧ ∀ (i : Nat) v x, vs[i]? = some v → xs[i]? = some x → Rv w c v x := by
      intro v x vs' hrun hrv hvs he'
      obtain ⟨xs, h1, h2, h3⟩ := ih vs' he'
      subst hvs
      refine ⟨x :: xs, ?_, by simp [h2], fun i u y hu hy => ?_⟩
      · simp only [List.mapM_cons, Sem.run_bind, hrun, Result.andThen_ok, h1, Sem.run_pure]
      · cases i with
        | zero => cases hu; cases hy; exact hrv
        | succ i => exact h3 i u y hu hy
    revert he
    generalize hacc : (l.foldr (fun r acc => match r, acc with
        | .tmp t, some l => some (st.t.getD t .dead :: l)
        | .cell a t, some l => if okT P t then match readAt st.h (sizeT P t) (st.t.getD a .dead) with | some (true, cs) => some (mkV (aggT P t) cs :: l) | _ => none else none
        | _, none => none) (some [])) = acc
    intro he
    cases acc with
    | none => cases r <;> cases he
    | some vs' =>
      cases r with
      | tmp t =>
        simp only [Option.some.injEq] at he
        exact step _ (a.tmps.getD t undef) vs' (by simp [res1]) (h.ev (.tmp t)) he.symm hacc
      | cell p t =>
        simp only at he
        split at he <;> (try cases he)
        rename_i hok
        split at he <;> (try cases he)
        rename_i cs hr
        obtain ⟨k, off, ys, hx, hl, hc, hh⟩ := readAt_sound h hr rfl (h.ev (.tmp p))
        have hd : ∃ d, P.underlying t = some d := by
          cases hu : P.underlying t with
          | some d => exact ⟨d, rfl⟩
          | none => simp [okT, hu] at hok
        obtain ⟨d, hd⟩ := hd
        have hx : a.tmps.getD p undef = .pointer (some ⟨k, off, none⟩) := hx
        refine step _ _ vs' ?_ (mkV_sound hok hl (fun j hj => (hc j (by omega)).2) hh) rfl hacc
        simp only [res1, Sem.run_bind, hx, asAddr, Sem.run_pure, Result.andThen_ok]
        exact run_loadVar' hd hok fun j hj => (hc j hj).1

theorem resV_sound (h : Rel base w0 ks st a w c) {fn : Func} {vs : List V} (he : resV P fn st = some vs) : ∃ x, (results fn a.tmps).run P w = .ok x w ∧ Rv w c (oneV vs) x := by
  obtain ⟨xs, h1, h2, h3⟩ := resV_list h _ _ he
  have hm : (fn.results.mapM (res1 P a.tmps)).run P w = .ok xs.toArray w := by
    rw [Array.mapM_eq_mapM_toList]
    simp only [Sem.run_map, h1, Result.andThen_ok]
  have hr : (results fn a.tmps).run P w = .ok (if hh : xs.toArray.size = 1 then xs.toArray[0] else .tuple xs.toArray) w := by
    have e : results fn a.tmps = (do
      let vs ← fn.results.mapM (res1 P a.tmps)
      pure (if h : vs.size = 1 then vs[0] else .tuple vs)) := by
      unfold results res1
      rfl
    rw [e]
    simp only [Sem.run_bind, hm, Result.andThen_ok, Sem.run_pure]
  refine ⟨_, hr, ?_⟩
  cases vs with
  | nil =>
    have : xs = [] := List.length_eq_zero_iff.1 h2.symm
    subst this
    exact .tup [] #[] rfl fun i v x hv => by simp at hv
  | cons v vs =>
    cases vs with
    | nil =>
      cases xs with
      | nil => cases h2
      | cons x xs =>
        cases xs with
        | nil => exact h3 0 v x rfl rfl
        | cons y ys => simp at h2
    | cons u vs =>
      rw [dif_neg (by simp only [List.size_toArray]; rw [← h2]; simp)]
      exact .tup _ xs.toArray (by simpa using h2) fun i v x hv hx => h3 i v x hv (by simpa using hx)

/-- A new frame. -/
theorem frame_tm {args : List V} {xs : Array Value} (hl : args.length = xs.size) (hh : ∀ (i : Nat) v x, args[i]? = some v → xs[i]? = some x → Rv w c v x) (n m : Nat) (hnm : n = m) :
    (args ++ List.replicate n V.dead).length = (xs ++ Array.replicate m undef).size ∧ ∀ (i : Nat) v x, (args ++ List.replicate n V.dead)[i]? = some v → (xs ++ Array.replicate m undef)[i]? = some x → Rv w c v x := by
  subst hnm
  refine ⟨by simp [hl], fun i v x hv hx => ?_⟩
  by_cases hi : i < args.length
  · rw [List.getElem?_append_left hi] at hv
    rw [Array.getElem?_append_left (by omega)] at hx
    exact hh i v x hv hx
  · rw [List.getElem?_append_right (by omega)] at hv
    have := List.getElem?_replicate (n := n) (a := V.dead) (i := i - args.length)
    rw [this] at hv
    split at hv <;> cases hv
    exact .dead _ _ _

/-- What is known of all loops holds. -/
def LoopsOK (P : Program) (E : Env α) : Prop := ∀ d f fn body, P.funcs[f]? = some fn → fn.body = some body → LoopOK P (callD P E d) (E.L d f) E.N (E.ann f) body

/-- What is asked of the look whether a builder was copied. -/
def CCOK (P : Program) (f : FuncId) (T : TypeId) : Prop :=
  ∀ (w : World) (k : Nat) (x y : Value), w.heap[k]? = some (.cells #[x, y] T (0, 0)) → (x = .pointer none ∨ x = .pointer (some ⟨k, 0, none⟩)) →
    Calls P f #[.pointer (some ⟨k, 0, none⟩)] w fun e w' => ∃ x', e = .returned (.tuple #[]) ∧ (x' = .pointer none ∨ x' = .pointer (some ⟨k, 0, none⟩)) ∧ w'.heap[k]? = some (.cells #[x', y] T (0, 0)) ∧
      (∀ q, q ≠ k → w'.heap[q]? = w.heap[q]?) ∧ w'.heap.size = w.heap.size ∧ w'.os = w.os ∧ w'.tape = w.tape ∧ w'.output = w.output
/-- What is asked of a builder's text. -/
def BSOK (P : Program) (f : FuncId) (T eb : TypeId) : Prop :=
  ∀ (w : World) (k : Nat) (x : Value) (A : Option Addr) (n cap : Nat) (s : ByteArray), w.heap[k]? = some (.cells #[x, .slice A n cap] T (0, 0)) →
    ((A = none ∧ n = 0 ∧ cap = 0 ∧ s = ByteArray.empty) ∨ ∃ b xs fz, A = some ⟨b, 0, none⟩ ∧ n = s.size ∧ w.heap[b]? = some (.cells xs eb fz) ∧ xs.size = cap ∧ s.size ≤ cap ∧ (0 < cap ∧ s.size ≤ 140737488355328) ∧ ∀ i, i < s.size → xs[i]? = some (.int .u8 (byteAt s i))) →
    Calls P f #[.pointer (some ⟨k, 0, none⟩)] w fun e w' => e = .returned (.string s) ∧ (∀ q, (∀ b, A = some ⟨b, 0, none⟩ → q ≠ b) → w'.heap[q]? = w.heap[q]?) ∧ (∀ b xs fz, A = some ⟨b, 0, none⟩ → w.heap[b]? = some (.cells xs eb fz) → ∃ fz', w'.heap[b]? = some (.cells xs eb fz')) ∧ w'.heap.size = w.heap.size ∧ w'.os = w.os ∧ w'.tape = w.tape ∧ w'.output = w.output
def HookOK (P : Program) (f : FuncId) : Hook → Prop
  | .cc T => CCOK P f T
  | .bstr T e => BSOK P f T e

theorem hookC_sound {f0 : FuncId} {hk : Hook} (hH : HookOK P f0 hk) : ∀ args st k (res : α), hookC hk f0 args st k = some res → ∀ base w0 ks a w c (xs : Array Value), Rel base w0 ks st a w c → args.length = xs.size → (∀ (i : Nat) v x, args[i]? = some v → xs[i]? = some x → Rv w c v x) →
    Calls P f0 xs w fun e w' => ∃ x v st' c', e = .returned x ∧ k v st' = some res ∧ Rel base w0 ks st' a w' c' ∧ Rv w' c' v x := by
  intro args st k res he base w0 ks a w c xs h hl hh
  have arg0 : ∀ {r : Nat}, args = [.ref r 0] → ∃ b, r < c.m ∧ c.ρ r = .pointer (some ⟨b, 0, none⟩) ∧ xs = #[.pointer (some ⟨b, 0, none⟩)] := by
    rintro r rfl
    obtain ⟨x, hx⟩ := Array.size_eq_one_iff.1 hl.symm
    subst hx
    obtain ⟨hr, b, hb, hxb⟩ := (hh 0 _ _ rfl rfl).ref_inv
    exact ⟨b, hr, hb, congrArg (fun z => #[z]) hxb⟩
  cases hk with
  | cc T =>
    simp only [hookC] at he
    split at he <;> (try cases he)
    · rename_i T0 r hT
      cases hT
      split at he <;> (try cases he)
      rename_i T' v hbx
      split at he <;> (try cases he)
      rename_i e
      subst e
      obtain ⟨b, hr, hb, rfl⟩ := arg0 rfl
      obtain ⟨_, hB⟩ := h.at hbx
      cases hB with
      | sb _ _ kb x y hρ ho hk hx h1 hv =>
        rw [hρ] at hb
        simp only [Value.pointer.injEq, Option.some.injEq, Addr.mk.injEq, and_true] at hb
        subst hb
        refine (hH w kb x y hk hx).mono ?_
        rintro e w' ⟨x', rfl, hx', hk', hoth, hsz, hos, htp, hout⟩
        have hs : Same c.F w w' := fun q hq => hoth q (fun e => h.nF r kb hr ho (e ▸ hq))
        have hw := h.write' (b := .sb T' v) hr ho hoth hsz hos htp hout (.sb T' v kb x' y hρ ho hk' hx' h1 (hv.mono hs (fun _ hk => hk) (Nat.le_refl _) fun _ _ => rfl))
        have hst : ({ st with h := st.h.set r (.sb T' v) } : St) = st := by
          have hg := List.getElem?_eq_some_iff.1 hbx
          obtain ⟨hlt, hg⟩ := hg
          have : st.h.set r (.sb T' v) = st.h := by rw [← hg]; exact List.set_getElem_self hlt
          rw [this]
        rw [hst] at hw
        exact ⟨_, _, _, c, rfl, he, hw, .tup [] #[] rfl fun i v x hv => by simp at hv⟩
    · rename_i hT
      cases hT
  | bstr T eb =>
    simp only [hookC] at he
    split at he <;> (try cases he)
    · rename_i hT
      cases hT
    · rename_i T0 e0 r hT
      cases hT
      split at he <;> (try cases he)
      rename_i T' q hbx
      have main : ∀ {e' : TypeId} {s : ByteArray}, T' = T → e' = eb → k (.str s) { st with h := st.h.set q (.fin eb s) } = some res → q < c.m → (∃ A n cap, c.ρ q = .slice A n cap ∧ ((A = none ∧ n = 0 ∧ cap = 0 ∧ s = ByteArray.empty ∧ c.o q = none) ∨ ∃ b xs fz, A = some ⟨b, 0, none⟩ ∧ n = s.size ∧ c.o q = some b ∧ w.heap[b]? = some (.cells xs e' fz) ∧ xs.size = cap ∧ s.size ≤ cap ∧ (0 < cap ∧ s.size ≤ 140737488355328) ∧ (∀ (i : Nat) x, xs[i]? = some x → one x) ∧ ∀ i, i < s.size → xs[i]? = some (.int .u8 (byteAt s i)))) →
          Calls P f0 xs w fun e w' => ∃ x v st' c', e = .returned x ∧ k v st' = some res ∧ Rel base w0 ks st' a w' c' ∧ Rv w' c' v x := by
        rintro e' s rfl rfl he hqm ⟨A, n, cap, hρq, hform⟩
        obtain ⟨b, hr, hb, rfl⟩ := arg0 rfl
        obtain ⟨_, hB⟩ := h.at hbx
        cases hB with
        | sb _ _ kb x y hρ ho hk hx h1 hv =>
          rw [hρ] at hb
          simp only [Value.pointer.injEq, Option.some.injEq, Addr.mk.injEq, and_true] at hb
          subst hb
          obtain ⟨_, hyq, _⟩ := hv.own_inv
          rw [hρq] at hyq
          subst hyq
          refine (hH w kb x A n cap s hk ?_).mono ?_
          · rcases hform with ⟨h1, h2, h3, h4, _⟩ | ⟨b, xs, fz, h1, h2, _, h3, h4, h5, h6, _, h7⟩
            · exact .inl ⟨h1, h2, h3, h4⟩
            · exact .inr ⟨b, xs, fz, h1, h2, h3, h4, h5, h6, h7⟩
          rintro e w' ⟨rfl, hoth, hblk, hsz, hos, htp, hout⟩
          rcases hform with ⟨rfl, rfl, rfl, rfl, hoq⟩ | ⟨b, xs, fz, rfl, rfl, hoq, hbk, hxs, hsc, hp, h1c, hcell⟩
          · refine ⟨_, _, _, c, rfl, he, ?_, .im _ _ (.str _)⟩
            have hsame : ∀ k, w'.heap[k]? = w.heap[k]? := fun k => hoth k (fun b hb => by cases hb)
            exact h.writeN hqm hoq hsame hsz hos htp hout (.finNil _ hρq hoq)
          · refine ⟨_, _, _, c, rfl, he, ?_, .im _ _ (.str _)⟩
            obtain ⟨fz', hbk'⟩ := hblk b xs fz rfl hbk
            exact h.write' hqm hoq (fun k hk => hoth k (fun b' hb' => by cases hb'; exact hk)) hsz hos htp hout (.fin _ _ cap b xs fz' hρq hoq hbk' hxs hsc hp h1c hcell)
      split at he <;> (try cases he)
      · rename_i e' s hq
        split at he <;> (try cases he)
        rename_i e
        obtain ⟨hqm, hBq⟩ := h.at hq
        refine main e.1 e.2 he hqm ?_
        cases hBq with
        | bsNil _ hρ2 ho2 => exact ⟨_, _, _, hρ2, .inl ⟨rfl, rfl, rfl, rfl, ho2⟩⟩
        | bs _ _ cap k2 xs fz hρ2 ho2 hk2 hfz hs2 hc2 hp2 h12 hcell => exact ⟨_, _, cap, hρ2, .inr ⟨k2, xs, fz, rfl, rfl, ho2, hk2, hs2, hc2, hp2, h12, hcell⟩⟩
      · rename_i e' s hq
        split at he <;> (try cases he)
        rename_i e
        obtain ⟨hqm, hBq⟩ := h.at hq
        refine main e.1 e.2 he hqm ?_
        cases hBq with
        | finNil _ hρ2 ho2 => exact ⟨_, _, _, hρ2, .inl ⟨rfl, rfl, rfl, rfl, ho2⟩⟩
        | fin _ _ cap k2 xs fz hρ2 ho2 hk2 hs2 hc2 hp2 h12 hcell => exact ⟨_, _, cap, hρ2, .inr ⟨k2, xs, fz, rfl, rfl, ho2, hk2, hs2, hc2, hp2, h12, hcell⟩⟩

/-- What is known of functions of the library holds. -/
def HooksOK (P : Program) (hk : FuncId → Option Hook) : Prop := ∀ f h, hk f = some h → HookOK P f h

theorem callD_sound (E : Env α) (hC : SpecOK P E.C) (hL : LoopsOK P E) (hH : HooksOK P E.hk) : ∀ d, CallOK P (callD P E d) := by
  intro d
  induction d with
  | zero =>
    intro f args st k res he base w0 ks a w c xs h hl hh
    simp only [callD] at he
    split at he
    · rename_i hk hkf
      exact hookC_sound (hH f hk hkf) args st k res he base w0 ks a w c xs h hl hh
    · exact callC_sound hC E.q f args st k res he base w0 ks a w c xs h hl hh
  | succ d ih =>
    intro f args st k res he base w0 ks a w c xs h hl hh
    simp only [callD] at he
    split at he
    · rename_i hk hkf
      exact hookC_sound (hH f hk hkf) args st k res he base w0 ks a w c xs h hl hh
    split at he
    · split at he <;> (try cases he)
      rename_i fn hf
      split at he <;> (try cases he)
      rename_i body hb
      obtain ⟨f1, f2⟩ := frame_tm (w := w) (c := c) hl hh (fn.ntmps - args.length) (fn.ntmps - xs.size) (by rw [hl])
      have h' : Rel base w0 (a.tmps :: ks) { t := args ++ List.replicate (fn.ntmps - args.length) .dead, s := st.t :: st.s, h := st.h } { tmps := xs ++ Array.replicate (fn.ntmps - xs.size) undef, defers := [] } w c := by
        have hp := h.pushS h.len h.tm
        exact ⟨f1, f2, hp.ls, hp.sv, h.hm, h.hp, h.inj, h.ge, h.nF, h.lt, h.bel, rfl, h.bs, h.ff, h.pn⟩
      refine calls_of_wp hf hb (evCode_sound ih (hL d f fn body hf hb) body [] (fun q => rfl) _ _ w c _ _ h' he ?_)
      intro x s' a' w' c' hk hr
      have hk' : ∃ vs t ss, resV P fn s' = some vs ∧ s'.s = t :: ss ∧ k (oneV vs) { t := t, s := ss, h := s'.h } = some res ∧ ∀ j, x ≠ .exit j := by
        cases x with
        | exit j => simp at hk
        | normal =>
          simp only at hk
          split at hk <;> (try cases hk)
          rename_i vs t ss hvs hs _
          exact ⟨vs, t, ss, hvs, hs, hk, fun j => by simp⟩
        | ret =>
          simp only at hk
          split at hk <;> (try cases hk)
          rename_i vs t ss hvs hs _
          exact ⟨vs, t, ss, hvs, hs, hk, fun j => by simp⟩
      clear hk
      obtain ⟨vs, t, ss, hvs, hs, hk, hx⟩ := hk'
      obtain ⟨y, hy1, hy2⟩ := resV_sound hr hvs
      have hpop := hr.pop hs
      have hfin : Rel base w0 ks { t := t, s := ss, h := s'.h } a w' c' := ⟨hpop.2.1, hpop.2.2, hpop.1.ls, hpop.1.sv, hr.hm, hr.hp, hr.inj, hr.ge, hr.nF, hr.lt, hr.bel, h.dn, hr.bs, hr.ff, hr.pn⟩
      cases x with
      | normal => exact ⟨hr.dn, y, hy1, y, _, _, c', rfl, hk, hfin, hy2⟩
      | ret => exact ⟨hr.dn, y, hy1, y, _, _, c', rfl, hk, hfin, hy2⟩
      | exit j => exact (hx j rfl).elim
    · exact callC_sound hC E.q f args st k res he base w0 ks a w c xs h hl hh

theorem evFun_sound (E : Env α) (hC : SpecOK P E.C) (hL : LoopsOK P E) (hH : HooksOK P E.hk) {d : Nat} {f : FuncId} {args : List V} {bs : List B} {k : V → List B → Option α} {res : α} (he : evFun P E d f args bs k = some res) :
    FunOK P f args bs fun v hs => k v hs = some res := by
  intro w c xs h
  simp only [evFun] at he
  split at he <;> (try cases he)
  rename_i fn hf
  split at he <;> (try cases he)
  rename_i body hb
  obtain ⟨f1, f2⟩ := frame_tm (w := w) (c := c) h.len h.tm (fn.ntmps - args.length) (fn.ntmps - xs.size) (by have := h.len; simp only at this; rw [this])
  have h' : Rel (baseOf w c) w [] { t := args ++ List.replicate (fn.ntmps - args.length) .dead, s := [], h := bs } { tmps := xs ++ Array.replicate (fn.ntmps - xs.size) undef, defers := [] } w c :=
    ⟨f1, f2, h.ls, h.sv, h.hm, h.hp, h.inj, h.ge, h.nF, h.lt, h.bel, rfl, h.bs, h.ff, h.pn⟩
  refine calls_of_wp hf hb (evCode_sound (callD_sound E hC hL hH d) (hL d f fn body hf hb) body [] (fun q => rfl) _ _ w c _ _ h' he ?_)
  intro x s' a' w' c' hk hr
  have hk' : ∃ rs vs, resV P fn (if E.fr then s'.frzs rs else s') = some vs ∧ export_ bs.length (if E.fr then s'.frzs rs else s').h (oneV vs) k = some res ∧ ∀ j, x ≠ .exit j := by
    cases x with
    | exit j => simp at hk
    | normal =>
      simp only at hk
      split at hk <;> (try cases hk)
      split at hk <;> (try cases hk)
      rename_i vs hvs
      exact ⟨_, vs, hvs, hk, fun j => by simp⟩
    | ret =>
      simp only at hk
      split at hk <;> (try cases hk)
      split at hk <;> (try cases hk)
      rename_i vs hvs
      exact ⟨_, vs, hvs, hk, fun j => by simp⟩
  clear hk
  obtain ⟨rs, vs, hvs, hk, hx⟩ := hk'
  have hr' : ∃ c2, Rel (baseOf w c) w [] (if E.fr then s'.frzs rs else s') a' w' c2 := by
    cases E.fr with
    | false => exact ⟨c', hr⟩
    | true =>
      obtain ⟨c2, h2, _⟩ := hr.frzs rs
      exact ⟨c2, h2⟩
  revert hvs hk hr'
  generalize (if E.fr then s'.frzs rs else s') = s2
  intro hvs hk hr'
  clear hr
  obtain ⟨c', hr⟩ := hr'
  obtain ⟨y, hy1, hy2⟩ := resV_sound hr hvs
  have hcm : c.m = bs.length := h.hm
  have hc'm : c'.m = s2.h.length := hr.hm
  have fin : ∃ v hs c2, k v hs = some res ∧ Rel (baseOf w c) w [] ⟨[v], [], hs⟩ ⟨#[y], []⟩ w' c2 := by
    simp only [export_] at hk
    split at hk <;> (try cases hk)
    rename_i hok
    obtain ⟨hm, _, hbox, hnd, hrow⟩ := hok
    have hm : bs.length ≤ s2.h.length := by simpa using hm
    rw [List.all_eq_true] at hbox hrow
    generalize hrs : (oneV vs).owns' ++ (s2.h.take bs.length).flatMap (fun b => ownsB (some b)) = rs at *
    have hrg : ∀ j, j < rs.length → ∃ r b, rs[j]? = some r ∧ rs.getD j 0 = r ∧ r < c'.m ∧ s2.h[r]? = some b ∧ isRow b = true ∧ s2.h.getD r .gone = b := by
      intro j hj
      have := hrow _ (List.getElem_mem hj)
      cases e : s2.h[rs[j]]? with
      | none => rw [e] at this; cases this
      | some b => rw [e] at this; exact ⟨_, b, List.getElem?_eq_getElem hj, rs_get hj, (hr.at e).1, e, this, by rw [List.getD_eq_getElem?_getD, e]; rfl⟩
    have hbg : ∀ j, j < bs.length → ∃ cs, s2.h[j]? = some (.box cs) := by
      intro j hj
      have hj' : j < s2.h.length := by omega
      have hmem : s2.h[j] ∈ s2.h.take bs.length := by
        rw [List.mem_iff_getElem?]
        exact ⟨j, by rw [List.getElem?_take, if_pos hj, List.getElem?_eq_getElem hj']⟩
      have := hbox _ hmem
      cases e : s2.h[j] with
      | box cs => exact ⟨cs, by rw [List.getElem?_eq_getElem hj', e]⟩
      | _ => rw [e] at this; cases this
    let c2 : Cx := { F := c'.F, ρ := fun j => if j < bs.length then c'.ρ j else c'.ρ (rs.getD (j - bs.length) 0), o := fun j => if j < bs.length then c'.o j else c'.o (rs.getD (j - bs.length) 0), m := bs.length + rs.length }
    have hρ1 : ∀ j, j < bs.length → c2.ρ j = c'.ρ j := fun j hj => by show (if j < bs.length then _ else _) = _; rw [if_pos hj]
    have ho1 : ∀ j, j < bs.length → c2.o j = c'.o j := fun j hj => by show (if j < bs.length then _ else _) = _; rw [if_pos hj]
    have hρ2 : ∀ j, ¬ j < bs.length → c2.ρ j = c'.ρ (rs.getD (j - bs.length) 0) := fun j hj => by show (if j < bs.length then _ else _) = _; rw [if_neg hj]
    have ho2 : ∀ j, ¬ j < bs.length → c2.o j = c'.o (rs.getD (j - bs.length) 0) := fun j hj => by show (if j < bs.length then _ else _) = _; rw [if_neg hj]
    have hσ : ∀ v x, Loc v → Rv w' c' v x → Rv w' c2 (renumV bs.length rs v) x := by
      refine loc_cases ?_ ?_ ?_ ?_
      · intro r z hv
        obtain ⟨hr', rfl, A, n, cap, he⟩ := hv.own_inv
        simp only [renumV]
        split
        · rename_i hmem
          have hlt := List.idxOf_lt_length_iff.2 hmem
          have hg : rs[rs.idxOf r] = r := List.getElem_idxOf hlt
          rw [he]
          refine .own _ (by show _ < bs.length + rs.length; omega) A n cap ?_
          rw [hρ2 _ (by omega), show rs.idxOf r + bs.length - bs.length = rs.idxOf r by omega, rs_get hlt, hg, he]
        · exact .dead _ _ _
      · intro r off z _; exact .dead _ _ _
      · intro r sz i off z _; exact .dead _ _ _
      · intro r z _; exact .dead _ _ _
    have hoj : ∀ j k, j < c2.m → c2.o j = some k → ∃ r, r < c'.m ∧ c'.o r = some k ∧ ((j < bs.length ∧ r = j) ∨ (¬ j < bs.length ∧ rs[j - bs.length]? = some r)) := by
      intro j k hj hk
      by_cases e : j < bs.length
      · exact ⟨j, by omega, ho1 j e ▸ hk, .inl ⟨e, rfl⟩⟩
      · have hj : j < bs.length + rs.length := hj
        obtain ⟨r, b, e1, e2, e3, _⟩ := hrg (j - bs.length) (by omega)
        rw [ho2 j e, e2] at hk
        exact ⟨r, e3, hk, .inr ⟨e, e1⟩⟩
    refine ⟨_, _, c2, hk, rfl, ?_, rfl, fun i u z hu => by simp at hu, ?_, ?_, ?_, ?_, ?_, ?_, hr.bel, rfl, hr.bs, hr.ff, ?_⟩
    · intro i u z hu hz
      cases i with
      | zero => cases hu; cases hz; exact Rv.sub (c := c') (c' := c2) (Same.refl _ _) (fun _ hk => hk) hσ dep _ _ hy2
      | succ i => simp at hu
    · show bs.length + rs.length = _
      simp only [List.length_append, List.length_map, List.length_take]
      omega
    · intro j b hj
      by_cases e : j < bs.length
      · rw [List.getElem?_append_left (by simp only [List.length_map, List.length_take]; omega)] at hj
        obtain ⟨b', hb', rfl⟩ := getElem?_map_some hj
        rw [List.getElem?_take, if_pos e] at hb'
        exact (hr.hp j b' hb').sub (Same.refl _ _) (fun _ hk => hk) hσ (fun _ _ => rfl) (hρ1 j e) (ho1 j e)
      · rw [List.getElem?_append_right (by simp only [List.length_map, List.length_take]; omega)] at hj
        simp only [List.length_map, List.length_take, Nat.min_eq_left hm] at hj
        obtain ⟨r, hr', rfl⟩ := getElem?_map_some (f := fun r => s2.h.getD r .gone) hj
        have hlt := (List.getElem?_eq_some_iff.1 hr').1
        obtain ⟨r', b, e1, e2, e3, e4, e5, e6⟩ := hrg _ hlt
        rw [hr'] at e1
        cases e1
        rw [e6]
        exact (hr.hp r b e4).shift e5 (Same.refl _ _) (fun _ hk => hk) (fun _ _ => rfl) (by rw [hρ2 j e, e2]) (by rw [ho2 j e, e2])
    · intro i j q hi hj hiq hjq
      obtain ⟨r, hr1, hr2, hr3⟩ := hoj i q hi hiq
      obtain ⟨s, hs1, hs2, hs3⟩ := hoj j q hj hjq
      have := hr.inj r s q hr1 hs1 hr2 hs2
      subst this
      have cross : ∀ i j, i < bs.length ∧ r = i → ¬ j < bs.length ∧ rs[j - bs.length]? = some r → False := by
        rintro i j ⟨e1, rfl⟩ ⟨_, e2⟩
        obtain ⟨cs, hcs⟩ := hbg _ e1
        obtain ⟨r', b, e3, _, _, e4, e5, _⟩ := hrg _ (List.getElem?_eq_some_iff.1 e2).1
        rw [e2] at e3
        cases e3
        rw [hcs] at e4
        cases e4
        cases e5
      rcases hr3 with h1 | h1 <;> rcases hs3 with h2 | h2
      · omega
      · exact (cross i j h1 h2).elim
      · exact (cross j i h2 h1).elim
      · have := (List.getElem?_inj (List.getElem?_eq_some_iff.1 h1.2).1 hnd).1 (h1.2.trans h2.2.symm)
        omega
    · intro j q hj hq
      obtain ⟨r, hr1, hr2, _⟩ := hoj j q hj hq
      exact hr.ge r q hr1 hr2
    · intro j q hj hq
      obtain ⟨r, hr1, hr2, _⟩ := hoj j q hj hq
      exact hr.nF r q hr1 hr2
    · exact hr.lt
    · intro j q hj
      have hj' := hj
      simp only [baseOf] at hj
      split at hj <;> (try cases hj)
      rename_i hlt
      obtain ⟨p1, p2, p3⟩ := hr.pn j q hj'
      exact ⟨by show j < bs.length + rs.length; omega, (hρ1 j (by omega)).trans p2, (ho1 j (by omega)).trans p3⟩
  obtain ⟨v, hs, c2, hkv, hrel⟩ := fin
  cases x with
  | normal => exact ⟨hr.dn, y, hy1, y, v, hs, c2, rfl, hkv, hrel⟩
  | ret => exact ⟨hr.dn, y, hy1, y, v, hs, c2, rfl, hkv, hrel⟩
  | exit j => exact (hx j rfl).elim
end
end Go.Rv
