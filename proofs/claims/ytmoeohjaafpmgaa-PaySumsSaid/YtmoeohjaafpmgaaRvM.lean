/- Rv, part M: a call by what is known of the function. Of no program. -/
import Derived.Test.YtmoeohjaafpmgaaRvLe
set_option linter.unusedVariables false
set_option linter.unusedSimpArgs false
set_option linter.unusedSectionVars false
namespace Go.Rv
open Go Go.RowKit
variable [Fx]
section
variable {P : Program} {α : Type}

def baseOf (w : World) (c : Cx) : Base := ⟨fun k => k < w.heap.size ∧ ∀ j, j < c.m → c.o j ≠ some k, c.F, fun j => if j < c.m then c.o j else none⟩

/-- What is known of a function: of these arguments, of boxes of these cells. -/
def FunOK (P : Program) (f : FuncId) (args : List V) (bs : List B) (post : V → List B → Prop) : Prop :=
  ∀ w c (xs : Array Value), Rel (baseOf w c) w [] ⟨args, [], bs⟩ ⟨xs, []⟩ w c →
    Calls P f xs w fun e w' => ∃ x v hs c', e = .returned x ∧ post v hs ∧ Rel (baseOf w c) w [] ⟨[v], [], hs⟩ ⟨#[x], []⟩ w' c'
def SpecOK (P : Program) (C : SpecT α) : Prop := ∀ f args bs k (res : α), C f args bs k = some res → FunOK P f args bs fun v hs => k v hs = some res

theorem FunOK.mono {f : FuncId} {args : List V} {bs : List B} {p q : V → List B → Prop} (h : FunOK P f args bs p) (hpq : ∀ v hs, p v hs → q v hs) : FunOK P f args bs q :=
  fun w c xs hr => (h w c xs hr).mono fun e w' ⟨x, v, hs, c', he, hp, hrel⟩ => ⟨x, v, hs, c', he, hpq v hs hp, hrel⟩

variable {base : Base} {w0 : World} {ks : List (Array Value)} {st : St} {a : Act} {w : World} {c : Cx}

theorem Rel.pop {xs : Array Value} (h : Rel base w0 (xs :: ks) st a w c) {as : List V} {ss : List (List V)} (hs : st.s = as :: ss) :
    Rel base w0 ks { st with s := ss } a w c ∧ as.length = xs.size ∧ ∀ (i : Nat) v x, as[i]? = some v → xs[i]? = some x → Rv w c v x := by
  have h0 := h.sv 0 as xs (by rw [hs]; rfl) rfl
  refine ⟨⟨h.len, h.tm, ?_, ?_, h.hm, h.hp, h.inj, h.ge, h.nF, h.lt, h.bel, h.dn, h.bs, h.ff, h.pn⟩, h0.1, h0.2⟩
  · have := h.ls
    rw [hs] at this
    simpa using this
  · intro i vs ys hv hy
    exact h.sv (i + 1) vs ys (by rw [hs]; exact hv) hy
theorem Rel.pushS {xs : Array Value} {as : List V} (h : Rel base w0 ks st a w c) (hl : as.length = xs.size) (hh : ∀ (i : Nat) v x, as[i]? = some v → xs[i]? = some x → Rv w c v x) : Rel base w0 (xs :: ks) { st with s := as :: st.s } a w c := by
  refine ⟨h.len, h.tm, congrArg (· + 1) h.ls, ?_, h.hm, h.hp, h.inj, h.ge, h.nF, h.lt, h.bel, h.dn, h.bs, h.ff, h.pn⟩
  intro i vs ys hv hy
  cases i with
  | zero => cases hv; cases hy; exact ⟨hl, hh⟩
  | succ i => exact h.sv i vs ys hv hy

theorem setBoxes_spec {σ : V → V} : ∀ (rs : List Nat) (bs h h' : List B), rs.Nodup → (∀ r ∈ rs, r < h.length) → setBoxes σ h rs bs = some h' →
    h'.length = h.length ∧ (∀ r, r ∉ rs → h'[r]? = h[r]?) ∧ ∀ (i r : Nat), rs[i]? = some r → ∃ cs, bs[i]? = some (.box cs) ∧ h'[r]? = some (.box (cs.map (V.sub σ dep))) := by
  intro rs
  induction rs with
  | nil => intro bs h h' _ _ he; simp only [setBoxes] at he; cases he; exact ⟨rfl, fun _ _ => rfl, fun i r hr => by simp at hr⟩
  | cons r rs ih =>
    intro bs h h' hn hlt he
    cases bs with
    | nil => cases he
    | cons b bs =>
      cases b with
      | box cs =>
        simp only [setBoxes] at he
        rw [List.nodup_cons] at hn
        obtain ⟨h1, h2, h3⟩ := ih bs _ h' hn.2 (fun q hq => by simpa using hlt q (List.mem_cons_of_mem _ hq)) he
        refine ⟨by simpa using h1, fun q hq => ?_, fun i q hq => ?_⟩
        · rw [h2 q fun hm => hq (List.mem_cons_of_mem _ hm), List.getElem?_set, if_neg (fun e => hq (by rw [e]; exact List.mem_cons_self))]
        · cases i with
          | zero =>
            cases hq
            refine ⟨cs, rfl, ?_⟩
            rw [h2 r hn.1, List.getElem?_set, if_pos rfl, if_pos (hlt r List.mem_cons_self)]
          | succ i => exact h3 i q hq
      | row => cases he
      | mp => cases he
      | lit => cases he
      | sb => cases he
      | bs => cases he
      | it => cases he
      | fin => cases he
      | gone => cases he

/-- What leads nowhere reads the same anywhere. -/
theorem clean_sub {w' : World} {c2 c3 : Cx} {σ : V → V} (hown : ∀ r x, Rv w c2 (.own r) x → σ (.own r) = .dead) : ∀ n v x, cleanV n v = true → Rv w c2 v x → Rv w' c3 (V.sub σ n v) x := by
  intro n
  induction n with
  | zero => intro v x h; cases h
  | succ n ih =>
    intro v x h hv
    cases v with
    | agg cs =>
      obtain ⟨xs, rfl, hl, h1, hh⟩ := hv.agg_inv
      simp only [cleanV, List.all_eq_true] at h
      refine .agg _ xs (by simpa using hl) h1 fun i v x hv hx => ?_
      obtain ⟨u, hu, rfl⟩ := getElem?_map_some hv
      exact ih _ _ (h u (List.mem_of_getElem? hu)) (hh i u x hu hx)
    | tup cs =>
      obtain ⟨xs, rfl, hl, hh⟩ := hv.tup_inv
      simp only [cleanV, List.all_eq_true] at h
      refine .tup _ xs (by simpa using hl) fun i v x hv hx => ?_
      obtain ⟨u, hu, rfl⟩ := getElem?_map_some hv
      exact ih _ _ (h u (List.mem_of_getElem? hu)) (hh i u x hu hx)
    | iface t v =>
      obtain ⟨y, rfl, hh⟩ := hv.iface_inv
      exact .iface _ _ _ (ih _ _ h hh)
    | own r => simp only [V.sub, hown r x hv]; exact .dead _ _ _
    | bool b => cases hv with | im _ _ hd => cases hd; exact .im _ _ (.bool _)
    | int k m => cases hv with | im _ _ hd => cases hd; exact .im _ _ (.int _ _)
    | str s => cases hv with | im _ _ hd => cases hd; exact .im _ _ (.str _)
    | nilp => cases hv with | im _ _ hd => cases hd; exact .im _ _ .nilp
    | nilm => cases hv with | im _ _ hd => cases hd; exact .im _ _ .nilm
    | nilf => cases hv with | im _ _ hd => cases hd; exact .im _ _ .nilf
    | nili => cases hv with | im _ _ hd => cases hd; exact .im _ _ .nili
    | func fn a b => simp [cleanV] at h
    | sl a b d e => simp [cleanV] at h
    | eptr a => simp [cleanV] at h
    | ref r o => simp [cleanV] at h
    | wptr r s i o => simp [cleanV] at h
    | mp r => simp [cleanV] at h
    | dead => simp [cleanV] at h

/-- A row, told of another place that is the same. -/
theorem BR.shift {w w' : World} {c c' : Cx} {r r' : Nat} {b : B} (hb : isRow b = true) (h : BR w c r b) (hs : Same c.F w w') (hF : ∀ k, c.F k → c'.F k)
    (hk : ∀ k, c.o r = some k → w'.heap[k]? = w.heap[k]?) (hρ : c'.ρ r' = c.ρ r) (ho : c'.o r' = c.o r) : BR w' c' r' b := by
  cases h with
  | box => cases hb
  | rowNil wr sz g hz hρ' ho' => exact .rowNil wr sz g hz (hρ.trans hρ') (ho.trans ho')
  | rowFull wr sz n g A hz hw hρ' ho' h => exact .rowFull wr sz n g A hz hw (hρ.trans hρ') (ho.trans ho') (h.mono hs hF)
  | row wr sz n cap g ty k xs fz hz hρ' ho' hk' hfz hs' hc h1 hg h => exact .row wr sz n cap g ty k xs fz hz (hρ.trans hρ') (ho.trans ho') ((hk k ho').trans hk') hfz hs' hc h1 hg (h.mono hs hF)
  | mp => cases hb
  | lit => cases hb
  | sb => cases hb
  | it => cases hb
  | finNil => cases hb
  | fin => cases hb
  | bsNil => cases hb
  | bs => cases hb
  | gone => cases hb

/-- The callee's sight of the local heap: its boxes. -/
def Cx.cut (c : Cx) (h : List B) (rs : List Nat) (v : Bool) : Cx where
  F := fun k => c.F k ∨ (v = true ∧ ∃ r b, r < c.m ∧ h[r]? = some b ∧ isRow b = true ∧ c.o r = some k)
  ρ := fun j => c.ρ (rs.getD j 0)
  o := fun j => c.o (rs.getD j 0)
  m := rs.length

theorem rs_get {rs : List Nat} {j : Nat} (h : j < rs.length) : rs.getD j 0 = rs[j] := by
  rw [List.getD_eq_getElem?_getD, List.getElem?_eq_getElem h, Option.getD_some]

theorem Rel.enter (h : Rel base w0 ks st a w c) {as : List V} {xs : Array Value} (hl : as.length = xs.size) (hh : ∀ (i : Nat) v x, as[i]? = some v → xs[i]? = some x → Rv w c v x) (v : Bool)
    (hn : (boxesOf as).Nodup) (hb : ∀ r ∈ boxesOf as, ∃ cs, st.h[r]? = some (.box cs)) :
    Rel (baseOf w (c.cut st.h (boxesOf as) v)) w [] ⟨as.map (argV (if v then viewV st.h else deadV) (boxesOf as)), [], (boxesOf as).map fun r => viewB (if v then viewV st.h else deadV) st.h[r]?⟩ ⟨xs, []⟩ w (c.cut st.h (boxesOf as) v) := by
  generalize hcc : c.cut st.h (boxesOf as) v = cc
  have hF : ∀ k, c.F k → cc.F k := fun k hk => by rw [← hcc]; exact .inl hk
  have hσ : ∀ u x, Loc u → Rv w c u x → Rv w cc ((if v then viewV st.h else deadV) u) x := by
    cases v with
    | false => intro u x _ _; exact .dead _ _ _
    | true =>
      simp only [if_true]
      refine loc_cases ?_ ?_ ?_ ?_
      · intro r x hv
        obtain ⟨hr, rfl, A, n, cap, he⟩ := hv.own_inv
        simp only [viewV]
        split
        · rename_i wr nl sz n' g hbx
          refine .im _ _ (row_reads (fun {k} ho => ?_) (h.hp r _ hbx) hF)
          rw [← hcc]
          exact .inr ⟨rfl, r, _, hr, hbx, rfl, ho⟩
        · exact .dead _ _ _
      · intro r off x _; exact .dead _ _ _
      · intro r sz i off x _; exact .dead _ _ _
      · intro r x _; exact .dead _ _ _
  generalize (if v then viewV st.h else deadV) = σ at *
  have hsub := fun u x (hu : Rv w c u x) => Rv.sub (w' := w) (c' := cc) (Same.refl c.F w) hF hσ dep u x hu
  have hm : cc.m = (boxesOf as).length := by rw [← hcc]; rfl
  have hrj : ∀ j, j < (boxesOf as).length → ∃ r cs, (boxesOf as)[j]? = some r ∧ r < c.m ∧ st.h[r]? = some (.box cs) ∧ cc.ρ j = c.ρ r ∧ cc.o j = c.o r := by
    intro j hj
    obtain ⟨cs, hcs⟩ := hb _ (List.getElem_mem hj)
    refine ⟨_, cs, List.getElem?_eq_getElem hj, (h.at hcs).1, hcs, ?_, ?_⟩
    · rw [← hcc]; show c.ρ ((boxesOf as).getD j 0) = _; rw [rs_get hj]
    · rw [← hcc]; show c.o ((boxesOf as).getD j 0) = _; rw [rs_get hj]
  have hbk : ∀ k, Fx.blk k → (baseOf w cc).K k := fun k hk => ⟨h.base_le k (h.bs.blk k hk), fun j hj ho => by
    obtain ⟨r, cs, _, hrm, _, _, ho'⟩ := hrj j (by rw [hm] at hj; exact hj)
    rw [ho'] at ho
    exact h.ge r k hrm ho (h.bs.blk k hk)⟩
  refine ⟨by simpa using hl, ?_, rfl, fun i vs ys hv => by simp at hv, by simpa using hm, ?_, ?_, ?_, ?_, ?_, Keep.refl _ _, rfl, ⟨fun k hk => hk.1, hbk, h.tabNow⟩, fun k hk => .inl hk, ?_⟩
  · intro i u x hu hx
    obtain ⟨z, hz, rfl⟩ := getElem?_map_some (f := argV σ (boxesOf as)) hu
    refine Rv.sub (w' := w) (c' := cc) (Same.refl c.F w) hF ?_ dep z x (hh i z x hz hx)
    refine loc_cases ?_ ?_ ?_ ?_
    · intro r z hv; exact hσ _ _ trivial hv
    · intro r off z hv
      simp only [argS]
      split
      · rename_i hmem
        obtain ⟨_, b, he, rfl⟩ := hv.ref_inv
        have hlt := List.idxOf_lt_length_iff.2 hmem
        have hg : (boxesOf as)[(boxesOf as).idxOf r] = r := List.getElem_idxOf hlt
        refine .ref _ off b (by rw [hm]; exact hlt) ?_
        rw [← hcc]
        show c.ρ ((boxesOf as).getD _ 0) = _
        rw [rs_get hlt, hg, he]
      · exact .dead _ _ _
    · intro r sz i off z hv; exact hσ _ _ trivial hv
    · intro r z hv; exact hσ _ _ trivial hv
  · intro j b hj
    obtain ⟨r, hr, rfl⟩ := getElem?_map_some (f := fun r => viewB σ st.h[r]?) hj
    have hlt : j < (boxesOf as).length := (List.getElem?_eq_some_iff.1 hr).1
    obtain ⟨r', cs, hr', hrm, hcs, hρ, ho⟩ := hrj j hlt
    have hjr : (boxesOf as)[j]? = some r := hr
    rw [hjr] at hr'
    cases hr'
    rw [hcs]
    have := h.hp r _ hcs
    cases this with
    | box _ ty k ys hρ' ho' hk' hl' h1' hh' =>
      refine .box _ ty k ys (hρ.trans hρ') (ho.trans ho') hk' (by simpa using hl') h1' fun i u y hu hy => ?_
      obtain ⟨z, hz, rfl⟩ := getElem?_map_some hu
      exact hsub _ _ (hh' i z y hz hy)
  · intro i j k hi hj hk hk'
    obtain ⟨r, _, hr, hrm, _, _, ho⟩ := hrj i (by rw [hm] at hi; exact hi)
    obtain ⟨s, _, hs, hsm, _, _, ho'⟩ := hrj j (by rw [hm] at hj; exact hj)
    have : r = s := h.inj r s k hrm hsm (ho ▸ hk) (ho' ▸ hk')
    subst this
    exact (List.getElem?_inj (by rw [hm] at hi; exact hi) hn).1 (hr.trans hs.symm)
  · intro j k hj hk hK
    exact hK.2 j hj hk
  · intro j k hj hk hf
    obtain ⟨r, cs, _, hrm, hcs, _, ho⟩ := hrj j (by rw [hm] at hj; exact hj)
    rw [ho] at hk
    rw [← hcc] at hf
    rcases hf with hf | ⟨_, r', b, hr', hb', hrow, ho'⟩
    · exact h.nF r k hrm hk hf
    · have := h.inj r r' k hrm hr' hk ho'
      subst this
      rw [hcs] at hb'
      cases hb'
      cases hrow
  · intro k hk
    rw [← hcc] at hk
    rcases hk with hk | ⟨_, r', b, hr', _, _, ho'⟩
    · exact h.lt k hk
    · exact h.owned_lt hr' ho'
  · intro j k hj
    simp only [baseOf] at hj
    split at hj
    · rename_i hlt
      obtain ⟨r, cs, _, hrm, hcs, hρ, ho⟩ := hrj j (by rw [hm] at hlt; exact hlt)
      refine ⟨hlt, ?_, hj⟩
      have := h.hp r _ hcs
      cases this with
      | box _ ty k' ys hρ' ho' =>
        rw [ho, ho'] at hj
        cases hj
        rw [hρ, hρ']
    · cases hj

theorem callC_sound {C : SpecT α} (hC : SpecOK P C) (q : FuncId → Bool) : CallOK P (callC C q) := by
  intro f args st0 k res he base w0 ks a w c xs h0 hl0 hh0
  -- the arguments, and rows that are frozen
  have h1 := h0.pushS hl0 hh0
  have hfr : ∀ rs, ∃ c1, Rel base w0 (xs :: ks) (if q f then ({ st0 with s := args :: st0.s } : St) else ({ st0 with s := args :: st0.s } : St).frzs rs) a w c1 := by
    intro rs
    cases q f with
    | true => exact ⟨c, h1⟩
    | false =>
      obtain ⟨c1, h2, _⟩ := h1.frzs rs
      exact ⟨c1, h2⟩
  unfold callC at he
  simp only at he
  obtain ⟨c1, h2⟩ := hfr (args.flatMap V.owns' ++ (boxesOf args).flatMap fun r => ownsB st0.h[r]?)
  revert he h2
  generalize (if q f then ({ st0 with s := args :: st0.s } : St) else ({ st0 with s := args :: st0.s } : St).frzs (args.flatMap V.owns' ++ (boxesOf args).flatMap fun r => ownsB st0.h[r]?)) = st1
  intro he h2
  split at he
  · cases he
  rename_i as ss hs1
  obtain ⟨h, hl, hh⟩ := h2.pop hs1
  split at he <;> (try cases he)
  rename_i hchk
  obtain ⟨hn, hbx⟩ := hchk
  rw [List.all_eq_true] at hbx
  have hb : ∀ r ∈ boxesOf as, ∃ cs, st1.h[r]? = some (.box cs) := by
    intro r hr
    have := hbx r hr
    cases e : st1.h[r]? with
    | none => rw [e] at this; cases this
    | some b =>
      cases b with
      | box cs => exact ⟨cs, rfl⟩
      | _ => rw [e] at this; cases this
  have hent := h.enter hl hh (q f) hn hb
  refine (hC _ _ _ _ _ he _ _ _ hent).mono ?_
  rintro e w' ⟨x, v, hs, c2, rfl, hk, hrel⟩
  clear he hC
  generalize hcc : c1.cut st1.h (boxesOf as) (q f) = cc at *
  have hccm : cc.m = (boxesOf as).length := by rw [← hcc]; rfl
  split at hk
  · cases hk
  rename_i hok
  split at hk <;> (try cases hk)
  rename_i h' hset
  have hrows : ∀ (i : Nat) b, (hs.drop (boxesOf as).length)[i]? = some b → isRow b = true := by
    intro i b hb
    have : (hs.drop (boxesOf as).length).all isRow = true := by
      cases e : (hs.drop (boxesOf as).length).all isRow with
      | true => rfl
      | false => rw [e] at hok; simp at hok
    rw [List.all_eq_true] at this
    exact this b (List.mem_of_getElem? hb)
  have hquiet : q f = true → cleanV dep v = true ∧ hs.length = (boxesOf as).length ∧ ∀ b ∈ hs, cleanB b = true := by
    intro hq
    rw [hq] at hok
    simp only [Bool.true_and, Bool.or_eq_true, Bool.not_eq_true', not_or, Bool.not_eq_false, Bool.and_eq_true, decide_eq_true_eq, List.all_eq_true] at hok
    exact ⟨hok.1.1.1, hok.1.1.2, hok.1.2⟩
  obtain ⟨hlen', hset1, hset2⟩ := setBoxes_spec _ _ _ _ hn (fun r hr => by obtain ⟨cs, hcs⟩ := hb r hr; exact (List.getElem?_eq_some_iff.1 hcs).1) hset
  have hc1m : c1.m = st1.h.length := h.hm
  have hc2m : c2.m = hs.length := hrel.hm
  -- the boxes
  have hrj : ∀ j, j < (boxesOf as).length → ∃ r kb, (boxesOf as)[j]? = some r ∧ r < c1.m ∧ c1.ρ r = .pointer (some ⟨kb, 0, none⟩) ∧ c1.o r = some kb ∧ cc.o j = some kb ∧ j < c2.m ∧ c2.ρ j = .pointer (some ⟨kb, 0, none⟩) ∧ c2.o j = some kb := by
    intro j hj
    obtain ⟨cs, hcs⟩ := hb _ (List.getElem_mem hj)
    obtain ⟨hrm, hB⟩ := h.at hcs
    have hccρ : cc.ρ j = c1.ρ (boxesOf as)[j] := by rw [← hcc]; show c1.ρ ((boxesOf as).getD j 0) = _; rw [rs_get hj]
    have hcco : cc.o j = c1.o (boxesOf as)[j] := by rw [← hcc]; show c1.o ((boxesOf as).getD j 0) = _; rw [rs_get hj]
    cases hB with
    | box _ ty kb ys hρ ho hk' hl' h1' hh' =>
      obtain ⟨p1, p2, p3⟩ := hrel.pn j kb (by simp only [baseOf, hccm, hj, if_true, hcco, ho])
      exact ⟨_, kb, List.getElem?_eq_getElem hj, hrm, hρ, ho, hcco.trans ho, p1, p2, p3⟩
  have hge2 : (boxesOf as).length ≤ hs.length := by
    rw [← hc2m]
    rcases Nat.eq_zero_or_pos (boxesOf as).length with e | e
    · omega
    · obtain ⟨_, _, _, _, _, _, _, p, _⟩ := hrj ((boxesOf as).length - 1) (by omega)
      omega
  have hKd : ∀ k, ¬ (baseOf w cc).K k → k < w.heap.size → ∃ j r, j < (boxesOf as).length ∧ (boxesOf as)[j]? = some r ∧ r < c1.m ∧ c1.o r = some k ∧ j < c2.m ∧ c2.o j = some k := by
    intro k hK hlt
    simp only [baseOf, hccm, not_and, Classical.not_forall, Classical.not_not] at hK
    obtain ⟨j, hj, hjk⟩ := hK hlt
    obtain ⟨r, kb, e1, e2, e3, e4, e5, e6, e7, e8⟩ := hrj j hj
    rw [e5] at hjk
    cases hjk
    exact ⟨j, r, hj, e1, e2, e4, e6, e8⟩
  have hKc : ∀ k, base.K k → (baseOf w cc).K k := by
    intro k hk
    refine ⟨h.base_le k hk, fun j hj ho => ?_⟩
    obtain ⟨r, kb, _, e2, _, e4, e5, _⟩ := hrj j (by rw [hccm] at hj; exact hj)
    rw [e5] at ho
    cases ho
    exact h.ge r k e2 e4 hk
  have hKF : ∀ k, c1.F k → (baseOf w cc).K k := by
    intro k hk
    refine ⟨h.lt k hk, fun j hj ho => ?_⟩
    obtain ⟨r, kb, _, e2, _, e4, e5, _⟩ := hrj j (by rw [hccm] at hj; exact hj)
    rw [e5] at ho
    cases ho
    exact h.nF r k e2 e4 hk
  have hS : Same c1.F w w' := fun k hk => hrel.bel.block k (hKF k hk)
  have hown : ∀ r k, r < c1.m → c1.o r = some k → r ∉ boxesOf as → w'.heap[k]? = w.heap[k]? := by
    intro r k hr ho hnr
    refine hrel.bel.block k ⟨h.owned_lt hr ho, fun j hj hjo => ?_⟩
    obtain ⟨r', kb, e1, e2, _, e4, e5, _⟩ := hrj j (by rw [hccm] at hj; exact hj)
    rw [e5] at hjo
    cases hjo
    have := h.inj r r' k hr e2 ho e4
    subst this
    exact hnr (List.mem_of_getElem? e1)
  -- where the local heap lies now
  let c3 : Cx := { F := fun k => c1.F k ∨ (q f = false ∧ c2.F k), ρ := fun r => if r < c1.m then c1.ρ r else c2.ρ (r - c1.m + (boxesOf as).length), o := fun r => if r < c1.m then c1.o r else c2.o (r - c1.m + (boxesOf as).length), m := c1.m + (hs.length - (boxesOf as).length) }
  have hF13 : ∀ k, c1.F k → c3.F k := fun k hk => .inl hk
  have hm13 : c1.m ≤ c3.m := Nat.le_add_right _ _
  have hρ13 : ∀ r, r < c1.m → c3.ρ r = c1.ρ r := fun r hr => by show (if r < c1.m then _ else _) = _; rw [if_pos hr]
  have ho13 : ∀ r, r < c1.m → c3.o r = c1.o r := fun r hr => by show (if r < c1.m then _ else _) = _; rw [if_pos hr]
  have hρ23 : ∀ r, ¬ r < c1.m → c3.ρ r = c2.ρ (r - c1.m + (boxesOf as).length) := fun r hr => by show (if r < c1.m then _ else _) = _; rw [if_neg hr]
  have ho23 : ∀ r, ¬ r < c1.m → c3.o r = c2.o (r - c1.m + (boxesOf as).length) := fun r hr => by show (if r < c1.m then _ else _) = _; rw [if_neg hr]
  have up : ∀ {v x}, Rv w c1 v x → Rv w' c3 v x := fun hv => hv.mono hS hF13 hm13 hρ13
  have hback : ∀ u y, (q f = true → cleanV dep u = true) → Rv w' c2 u y → Rv w' c3 (u.sub (backV (boxesOf as).length st1.h.length) dep) y := by
    intro u y hcl hu
    cases hq : q f with
    | true =>
      refine clean_sub (fun r z hr => ?_) dep u y (hcl hq) hu
      obtain ⟨hr2, _⟩ := hr.own_inv
      have := (hquiet hq).2.1
      simp only [backV]
      rw [if_pos (by omega)]
    | false =>
      refine Rv.sub (w := w') (c' := c3) (Same.refl _ _) (fun k hk => show c3.F k from .inr ⟨hq, hk⟩) ?_ dep u y hu
      refine loc_cases ?_ ?_ ?_ ?_
      · intro r z hv
        obtain ⟨hr, rfl, A, n, cap, he⟩ := hv.own_inv
        simp only [backV]
        split
        · exact .dead _ _ _
        · rename_i hge
          have e3 : c3.ρ (r - (boxesOf as).length + st1.h.length) = c2.ρ r := by
            rw [hρ23 _ (by omega)]
            congr 1
            omega
          rw [he]
          exact .own _ (by show _ < c1.m + _; omega) A n cap (e3.trans he)
      · intro r off z _; exact .dead _ _ _
      · intro r sz i off z _; exact .dead _ _ _
      · intro r z _; exact .dead _ _ _
  have hv0 : Rv w' c2 v x := hrel.tm 0 v x rfl rfl
  refine ⟨x, _, _, c3, rfl, hk, ?_, hback v x (fun hq => (hquiet hq).1) hv0⟩
  refine ⟨h.len, fun i u y hu hy => up (h.tm i u y hu hy), h.ls, fun i vs ys hv hx => ⟨(h.sv i vs ys hv hx).1, fun j u y hu hy => up ((h.sv i vs ys hv hx).2 j u y hu hy)⟩, ?_, ?_, ?_, ?_, ?_, ?_, ?_, h.dn, h.bs, ?_, ?_⟩
  · show c1.m + (hs.length - (boxesOf as).length) = (h' ++ hs.drop (boxesOf as).length).length
    simp [hlen', hc1m]
  · intro r b hbr
    have hbr : (h' ++ hs.drop (boxesOf as).length)[r]? = some b := hbr
    by_cases hr : r < c1.m
    · rw [List.getElem?_append_left (by omega)] at hbr
      by_cases hmem : r ∈ boxesOf as
      · obtain ⟨i, hi⟩ := List.getElem?_of_mem hmem
        have hil : i < (boxesOf as).length := (List.getElem?_eq_some_iff.1 hi).1
        obtain ⟨cs, hcs, hcs'⟩ := hset2 i r hi
        rw [hcs'] at hbr
        cases hbr
        obtain ⟨r', kb, e1, e2, e3, e4, e5, e6, e7, e8⟩ := hrj i hil
        rw [hi] at e1
        cases e1
        have hB := hrel.hp i _ hcs
        cases hB with
        | box _ ty k' ys hρ ho hk' hl' h1' hh' =>
          rw [e8] at ho
          cases ho
          refine .box _ ty kb ys ((hρ13 r hr).trans e3) ((ho13 r hr).trans e4) hk' (by simpa using hl') h1' fun i' u y hu hy => ?_
          obtain ⟨z, hz, rfl⟩ := getElem?_map_some hu
          refine hback z y (fun hq => ?_) (hh' i' z y hz hy)
          have := (hquiet hq).2.2 _ (List.mem_of_getElem? hcs)
          simp only [cleanB, List.all_eq_true] at this
          exact this z (List.mem_of_getElem? hz)
      · rw [hset1 r hmem] at hbr
        exact (h.hp r b hbr).mono hS hF13 hm13 hρ13 (fun k ho => hown r k hr ho hmem) hr (ho13 r hr)
    · rw [List.getElem?_append_right (by omega)] at hbr
      have hrow := hrows _ b hbr
      rw [List.getElem?_drop] at hbr
      have hlt := (List.getElem?_eq_some_iff.1 hbr).1
      have hq : q f = false := by
        cases hq : q f with
        | false => rfl
        | true => have := (hquiet hq).2.1; omega
      have e : (boxesOf as).length + (r - h'.length) = r - c1.m + (boxesOf as).length := by omega
      rw [e] at hbr
      exact (hrel.hp _ b hbr).shift (c' := c3) hrow (Same.refl _ _) (fun k hk => show c3.F k from .inr ⟨hq, hk⟩) (fun _ _ => rfl) (hρ23 r hr) (ho23 r hr)
  · intro r s k hr hs' hkr hks
    have hr : r < c1.m + (hs.length - (boxesOf as).length) := hr
    have hs' : s < c1.m + (hs.length - (boxesOf as).length) := hs'
    have cross : ∀ r s, r < c1.m → c1.o r = some k → (boxesOf as).length ≤ s → s < c2.m → c2.o s = some k → False := by
      intro r s hr ho hs1 hs2 ho2
      obtain ⟨j, r', hj, _, _, _, hj2, ho3⟩ := hKd k (hrel.ge s k hs2 ho2) (h.owned_lt hr ho)
      have := hrel.inj s j k hs2 hj2 ho2 ho3
      omega
    by_cases e1 : r < c1.m <;> by_cases e2 : s < c1.m
    · exact h.inj r s k e1 e2 (ho13 r e1 ▸ hkr) (ho13 s e2 ▸ hks)
    · exact (cross r _ e1 (ho13 r e1 ▸ hkr) (by omega) (by omega) (ho23 s e2 ▸ hks)).elim
    · exact (cross s _ e2 (ho13 s e2 ▸ hks) (by omega) (by omega) (ho23 r e1 ▸ hkr)).elim
    · have := hrel.inj _ _ k (by omega) (by omega) (ho23 r e1 ▸ hkr) (ho23 s e2 ▸ hks)
      omega
  · intro r k hr hkr hK
    have hr : r < c1.m + (hs.length - (boxesOf as).length) := hr
    by_cases e1 : r < c1.m
    · exact h.ge r k e1 (ho13 r e1 ▸ hkr) hK
    · exact hrel.ge _ k (by omega) (ho23 r e1 ▸ hkr) (hKc k hK)
  · intro r k hr hkr hf
    have hr : r < c1.m + (hs.length - (boxesOf as).length) := hr
    by_cases e1 : r < c1.m
    · have ho := ho13 r e1 ▸ hkr
      rcases hf with hf | ⟨hq, hf⟩
      · exact h.nF r k e1 ho hf
      · rcases hrel.ff k hf with hf' | hf'
        · have : cc.F k := hf'
          rw [← hcc] at this
          rcases this with hf'' | ⟨hq', _⟩
          · exact h.nF r k e1 ho hf''
          · rw [hq] at hq'; cases hq'
        · obtain ⟨j, r', hj, _, _, _, hj2, ho3⟩ := hKd k hf' (h.owned_lt e1 ho)
          exact hrel.nF j k hj2 ho3 hf
    · have ho := ho23 r e1 ▸ hkr
      rcases hf with hf | ⟨hq, hf⟩
      · exact hrel.ge _ k (by omega) ho (hKF k hf)
      · exact hrel.nF _ k (by omega) ho hf
  · rintro k (hk' | ⟨_, hk'⟩)
    · exact Nat.lt_of_lt_of_le (h.lt k hk') hrel.bel.size
    · exact hrel.lt k hk'
  · exact h.bel.trans (hrel.bel.mono hKc)
  · rintro k (hk' | ⟨hq, hk'⟩)
    · exact h.ff k hk'
    · rcases hrel.ff k hk' with hf' | hf'
      · have : cc.F k := hf'
        rw [← hcc] at this
        rcases this with hf'' | ⟨hq', _⟩
        · exact h.ff k hf''
        · rw [hq] at hq'; cases hq'
      · exact .inr fun hK => hf' (hKc _ hK)
  · intro j k hj
    obtain ⟨p1, p2, p3⟩ := h.pn j k hj
    exact ⟨Nat.lt_of_lt_of_le p1 hm13, (hρ13 j p1).trans p2, (ho13 j p1).trans p3⟩
end
end Go.Rv
