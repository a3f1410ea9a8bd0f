/- Rv, part Le: the evaluator's control is right. Of no program. -/
import Derived.Test.YtmoeohjaafpmgaaRvLs
set_option linter.unusedVariables false
set_option linter.unusedSimpArgs false
set_option linter.unusedSectionVars false
namespace Go.Rv
open Go Go.RowKit
variable [Fx]
section
variable {P : Program} {α : Type} {res : α} {base : Base} {w0 : World} {ks : List (Array Value)} {st : St} {a : Act} {w : World} {c : Cx}

def X.out : X → Exit
  | .normal => .normal
  | .ret => .ret
  | .exit i => .exit i

/-- What holds behind a piece of code, as the evaluator goes on. -/
def After (base : Base) (w0 : World) (ks : List (Array Value)) (res : α) (k : X → St → Option α) (Q : Exit → Act → World → Prop) : Prop :=
  ∀ x st a w c, k x st = some res → Rel base w0 ks st a w c → Q x.out a w

/-- What is known of the loops of a code holds. -/
def LoopOK (P : Program) (call : CallT α) (L : List Bool → Option (LoopT α)) (N : Nat) (ann : AnnT) (root : Code) : Prop :=
  ∀ p c g, loopAt root p.reverse = some c → L p = some g → ∀ st k (res : α), g st k = some res →
    loopN (evCode P call L N ann (false :: p) c) ((ann p).head st.h.length) ((ann p).leave st.h.length) N st k = some res

/-- A temporary is told anew. -/
theorem Rel.tell (h : Rel base w0 ks st a w c) {t : Nat} {v : V} (hv : ∀ x, a.tmps[t]? = some x → Rv w c v x) : Rel base w0 ks { st with t := st.t.set t v } a w c := by
  refine ⟨by simpa using h.len, fun i u x hu0 hx => ?_, h.ls, h.sv, h.hm, h.hp, h.inj, h.ge, h.nF, h.lt, h.bel, h.dn, h.bs, h.ff, h.pn⟩
  have hu : (st.t.set t v)[i]? = some u := hu0
  clear hu0
  rw [List.getElem?_set] at hu
  split at hu
  · rename_i e
    subst e
    split at hu <;> (try cases hu)
    exact hv x hx
  · exact h.tm i u x hu hx
/-- A box's cell is told anew. -/
theorem Rel.tellB (h : Rel base w0 ks st a w c) {r j : Nat} {cs : List V} {v : V} (hb : st.h[r]? = some (.box cs)) (hv : ∀ u x, cs[j]? = some u → Rv w c u x → Rv w c v x) : Rel base w0 ks { st with h := st.h.set r (.box (cs.set j v)) } a w c := by
  refine ⟨h.len, h.tm, h.ls, h.sv, by simpa using h.hm, fun s b hs0 => ?_, h.inj, h.ge, h.nF, h.lt, h.bel, h.dn, h.bs, h.ff, h.pn⟩
  have hs : (st.h.set r (.box (cs.set j v)))[s]? = some b := hs0
  clear hs0
  rw [List.getElem?_set] at hs
  split at hs
  · rename_i e
    subst e
    split at hs <;> (try cases hs)
    have hB := h.hp r _ hb
    cases hB with
    | box _ ty k xs hρ ho hk hl h1 hh =>
      refine .box _ ty k xs hρ ho hk (by simpa using hl) h1 fun i u x hu hx => ?_
      rw [List.getElem?_set] at hu
      split at hu
      · rename_i e
        subst e
        split at hu <;> (try cases hu)
        rename_i hlt
        exact hv _ x (List.getElem?_eq_getElem hlt) (hh j _ x (List.getElem?_eq_getElem hlt) hx)
      · exact hh i u x hu hx
  · exact h.hp s b hs
theorem nil_of {sz n : Nat} {g : Cells} {x : Value} (h : Rv w c (.sl true sz n g) x) : x = .slice none 0 0 := by
  cases h with
  | im _ _ hd => cases hd; rfl
theorem Rv.push_own (h : Rel base w0 ks st a w c) : Rv w (c.push (.slice none 0 0) none) (.own st.h.length) (.slice none 0 0) := by
  rw [← h.hm]
  exact .own c.m (by simp [Cx.push]) none 0 0 (by simp [Cx.push])
theorem Rel.thaw : ∀ (ts : List Nat) {st : St} {c : Cx}, Rel base w0 ks st a w c → ∃ c', Rel base w0 ks (st.thaw ts) a w c'
  | [], st, c, h => ⟨c, h⟩
  | t :: ts, st, c, h => by
    unfold St.thaw
    split
    · rename_i sz n g ht
      split
      · rename_i hz
        have hp := h.pushNone (.slice none 0 0) (b := .row true true sz 0 g) (.rowNil true sz g hz.1 (by simp [Cx.push]) (by simp [Cx.push]))
        refine Rel.thaw ts (hp.tell (t := t) (v := .own st.h.length) fun x hx => ?_)
        rw [nil_of (h.tm t _ x ht hx)]
        exact Rv.push_own h
      · exact Rel.thaw ts h
    · exact Rel.thaw ts h
theorem Rel.thawB : ∀ (ts : List (Nat × Nat)) {st : St} {c : Cx}, Rel base w0 ks st a w c → ∃ c', Rel base w0 ks (st.thawB ts) a w c'
  | [], st, c, h => ⟨c, h⟩
  | (r, j) :: ts, st, c, h => by
    unfold St.thawB
    split
    · rename_i cs hb
      split
      · rename_i sz n g hj
        split
        · rename_i hz
          have hp := h.pushNone (.slice none 0 0) (b := .row true true sz 0 g) (.rowNil true sz g hz.1 (by simp [Cx.push]) (by simp [Cx.push]))
          have hr : r < st.h.length := (List.getElem?_eq_some_iff.1 hb).1
          have := hp.tellB (r := r) (j := j) (cs := cs) (v := .own st.h.length) (by show (st.h ++ _)[r]? = _; rw [List.getElem?_append_left hr]; exact hb) (fun u x hu hux => by
            rw [hj] at hu
            cases hu
            rw [nil_of hux]
            exact Rv.push_own h)
          have e : (st.h ++ [B.row true true sz 0 g]).set r (.box (cs.set j (.own st.h.length))) = st.h.set r (.box (cs.set j (.own st.h.length))) ++ [B.row true true sz 0 g] := by
            rw [List.set_append, if_pos hr]
          simp only [e] at this
          exact Rel.thawB ts this
        · exact Rel.thawB ts h
      · exact Rel.thawB ts h
    · exact Rel.thawB ts h

theorem evCode_sound {call : CallT α} (hcall : CallOK P call) {L : List Bool → Option (LoopT α)} {N : Nat} {ann : AnnT} {root : Code} (hL : LoopOK P call L N ann root) {base : Base} {w0 : World} {ks : List (Array Value)} :
    ∀ (code : Code) (p : List Bool), (∀ q, loopAt root (p.reverse ++ q) = loopAt code q) → ∀ (st : St) (a : Act) (w : World) (c : Cx) (k : X → St → Option α) (Q : Exit → Act → World → Prop),
    Rel base w0 ks st a w c → evCode P call L N ann p code st k = some res → After base w0 ks res k Q → code.wp P Q a w := by
  intro code
  induction code with
  | skip => intro p hp st a w c k Q h he hQ; exact wp_skip (hQ .normal st a w c he h)
  | label l => intro p hp st a w c k Q h he hQ; exact wp_label (hQ .normal st a w c he h)
  | region id ops draw =>
    intro p hp st a w c k Q h he hQ
    simp only [evCode] at he
    split at he
    · rename_i hd
      subst hd
      split at he
      · exact evRegion_sound hcall h he fun st' a' w' c' hk hr => hQ .normal st' a' w' c' hk hr
      · exact evLive_sound hcall h he fun st' a' w' c' hk hr => hQ .normal st' a' w' c' hk hr
      · exact evLive_sound hcall h he fun st' a' w' c' hk hr => hQ .normal st' a' w' c' hk hr
    · rename_i hd
      have hd : draw = false := by simpa using hd
      subst hd
      refine wp_region ?_
      have := evOps_sound (P := P) hcall (Q := Q) (fun st' a' w' c' hk hr => hQ .normal st' a' w' c' hk hr) ops.toList 0 (by simp) st a w c h he
      simpa [List.range_eq_range'] using this
  | seq x y ihx ihy =>
    intro p hp st a w c k Q h he hQ
    simp only [evCode] at he
    split at he
    · refine wp_seq (ihx (false :: p) (fun q => by rw [List.reverse_cons, List.append_assoc, hp]; rfl) st a w c _ _ h he ?_)
      intro e st' a' w' c' hk hr
      cases e with
      | normal => exact ihy (true :: p) (fun q => by rw [List.reverse_cons, List.append_assoc, hp]; rfl) st' a' w' c' k Q hr hk hQ
      | ret => exact hQ .ret st' a' w' c' hk hr
      | exit j => exact hQ (.exit j) st' a' w' c' hk hr
    · rename_i j hj
      simp only [joinD] at he
      have hpin : ∀ i q, base.pin i = some q → i < st.h.length := fun i q hi => by rw [← h.hm]; exact (h.pn i q hi).1
      refine wp_seq (ihx (false :: p) (fun q => by rw [List.reverse_cons, List.append_assoc, hp]; rfl) st a w c _ _ h he ?_)
      intro e st' a' w' c' hk hr
      cases e with
      | normal =>
        simp only at hk
        split at hk <;> (try cases hk)
        rename_i ds hds
        obtain ⟨c2, h2, _⟩ := hr.head (ann p).keep (ann p).rows st.h.length hpin
        rw [encSt_dec hds] at hk
        exact ihy (true :: p) (fun q => by rw [List.reverse_cons, List.append_assoc, hp]; rfl) _ a' w' c2 k Q h2 hk hQ
      | ret => exact hQ .ret st' a' w' c' hk hr
      | exit j => exact hQ (.exit j) st' a' w' c' hk hr
  | cond oc x y ihx ihy =>
    intro p hp st a w c k Q h he hQ
    simp only [evCode] at he
    split at he
    · rename_i t et
      have hc := h.ev oc
      rw [et] at hc
      refine wp_cond hc.bool_inv ?_
      cases t with
      | true => exact ihx (false :: p) (fun q => by rw [List.reverse_cons, List.append_assoc, hp]; rfl) st a w c k Q h he hQ
      | false => exact ihy (true :: p) (fun q => by rw [List.reverse_cons, List.append_assoc, hp]; rfl) st a w c k Q h he hQ
    · cases he
  | block id x ih =>
    intro p hp st a w c k Q h he hQ
    simp only [evCode] at he
    refine wp_block (ih p (fun q => hp q) st a w c _ _ h he ?_)
    intro e st' a' w' c' hk hr
    cases e with
    | normal => exact hQ .normal st' a' w' c' hk hr
    | ret => exact hQ .ret st' a' w' c' hk hr
    | exit j =>
      show (if j = id then Q .normal a' w' else Q (.exit j) a' w')
      simp only at hk
      split at hk
      · rename_i e; rw [if_pos e]; exact hQ .normal st' a' w' c' hk hr
      · rename_i e; rw [if_neg e]; exact hQ (.exit j) st' a' w' c' hk hr
  | loop x ih =>
    intro p hp st0 a w c0 k Q h0 he hQ
    simp only [evCode] at he
    obtain ⟨c1, h1⟩ := Rel.thaw (ann p).thaw h0
    obtain ⟨c, h⟩ := Rel.thawB (ann p).thawB h1
    clear h1
    revert he h
    generalize (st0.thaw (ann p).thaw).thawB (ann p).thawB = st
    intro he h
    have hpin : ∀ j q, base.pin j = some q → j < st.h.length := fun j q hj => by rw [← h.hm]; exact (h.pn j q hj).1
    have hpl : loopAt root p.reverse = some x := by have := hp []; rw [List.append_nil] at this; rw [this]; rfl
    obtain ⟨c1, h1, _⟩ := h.head (ann p).keep (ann p).rows st.h.length hpin
    have hlen : ((ann p).head st.h.length st).h.length = st.h.length := by
      have hgl : ∀ (l : List B) (i : Nat), (goneB (ann p).rows i l).length = l.length := by
        intro l
        induction l with
        | nil => intro i; rfl
        | cons v l ih => intro i; simp [goneB, ih]
      simp [Ann.head, St.head, St.trim, St.sub, hgl]
    have he : loopN (evCode P call L N ann (false :: p) x) ((ann p).head st.h.length) ((ann p).leave st.h.length) N (st.head (ann p).keep (ann p).rows st.h.length) k = some res := by
      split at he
      · rename_i g hg
        have := hL p x g hpl hg _ _ res he
        rwa [hlen] at this
      · exact he
    have hQ2 : ∀ e, e ≠ .normal → ∀ s a w c, k e ((ann p).leave st.h.length e s) = some res → Rel base w0 ks s a w c → Q e.out a w := by
      intro e hne s a w c hk hr
      cases e with
      | normal => exact (hne rfl).elim
      | ret =>
        obtain ⟨c2, h2, _⟩ := hr.head (ann p).ret (ann p).rows st.h.length hpin
        exact hQ .ret _ a w c2 hk h2
      | exit j =>
        obtain ⟨c2, h2, _⟩ := hr.head (ann p).out (ann p).rows st.h.length hpin
        exact hQ (.exit j) _ a w c2 hk h2
    refine wp_loop_rounds N ?_
    have key : ∀ (n : Nat) (s : St) (a : Act) (w : World) (c : Cx), Rel base w0 ks s a w c → loopN (evCode P call L N ann (false :: p) x) ((ann p).head st.h.length) ((ann p).leave st.h.length) n s k = some res → Code.rounds P x Q n a w := by
      intro n
      induction n with
      | zero => intro s a w c _ he; cases he
      | succ n ihn =>
        intro s a w c hr he
        simp only [loopN] at he
        refine ih (false :: p) (fun q => by rw [List.reverse_cons, List.append_assoc, hp]; rfl) s a w c _ _ hr he ?_
        intro e st' a' w' c' hk hr'
        cases e with
        | ret => exact hQ2 .ret (by simp) st' a' w' c' hk hr'
        | exit j => exact hQ2 (.exit j) (by simp) st' a' w' c' hk hr'
        | normal =>
          show Code.rounds P x Q n a' w'
          obtain ⟨c2, h2, _⟩ := hr'.head (ann p).keep (ann p).rows st.h.length hpin
          exact ihn _ a' w' c2 h2 hk
    exact key N _ a w c1 h1 he
  | exit id => intro p hp st a w c k Q h he hQ; exact wp_exit (hQ (.exit id) st a w c he h)
  | ret => intro p hp st a w c k Q h he hQ; exact wp_ret (hQ .ret st a w c he h)
  | scope x ih =>
    intro p hp st a w c k Q h he hQ
    refine wp_scope_straight (ih p (fun q => hp q) st a w c k _ h he ?_)
    intro e st' a' w' c' hk hr
    cases e with
    | normal => exact hQ .normal st' a' w' c' hk hr
    | ret => exact hQ .ret st' a' w' c' hk hr
    | exit j => exact hQ (.exit j) st' a' w' c' hk hr
  | goto l => intro p hp st a w c k Q h he hQ; simp [evCode] at he
  | rangeFunc f ps x y ihx ihy => intro p hp st a w c k Q h he hQ; simp [evCode] at he
  | refuse why => intro p hp st a w c k Q h he hQ; simp [evCode] at he

end
end Go.Rv
