/- Rv, part O: values told apart by their shapes; loops and functions of which something is known. Of no program. -/
import Derived.Test.YtmoeohjaafpmgaaRvN
set_option linter.unusedVariables false
set_option linter.unusedSimpArgs false
set_option linter.unusedSectionVars false
namespace Go.Rv
open Go Go.RowKit
variable [Fx]

section
variable {α : Type}
/-- What is known of a loop: of which function it is, how deep that one is gone through, the states it is known of, and what it does. -/
structure LoopSpec (α : Type) where
  d : Nat
  f : FuncId
  p : List Bool
  t : List Sh
  s : List (List Sh)
  h : List BSh
  run : List Dyn → (X → St → Option α) → Option α
def LoopSpec.g (sp : LoopSpec α) : LoopT α := fun st k => match decSt sp.t sp.s sp.h st with | some ds => sp.run ds k | none => none
def findL (l : List (LoopSpec α)) (d : Nat) (f : FuncId) (p : List Bool) : Option (LoopT α) := match l with | [] => none | sp :: l => if Nat.beq sp.d d && Nat.beq sp.f f && decide (sp.p = p) then some sp.g else findL l d f p

/-- What is known of a function. -/
structure FunSpec (α : Type) where
  f : FuncId
  args : List Sh
  bs : List BSh
  run : List Dyn → (V → List B → Option α) → Option α
def FunSpec.g (sp : FunSpec α) (args : List V) (bs : List B) (k : V → List B → Option α) : Option α :=
  match decL (dec dep) sp.args args, decBs sp.bs bs with
  | some x, some y => sp.run (x ++ y) k
  | _, _ => none
/-- The first that fits. -/
def specC (l : List (FunSpec α)) : SpecT α := fun f args bs k =>
  match l with
  | [] => none
  | sp :: l => if sp.f = f then (match decL (dec dep) sp.args args, decBs sp.bs bs with | some x, some y => sp.run (x ++ y) k | _, _ => specC l f args bs k) else specC l f args bs k

variable (P : Program)
def loopC (f : FuncId) (p : List Bool) : Code := match P.funcs[f]? with | some fn => (match fn.body with | some b => (loopAt b p.reverse).getD .skip | none => .skip) | none => .skip

/-- A function's surroundings: what is called is known by C or gone through; its loops are known by l. -/
def envOf (C : List (FunSpec α)) (q inl : FuncId → Bool) (N : Nat) (ann : FuncId → AnnT) (fr : Bool) (l : List (LoopSpec α)) (hk : FuncId → Option Hook) : Env α :=
  ⟨specC C, q, inl, N, ann, findL l, fr, hk⟩

variable {P}
/-- What must be so of a loop. -/
def LoopSpec.ok (P : Program) (E : Env α) (sp : LoopSpec α) : Prop :=
  ∀ ds k, loopN (evCode P (callD P E sp.d) (E.L sp.d sp.f) E.N (E.ann sp.f) (false :: sp.p) (loopC P sp.f sp.p)) ((E.ann sp.f sp.p).head (encSt sp.t sp.s sp.h ds).h.length) ((E.ann sp.f sp.p).leave (encSt sp.t sp.s sp.h ds).h.length) E.N (encSt sp.t sp.s sp.h ds) k = sp.run ds k

theorem loopsOK {C : List (FunSpec α)} {q inl : FuncId → Bool} {N : Nat} {ann : FuncId → AnnT} {fr : Bool} {l : List (LoopSpec α)} {hk : FuncId → Option Hook} (h : ∀ sp ∈ l, sp.ok P (envOf C q inl N ann fr l hk)) :
    LoopsOK P (envOf C q inl N ann fr l hk) := by
  intro d f' fn body hf hb p c g hc hg st k res he
  simp only [envOf] at hg
  have key : ∀ l' : List (LoopSpec α), findL l' d f' p = some g → ∃ sp ∈ l', sp.d = d ∧ sp.f = f' ∧ sp.p = p ∧ g = sp.g := by
    intro l'
    induction l' with
    | nil => intro hg; cases hg
    | cons sp l' ih =>
      intro hg
      simp only [findL] at hg
      split at hg
      · rename_i e
        simp only [Bool.and_eq_true, Nat.beq_eq, decide_eq_true_eq] at e
        cases hg
        exact ⟨sp, List.mem_cons_self, e.1.1, e.1.2, e.2, rfl⟩
      · obtain ⟨sp', h1, h2, h3, h4, h5⟩ := ih hg
        exact ⟨sp', List.mem_cons_of_mem _ h1, h2, h3, h4, h5⟩
  obtain ⟨sp, hsp, rfl, rfl, rfl, rfl⟩ := key l hg
  simp only [LoopSpec.g] at he
  split at he <;> (try cases he)
  rename_i ds hds
  have := h sp hsp ds k
  rw [encSt_dec hds] at this
  have hlc : loopC P sp.f sp.p = c := by simp only [loopC, hf, hb, hc, Option.getD_some]
  rw [hlc] at this
  exact this.trans he

/-- What must be so of a function. -/
def FunSpec.ok (P : Program) (sp : FunSpec α) : Prop :=
  ∀ ds k (res : α), sp.run ds k = some res → FunOK P sp.f (encL (enc dep) sp.args ds).1 (encBs sp.bs (encL (enc dep) sp.args ds).2).1 fun v hs => k v hs = some res

theorem specC_ok : ∀ (l : List (FunSpec α)), (∀ sp ∈ l, sp.ok P) → SpecOK P (specC l) := by
  intro l
  induction l with
  | nil => intro _ f args bs k res he; cases he
  | cons sp l ih =>
    intro h f args bs k res he
    have hrest : ∀ {k res}, specC l f args bs k = some res → FunOK P f args bs fun v hs => k v hs = some res := fun he => ih (fun sp hsp => h sp (List.mem_cons_of_mem _ hsp)) f args bs _ _ he
    simp only [specC] at he
    split at he
    · rename_i e
      subst e
      split at he
      · rename_i x y hx hy
        have h1 := encL_dec (enc_dec dep) _ _ _ hx y
        have h2 := encBs_dec _ _ _ hy []
        rw [List.append_nil] at h2
        have := h sp List.mem_cons_self (x ++ y) k res he
        rw [h1] at this
        simp only [h2] at this
        exact this
      · exact hrest he
    · exact hrest he

/-- What the code gives is what is told of it. -/
def EvOk (P : Program) (E : Env α) (D : Nat) (sp : FunSpec α) : Prop := ∀ ds k, evFun P E D sp.f (encL (enc dep) sp.args ds).1 (encBs sp.bs (encL (enc dep) sp.args ds).2).1 k = sp.run ds k
/-- A function by its code. -/
theorem FunSpec.ok_of {sp : FunSpec α} {C : List (FunSpec α)} {q inl : FuncId → Bool} {N : Nat} {ann : FuncId → AnnT} {fr : Bool} {D : Nat} {l : List (LoopSpec α)} {hk : FuncId → Option Hook} (hC : ∀ sp ∈ C, sp.ok P) (hl : ∀ s ∈ l, s.ok P (envOf C q inl N ann fr l hk)) (hH : HooksOK P hk)
    (h : ∀ ds k, evFun P (envOf C q inl N ann fr l hk) D sp.f (encL (enc dep) sp.args ds).1 (encBs sp.bs (encL (enc dep) sp.args ds).2).1 k = sp.run ds k) : sp.ok P := by
  intro ds k res he
  exact evFun_sound (envOf C q inl N ann fr l hk) (specC_ok C hC) (loopsOK hl) hH ((h ds k).trans he)
theorem noHooks : HooksOK P (fun _ => none) := fun f h e => by cases e
end
end Go.Rv
