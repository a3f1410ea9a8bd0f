/- Rv, part U: a function of the library that takes a text and makes nothing that stays, by its own contract. Of no program. -/
import Derived.Test.YtmoeohjaafpmgaaDoorRvP
import Derived.Below
set_option linter.unusedVariables false
set_option linter.unusedSectionVars false
namespace Go.Rv
open Go Go.RowKit
variable [Fx]
theorem funOK_str {P : Program} {α : Type} {f : FuncId} {s : ByteArray} {v : V} {x : Value} {k : V → List B → Option α} {res : α} (hv : ∀ w F, Rd w F v x)
    (H : ∀ w, Fx.tab w → Calls P f #[.string s] w fun e w' => e = .returned x ∧ Below w.heap.size w w') (hk : k v [] = some res) : FunOK P f [.str s] [] fun v hs => k v hs = some res := by
  intro w c xs h
  obtain ⟨y, rfl⟩ := Array.size_eq_one_iff.1 h.len.symm
  have hy : y = .string s := (h.tm 0 _ _ rfl rfl).str_inv
  subst hy
  refine (H w h.bs.tab).mono fun e w' hh => ?_
  obtain ⟨rfl, hb⟩ := hh
  have hm : c.m = 0 := h.hm
  refine ⟨x, v, [], c, rfl, hk, ⟨rfl, fun i u z hu hz => ?_, rfl, fun i vs ys hv => by simp at hv, hm, fun r b hr => by simp at hr, fun r s' q hr => by omega, fun r q hr => by omega, fun r q hr => by omega, fun q hq => Nat.lt_of_lt_of_le (h.lt q hq) hb.size, ⟨hb.os, hb.tape, hb.output, hb.size, fun q hq => hb.block q hq.1⟩, rfl, h.bs, h.ff, h.pn⟩⟩
  cases i with
  | zero =>
    simp at hu hz
    subst hu; subst hz
    exact .im _ _ (hv _ _)
  | succ i => simp at hu
end Go.Rv
