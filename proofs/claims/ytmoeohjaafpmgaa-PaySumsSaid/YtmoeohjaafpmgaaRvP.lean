/- Rv, part P: words that the printed texts use. Of no program. -/
import Derived.Test.YtmoeohjaafpmgaaRvO
import Derived.KernelRfl
set_option linter.unusedVariables false
set_option linter.unusedSectionVars false
namespace Go.Rv
open Go Go.RowKit
variable [Fx]

def tApp {β : Type} (n : Nat) (G G' : Nat → β) : Nat → β := fun i => cond (Nat.blt i n) (G i) (G' (i - n))
def tShift {β : Type} (l : Nat) (G : Nat → β) : Nat → β := fun i => G (l + i)
def tSel {β : Type} (l : List β) (z : β) : Nat → β := selT l z
def iAnd (k : IntKind) (a b : Int) : Int := k.wrap (BitVec.ofInt k.bits a &&& BitVec.ofInt k.bits b).toNat
def iOr (k : IntKind) (a b : Int) : Int := k.wrap (BitVec.ofInt k.bits a ||| BitVec.ofInt k.bits b).toNat
def iXor (k : IntKind) (a b : Int) : Int := k.wrap (BitVec.ofInt k.bits a ^^^ BitVec.ofInt k.bits b).toNat
def iAndNot (k : IntKind) (a b : Int) : Int := k.wrap (BitVec.ofInt k.bits a &&& ~~~(BitVec.ofInt k.bits b)).toNat
def iNot (k : IntKind) (a : Int) : Int := k.wrap (BitVec.ofInt k.bits (if k.signed then -1 else k.max) ^^^ BitVec.ofInt k.bits a).toNat

section
variable {α : Type} {P : Program}
theorem okNil : ∀ sp ∈ ([] : List (FunSpec α)), sp.ok P := fun sp h => by cases h
theorem okCons {sp : FunSpec α} {l : List (FunSpec α)} (h : sp.ok P) (hl : ∀ s ∈ l, s.ok P) : ∀ s ∈ sp :: l, s.ok P := List.forall_mem_cons.2 ⟨h, hl⟩
theorem lokNil {E : Env α} : ∀ sp ∈ ([] : List (LoopSpec α)), sp.ok P E := fun sp h => by cases h
theorem lokCons {E : Env α} {sp : LoopSpec α} {l : List (LoopSpec α)} (h : sp.ok P E) (hl : ∀ s ∈ l, s.ok P E) : ∀ s ∈ sp :: l, s.ok P E := List.forall_mem_cons.2 ⟨h, hl⟩
end
end Go.Rv
