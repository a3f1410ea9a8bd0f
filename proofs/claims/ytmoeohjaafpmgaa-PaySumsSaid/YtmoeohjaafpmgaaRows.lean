/-
  No cell of these rows narrows 'for every input' (looked for: loops, veiled, ifaces, maps, wideKeys, modest, calm, conditions, laid).
  DERIVED. THE GIVEN ROWS OF THIS SEAT. 4 by the template 'for every input the law returns true; each argument reads behind the call as it read before'; 0 by the template 'total and deterministic' (their statements: YtmoeohjaafpmgaaTotals.lean).
  GIVEN WITH THE SEED: the statements are not yours to turn. If you find one false, say at which input.
  Laid BY PROGRAM, IN A SANDBOX (cutbox-rows.mjs): the forced cells as the released guide's own fill.sh prints them over the translation 2e903d09d926dc86… (all of the seat's roots in one cut). By AI agents, Wed Nov 11 2026. No macro, syntax, notation, axiom, sorry.
-/
import Derived.Test.YtmoeohjaafpmgaaChecked
import GoSem.Claim
import GoSem.ClaimJoined
import GoSem.ClaimMapViews
import Derived.JoinedTies
import Derived.KernelRfl
namespace Go.Proofs.Ytmoeohjaafpmgaa
/- THE CELL 'sum', in the pinned program and in every row, IS THE sha256 OF THE DUMP (.gsa) THAT YtmoeohjaafpmgaaProg.lean LOADS. Nothing in Lean hashes anything: it is a label: what it is worth is what the hold of that sum in a sandbox is worth. -/
noncomputable def Try.pinned : Pinned := { name := "ytmoeohjaafpmgaa", sum := "2e903d09d926dc8676155ce969db533453d25b56ac9e0a174e7db0cb8d36751b", checked := Try.checked }
namespace Rows
def none {H : Type} : Left H := { results := [], args := [] }

/-- 'draymanlaw32.PaySums': WHATEVER THE INPUT: true; the input reads as it did. -/
def paySumsSpec : ChangeSpec := { name := "paySums", fn := fun _ => fun
  | [d] => { results := [.lit (.bool true)], args := [d] }
  | _ => none }
def paySumsRow : OpenClaim := { program := "ytmoeohjaafpmgaa", sum := "2e903d09d926dc8676155ce969db533453d25b56ac9e0a174e7db0cb8d36751b", func := "drayman/draymanlaw32.PaySums", spec := "paySums", unfollowed := true, recurses := true, plainKeys := false, apart := false }
def PaySumsSaid : Prop := paySumsRow.holds Try.pinned (OpenSpec.ofChange paySumsSpec)

/-- ITS FALSE NEIGHBOUR: 'it returns false'. Refute it at one input. -/
def paySumsWrong : ChangeSpec := { name := "paySums", fn := fun _ => fun
  | [d] => { results := [.lit (.bool false)], args := [d] }
  | _ => none }
def PaySumsWrongFalsely : Prop := paySumsRow.holds Try.pinned (OpenSpec.ofChange paySumsWrong)

/-- 'draymanlaw32.PayComes': WHATEVER THE INPUT: true; the input reads as it did. -/
def payComesSpec : ChangeSpec := { name := "payComes", fn := fun _ => fun
  | [d1, d2, d3, d4] => { results := [.lit (.bool true)], args := [d1, d2, d3, d4] }
  | _ => none }
def payComesRow : OpenClaim := { program := "ytmoeohjaafpmgaa", sum := "2e903d09d926dc8676155ce969db533453d25b56ac9e0a174e7db0cb8d36751b", func := "drayman/draymanlaw32.PayComes", spec := "payComes", unfollowed := true, recurses := true, plainKeys := false, apart := false }
def PayComesSaid : Prop := payComesRow.holds Try.pinned (OpenSpec.ofChange payComesSpec)

/-- ITS FALSE NEIGHBOUR: 'it returns false'. Refute it at one input. -/
def payComesWrong : ChangeSpec := { name := "payComes", fn := fun _ => fun
  | [d1, d2, d3, d4] => { results := [.lit (.bool false)], args := [d1, d2, d3, d4] }
  | _ => none }
def PayComesWrongFalsely : Prop := payComesRow.holds Try.pinned (OpenSpec.ofChange payComesWrong)

/-- 'draymanlaw33.CarryOnce': WHATEVER THE INPUT: true; the input reads as it did. -/
def carryOnceSpec : ChangeSpec := { name := "carryOnce", fn := fun _ => fun
  | [d] => { results := [.lit (.bool true)], args := [d] }
  | _ => none }
def carryOnceRow : OpenClaim := { program := "ytmoeohjaafpmgaa", sum := "2e903d09d926dc8676155ce969db533453d25b56ac9e0a174e7db0cb8d36751b", func := "drayman/draymanlaw33.CarryOnce", spec := "carryOnce", unfollowed := true, recurses := true, plainKeys := false, apart := false }
def CarryOnceSaid : Prop := carryOnceRow.holds Try.pinned (OpenSpec.ofChange carryOnceSpec)

/-- ITS FALSE NEIGHBOUR: 'it returns false'. Refute it at one input. -/
def carryOnceWrong : ChangeSpec := { name := "carryOnce", fn := fun _ => fun
  | [d] => { results := [.lit (.bool false)], args := [d] }
  | _ => none }
def CarryOnceWrongFalsely : Prop := carryOnceRow.holds Try.pinned (OpenSpec.ofChange carryOnceWrong)

/-- 'draymanlaw33.CarryComes': WHATEVER THE INPUT: true; the input reads as it did. -/
def carryComesSpec : ChangeSpec := { name := "carryComes", fn := fun _ => fun
  | [d1, d2, d3, d4] => { results := [.lit (.bool true)], args := [d1, d2, d3, d4] }
  | _ => none }
def carryComesRow : OpenClaim := { program := "ytmoeohjaafpmgaa", sum := "2e903d09d926dc8676155ce969db533453d25b56ac9e0a174e7db0cb8d36751b", func := "drayman/draymanlaw33.CarryComes", spec := "carryComes", unfollowed := true, recurses := true, plainKeys := false, apart := false }
def CarryComesSaid : Prop := carryComesRow.holds Try.pinned (OpenSpec.ofChange carryComesSpec)

/-- ITS FALSE NEIGHBOUR: 'it returns false'. Refute it at one input. -/
def carryComesWrong : ChangeSpec := { name := "carryComes", fn := fun _ => fun
  | [d1, d2, d3, d4] => { results := [.lit (.bool false)], args := [d1, d2, d3, d4] }
  | _ => none }
def CarryComesWrongFalsely : Prop := carryComesRow.holds Try.pinned (OpenSpec.ofChange carryComesWrong)

/- THE SECOND FORM. 'bulk': how many values and letters a reading holds, each counted each time it is reached (what is shared counts as often as it is met; a slice's spare places count too). A statement '..UptoSaid' is the law's where the arguments, and the package variables that the reading takes, are together of bulk at most 1048576: NARROWER than '..Said'. Prove '..Said' where nothing that the law and all that it calls make is longer than what came in: it says more and counts as full. Else prove '..UptoSaid'. A law counts once. -/
mutual
def uptoBulk {H : Type} : DataW H → Nat
  | .lit (.string bytes) => bytes.length + 1
  | .lit _ => 1
  | .nil => 1
  | .ptr d => uptoBulk d + 1
  | .slice elems spare => uptoBulkAll elems + uptoBulkAll spare + 1
  | .agg parts => uptoBulkAll parts + 1
  | .iface _ d => uptoBulk d + 1
  | .map entries => uptoBulkEntries entries + 1
  | .held _ => 1
def uptoBulkAll {H : Type} : List (DataW H) → Nat
  | [] => 0
  | d :: r => uptoBulk d + uptoBulkAll r
def uptoBulkEntries {H : Type} : List (Lit × DataW H) → Nat
  | [] => 0
  | x :: r => uptoBulkEntry x + uptoBulkEntries r
def uptoBulkEntry {H : Type} : Lit × DataW H → Nat
  | (.string bytes, d) => bytes.length + uptoBulk d + 1
  | (_, d) => uptoBulk d + 1
 end
def uptoSmall : (H : Type) → List (DataW H) → Bool := fun _ ds => decide (uptoBulkAll ds ≤ 1048576)
def OpenSpec.upto (s : _root_.Go.ChangeSpec) : _root_.Go.OpenSpec := { _root_.Go.OpenSpec.ofChange s with cond := some uptoSmall }

/-- 'draymanlaw32.PaySums', WHERE WHAT IT READS IS OF BULK AT MOST 1048576: true; the input reads as it did. -/
def paySumsUptoRow : OpenClaim := { program := "ytmoeohjaafpmgaa", sum := "2e903d09d926dc8676155ce969db533453d25b56ac9e0a174e7db0cb8d36751b", func := "drayman/draymanlaw32.PaySums", spec := "paySums", unfollowed := true, recurses := true, plainKeys := false, apart := false, narrowed := true }
def PaySumsUptoSaid : Prop := paySumsUptoRow.holds Try.pinned (OpenSpec.upto paySumsSpec)

/-- 'draymanlaw32.PayComes', WHERE WHAT IT READS IS OF BULK AT MOST 1048576: true; the input reads as it did. -/
def payComesUptoRow : OpenClaim := { program := "ytmoeohjaafpmgaa", sum := "2e903d09d926dc8676155ce969db533453d25b56ac9e0a174e7db0cb8d36751b", func := "drayman/draymanlaw32.PayComes", spec := "payComes", unfollowed := true, recurses := true, plainKeys := false, apart := false, narrowed := true }
def PayComesUptoSaid : Prop := payComesUptoRow.holds Try.pinned (OpenSpec.upto payComesSpec)

/-- 'draymanlaw33.CarryOnce', WHERE WHAT IT READS IS OF BULK AT MOST 1048576: true; the input reads as it did. -/
def carryOnceUptoRow : OpenClaim := { program := "ytmoeohjaafpmgaa", sum := "2e903d09d926dc8676155ce969db533453d25b56ac9e0a174e7db0cb8d36751b", func := "drayman/draymanlaw33.CarryOnce", spec := "carryOnce", unfollowed := true, recurses := true, plainKeys := false, apart := false, narrowed := true }
def CarryOnceUptoSaid : Prop := carryOnceUptoRow.holds Try.pinned (OpenSpec.upto carryOnceSpec)

/-- 'draymanlaw33.CarryComes', WHERE WHAT IT READS IS OF BULK AT MOST 1048576: true; the input reads as it did. -/
def carryComesUptoRow : OpenClaim := { program := "ytmoeohjaafpmgaa", sum := "2e903d09d926dc8676155ce969db533453d25b56ac9e0a174e7db0cb8d36751b", func := "drayman/draymanlaw33.CarryComes", spec := "carryComes", unfollowed := true, recurses := true, plainKeys := false, apart := false, narrowed := true }
def CarryComesUptoSaid : Prop := carryComesUptoRow.holds Try.pinned (OpenSpec.upto carryComesSpec)

end Rows
end Go.Proofs.Ytmoeohjaafpmgaa
