/-
  No cell of these rows narrows 'for every input' (looked for: loops, veiled, ifaces, maps, wideKeys, modest, calm, conditions, laid).
  DERIVED. THE GIVEN ROWS OF THIS SEAT. 11 by the template 'for every input the law returns true; each argument reads behind the call as it read before'; 0 by the template 'total and deterministic' (their statements: YtkcdjgmialniiaaTotals.lean).
  GIVEN WITH THE SEED: the statements are not yours to turn. If you find one false, say at which input.
  Laid BY PROGRAM, IN A SANDBOX (cutbox-rows.mjs): the forced cells as the released guide's own fill.sh prints them over the translation 862b7aba3f14e945… (all of the seat's roots in one cut). By AI agents, Wed Nov 11 2026. No macro, syntax, notation, axiom, sorry.
-/
import Derived.Test.YtkcdjgmialniiaaChecked
import GoSem.Claim
import GoSem.ClaimJoined
import GoSem.ClaimMapViews
import Derived.JoinedTies
import Derived.KernelRfl
namespace Go.Proofs.Ytkcdjgmialniiaa
/- THE CELL 'sum', in the pinned program and in every row, IS THE sha256 OF THE DUMP (.gsa) THAT YtkcdjgmialniiaaProg.lean LOADS. Nothing in Lean hashes anything: it is a label: what it is worth is what the hold of that sum in a sandbox is worth. -/
noncomputable def Try.pinned : Pinned := { name := "ytkcdjgmialniiaa", sum := "862b7aba3f14e9453f35110b4a008601abd0648ac7fecbaa6e0217e73e530759", checked := Try.checked }
namespace Rows
def none {H : Type} : Left H := { results := [], args := [] }

/-- 'draymanlaw34.NetKeeps': WHATEVER THE INPUT: true; the input reads as it did. -/
def netKeepsSpec : ChangeSpec := { name := "netKeeps", fn := fun _ => fun
  | [d] => { results := [.lit (.bool true)], args := [d] }
  | _ => none }
def netKeepsRow : OpenClaim := { program := "ytkcdjgmialniiaa", sum := "862b7aba3f14e9453f35110b4a008601abd0648ac7fecbaa6e0217e73e530759", func := "drayman/draymanlaw34.NetKeeps", spec := "netKeeps", unfollowed := true, recurses := true, plainKeys := false, apart := false }
def NetKeepsSaid : Prop := netKeepsRow.holds Try.pinned (OpenSpec.ofChange netKeepsSpec)

/-- ITS FALSE NEIGHBOUR: 'it returns false'. Refute it at one input. -/
def netKeepsWrong : ChangeSpec := { name := "netKeeps", fn := fun _ => fun
  | [d] => { results := [.lit (.bool false)], args := [d] }
  | _ => none }
def NetKeepsWrongFalsely : Prop := netKeepsRow.holds Try.pinned (OpenSpec.ofChange netKeepsWrong)

/-- 'draymanlaw34.NetDoes': WHATEVER THE INPUT: true; the input reads as it did. -/
def netDoesSpec : ChangeSpec := { name := "netDoes", fn := fun _ => fun
  | [d1, d2, d3, d4] => { results := [.lit (.bool true)], args := [d1, d2, d3, d4] }
  | _ => none }
def netDoesRow : OpenClaim := { program := "ytkcdjgmialniiaa", sum := "862b7aba3f14e9453f35110b4a008601abd0648ac7fecbaa6e0217e73e530759", func := "drayman/draymanlaw34.NetDoes", spec := "netDoes", unfollowed := true, recurses := true, plainKeys := false, apart := false }
def NetDoesSaid : Prop := netDoesRow.holds Try.pinned (OpenSpec.ofChange netDoesSpec)

/-- ITS FALSE NEIGHBOUR: 'it returns false'. Refute it at one input. -/
def netDoesWrong : ChangeSpec := { name := "netDoes", fn := fun _ => fun
  | [d1, d2, d3, d4] => { results := [.lit (.bool false)], args := [d1, d2, d3, d4] }
  | _ => none }
def NetDoesWrongFalsely : Prop := netDoesRow.holds Try.pinned (OpenSpec.ofChange netDoesWrong)

/-- 'draymanlaw16.TimerSets': WHATEVER THE INPUT: true; the input reads as it did. -/
def timerSetsSpec : ChangeSpec := { name := "timerSets", fn := fun _ => fun
  | [d1, d2] => { results := [.lit (.bool true)], args := [d1, d2] }
  | _ => none }
def timerSetsRow : OpenClaim := { program := "ytkcdjgmialniiaa", sum := "862b7aba3f14e9453f35110b4a008601abd0648ac7fecbaa6e0217e73e530759", func := "drayman/draymanlaw16.TimerSets", spec := "timerSets", inPlace := ["slices.overlaps[drayman/api.Timer]"], unfollowed := true, recurses := true, plainKeys := false, apart := false }
def TimerSetsSaid : Prop := timerSetsRow.holds Try.pinned (OpenSpec.ofChange timerSetsSpec)

/-- ITS FALSE NEIGHBOUR: 'it returns false'. Refute it at one input. -/
def timerSetsWrong : ChangeSpec := { name := "timerSets", fn := fun _ => fun
  | [d1, d2] => { results := [.lit (.bool false)], args := [d1, d2] }
  | _ => none }
def TimerSetsWrongFalsely : Prop := timerSetsRow.holds Try.pinned (OpenSpec.ofChange timerSetsWrong)

/-- 'draymanlaw16.TimerTells': WHATEVER THE INPUT: true; the input reads as it did. -/
def timerTellsSpec : ChangeSpec := { name := "timerTells", fn := fun _ => fun
  | [d1, d2, d3] => { results := [.lit (.bool true)], args := [d1, d2, d3] }
  | _ => none }
def timerTellsRow : OpenClaim := { program := "ytkcdjgmialniiaa", sum := "862b7aba3f14e9453f35110b4a008601abd0648ac7fecbaa6e0217e73e530759", func := "drayman/draymanlaw16.TimerTells", spec := "timerTells", inPlace := ["slices.overlaps[drayman/api.Timer]"], unfollowed := true, recurses := true, plainKeys := false, apart := false }
def TimerTellsSaid : Prop := timerTellsRow.holds Try.pinned (OpenSpec.ofChange timerTellsSpec)

/-- ITS FALSE NEIGHBOUR: 'it returns false'. Refute it at one input. -/
def timerTellsWrong : ChangeSpec := { name := "timerTells", fn := fun _ => fun
  | [d1, d2, d3] => { results := [.lit (.bool false)], args := [d1, d2, d3] }
  | _ => none }
def TimerTellsWrongFalsely : Prop := timerTellsRow.holds Try.pinned (OpenSpec.ofChange timerTellsWrong)

/-- 'draymanlaw16.TimerRuns': WHATEVER THE INPUT: true; the input reads as it did. -/
def timerRunsSpec : ChangeSpec := { name := "timerRuns", fn := fun _ => fun
  | [d] => { results := [.lit (.bool true)], args := [d] }
  | _ => none }
def timerRunsRow : OpenClaim := { program := "ytkcdjgmialniiaa", sum := "862b7aba3f14e9453f35110b4a008601abd0648ac7fecbaa6e0217e73e530759", func := "drayman/draymanlaw16.TimerRuns", spec := "timerRuns", inPlace := ["slices.overlaps[drayman/api.Timer]"], unfollowed := true, recurses := true, plainKeys := false, apart := false }
def TimerRunsSaid : Prop := timerRunsRow.holds Try.pinned (OpenSpec.ofChange timerRunsSpec)

/-- ITS FALSE NEIGHBOUR: 'it returns false'. Refute it at one input. -/
def timerRunsWrong : ChangeSpec := { name := "timerRuns", fn := fun _ => fun
  | [d] => { results := [.lit (.bool false)], args := [d] }
  | _ => none }
def TimerRunsWrongFalsely : Prop := timerRunsRow.holds Try.pinned (OpenSpec.ofChange timerRunsWrong)

/-- 'draymanlaw23.MsgPuts': WHATEVER THE INPUT: true; the input reads as it did. -/
def msgPutsSpec : ChangeSpec := { name := "msgPuts", fn := fun _ => fun
  | [d1, d2, d3] => { results := [.lit (.bool true)], args := [d1, d2, d3] }
  | _ => none }
def msgPutsRow : OpenClaim := { program := "ytkcdjgmialniiaa", sum := "862b7aba3f14e9453f35110b4a008601abd0648ac7fecbaa6e0217e73e530759", func := "drayman/draymanlaw23.MsgPuts", spec := "msgPuts", inPlace := ["internal/abi.NoEscape"], plainKeys := false, apart := false }
def MsgPutsSaid : Prop := msgPutsRow.holds Try.pinned (OpenSpec.ofChange msgPutsSpec)

/-- ITS FALSE NEIGHBOUR: 'it returns false'. Refute it at one input. -/
def msgPutsWrong : ChangeSpec := { name := "msgPuts", fn := fun _ => fun
  | [d1, d2, d3] => { results := [.lit (.bool false)], args := [d1, d2, d3] }
  | _ => none }
def MsgPutsWrongFalsely : Prop := msgPutsRow.holds Try.pinned (OpenSpec.ofChange msgPutsWrong)

/-- 'draymanlaw23.MsgTakes': WHATEVER THE INPUT: true; the input reads as it did. -/
def msgTakesSpec : ChangeSpec := { name := "msgTakes", fn := fun _ => fun
  | [d] => { results := [.lit (.bool true)], args := [d] }
  | _ => none }
def msgTakesRow : OpenClaim := { program := "ytkcdjgmialniiaa", sum := "862b7aba3f14e9453f35110b4a008601abd0648ac7fecbaa6e0217e73e530759", func := "drayman/draymanlaw23.MsgTakes", spec := "msgTakes", inPlace := ["internal/abi.NoEscape"], plainKeys := false, apart := false }
def MsgTakesSaid : Prop := msgTakesRow.holds Try.pinned (OpenSpec.ofChange msgTakesSpec)

/-- ITS FALSE NEIGHBOUR: 'it returns false'. Refute it at one input. -/
def msgTakesWrong : ChangeSpec := { name := "msgTakes", fn := fun _ => fun
  | [d] => { results := [.lit (.bool false)], args := [d] }
  | _ => none }
def MsgTakesWrongFalsely : Prop := msgTakesRow.holds Try.pinned (OpenSpec.ofChange msgTakesWrong)

/-- 'draymanlaw23.MsgBack': WHATEVER THE INPUT: true; the input reads as it did. -/
def msgBackSpec : ChangeSpec := { name := "msgBack", fn := fun _ => fun
  | [d1, d2, d3, d4] => { results := [.lit (.bool true)], args := [d1, d2, d3, d4] }
  | _ => none }
def msgBackRow : OpenClaim := { program := "ytkcdjgmialniiaa", sum := "862b7aba3f14e9453f35110b4a008601abd0648ac7fecbaa6e0217e73e530759", func := "drayman/draymanlaw23.MsgBack", spec := "msgBack", inPlace := ["internal/abi.NoEscape"], plainKeys := false, apart := false }
def MsgBackSaid : Prop := msgBackRow.holds Try.pinned (OpenSpec.ofChange msgBackSpec)

/-- ITS FALSE NEIGHBOUR: 'it returns false'. Refute it at one input. -/
def msgBackWrong : ChangeSpec := { name := "msgBack", fn := fun _ => fun
  | [d1, d2, d3, d4] => { results := [.lit (.bool false)], args := [d1, d2, d3, d4] }
  | _ => none }
def MsgBackWrongFalsely : Prop := msgBackRow.holds Try.pinned (OpenSpec.ofChange msgBackWrong)

/-- 'draymanlaw31.KeyedAgain': WHATEVER THE INPUT: true; the input reads as it did. -/
def keyedAgainSpec : ChangeSpec := { name := "keyedAgain", fn := fun _ => fun
  | [d1, d2, d3, d4] => { results := [.lit (.bool true)], args := [d1, d2, d3, d4] }
  | _ => none }
def keyedAgainRow : OpenClaim := { program := "ytkcdjgmialniiaa", sum := "862b7aba3f14e9453f35110b4a008601abd0648ac7fecbaa6e0217e73e530759", func := "drayman/draymanlaw31.KeyedAgain", spec := "keyedAgain", unfollowed := true, recurses := true, plainKeys := false, apart := false }
def KeyedAgainSaid : Prop := keyedAgainRow.holds Try.pinned (OpenSpec.ofChange keyedAgainSpec)

/-- ITS FALSE NEIGHBOUR: 'it returns false'. Refute it at one input. -/
def keyedAgainWrong : ChangeSpec := { name := "keyedAgain", fn := fun _ => fun
  | [d1, d2, d3, d4] => { results := [.lit (.bool false)], args := [d1, d2, d3, d4] }
  | _ => none }
def KeyedAgainWrongFalsely : Prop := keyedAgainRow.holds Try.pinned (OpenSpec.ofChange keyedAgainWrong)

/-- 'draymanlaw31.KeyedCome': WHATEVER THE INPUT: true; the input reads as it did. -/
def keyedComeSpec : ChangeSpec := { name := "keyedCome", fn := fun _ => fun
  | [d1, d2, d3] => { results := [.lit (.bool true)], args := [d1, d2, d3] }
  | _ => none }
def keyedComeRow : OpenClaim := { program := "ytkcdjgmialniiaa", sum := "862b7aba3f14e9453f35110b4a008601abd0648ac7fecbaa6e0217e73e530759", func := "drayman/draymanlaw31.KeyedCome", spec := "keyedCome", unfollowed := true, recurses := true, plainKeys := false, apart := false }
def KeyedComeSaid : Prop := keyedComeRow.holds Try.pinned (OpenSpec.ofChange keyedComeSpec)

/-- ITS FALSE NEIGHBOUR: 'it returns false'. Refute it at one input. -/
def keyedComeWrong : ChangeSpec := { name := "keyedCome", fn := fun _ => fun
  | [d1, d2, d3] => { results := [.lit (.bool false)], args := [d1, d2, d3] }
  | _ => none }
def KeyedComeWrongFalsely : Prop := keyedComeRow.holds Try.pinned (OpenSpec.ofChange keyedComeWrong)

/-- 'draymanlaw31.KeyedOnce': WHATEVER THE INPUT: true; the input reads as it did. -/
def keyedOnceSpec : ChangeSpec := { name := "keyedOnce", fn := fun _ => fun
  | [d] => { results := [.lit (.bool true)], args := [d] }
  | _ => none }
def keyedOnceRow : OpenClaim := { program := "ytkcdjgmialniiaa", sum := "862b7aba3f14e9453f35110b4a008601abd0648ac7fecbaa6e0217e73e530759", func := "drayman/draymanlaw31.KeyedOnce", spec := "keyedOnce", unfollowed := true, recurses := true, plainKeys := false, apart := false }
def KeyedOnceSaid : Prop := keyedOnceRow.holds Try.pinned (OpenSpec.ofChange keyedOnceSpec)

/-- ITS FALSE NEIGHBOUR: 'it returns false'. Refute it at one input. -/
def keyedOnceWrong : ChangeSpec := { name := "keyedOnce", fn := fun _ => fun
  | [d] => { results := [.lit (.bool false)], args := [d] }
  | _ => none }
def KeyedOnceWrongFalsely : Prop := keyedOnceRow.holds Try.pinned (OpenSpec.ofChange keyedOnceWrong)

/- THE SECOND FORM. 'bulk': how many values and letters a reading holds, each counted each time it is reached (what is shared counts as often as it is met; a slice's spare places count too). A statement '..UptoSaid' is the law's where the arguments, and the package variables that the reading takes, are together of bulk at most 1048576: NARROWER than '..Said'. Prove '..Said' where nothing that the law and all that it calls make is longer than what came in: it says more and counts as full. Else prove '..UptoSaid'. A law counts once. -/
mutual
def uptoBulk {H : Type} : DataW H → Nat
  | .lit (.string bytes) => bytes.length + 1
  | .lit _ => 1
  | .nil => 1
  | .ptr d => uptoBulk d + 1
  | .slice elems spare => uptoBulkAll elems + uptoBulkAll spare + 1
  | .agg parts => uptoBulkAll parts + 1
  | .iface _ d => uptoBulk d + 1
  | .map entries => uptoBulkEntries entries + 1
  | .held _ => 1
def uptoBulkAll {H : Type} : List (DataW H) → Nat
  | [] => 0
  | d :: r => uptoBulk d + uptoBulkAll r
def uptoBulkEntries {H : Type} : List (Lit × DataW H) → Nat
  | [] => 0
  | x :: r => uptoBulkEntry x + uptoBulkEntries r
def uptoBulkEntry {H : Type} : Lit × DataW H → Nat
  | (.string bytes, d) => bytes.length + uptoBulk d + 1
  | (_, d) => uptoBulk d + 1
 end
def uptoSmall : (H : Type) → List (DataW H) → Bool := fun _ ds => decide (uptoBulkAll ds ≤ 1048576)
def OpenSpec.upto (s : _root_.Go.ChangeSpec) : _root_.Go.OpenSpec := { _root_.Go.OpenSpec.ofChange s with cond := some uptoSmall }

/-- 'draymanlaw34.NetKeeps', WHERE WHAT IT READS IS OF BULK AT MOST 1048576: true; the input reads as it did. -/
def netKeepsUptoRow : OpenClaim := { program := "ytkcdjgmialniiaa", sum := "862b7aba3f14e9453f35110b4a008601abd0648ac7fecbaa6e0217e73e530759", func := "drayman/draymanlaw34.NetKeeps", spec := "netKeeps", unfollowed := true, recurses := true, plainKeys := false, apart := false, narrowed := true }
def NetKeepsUptoSaid : Prop := netKeepsUptoRow.holds Try.pinned (OpenSpec.upto netKeepsSpec)

/-- 'draymanlaw34.NetDoes', WHERE WHAT IT READS IS OF BULK AT MOST 1048576: true; the input reads as it did. -/
def netDoesUptoRow : OpenClaim := { program := "ytkcdjgmialniiaa", sum := "862b7aba3f14e9453f35110b4a008601abd0648ac7fecbaa6e0217e73e530759", func := "drayman/draymanlaw34.NetDoes", spec := "netDoes", unfollowed := true, recurses := true, plainKeys := false, apart := false, narrowed := true }
def NetDoesUptoSaid : Prop := netDoesUptoRow.holds Try.pinned (OpenSpec.upto netDoesSpec)

/-- 'draymanlaw16.TimerSets', WHERE WHAT IT READS IS OF BULK AT MOST 1048576: true; the input reads as it did. -/
def timerSetsUptoRow : OpenClaim := { program := "ytkcdjgmialniiaa", sum := "862b7aba3f14e9453f35110b4a008601abd0648ac7fecbaa6e0217e73e530759", func := "drayman/draymanlaw16.TimerSets", spec := "timerSets", inPlace := ["slices.overlaps[drayman/api.Timer]"], unfollowed := true, recurses := true, plainKeys := false, apart := false, narrowed := true }
def TimerSetsUptoSaid : Prop := timerSetsUptoRow.holds Try.pinned (OpenSpec.upto timerSetsSpec)

/-- 'draymanlaw16.TimerTells', WHERE WHAT IT READS IS OF BULK AT MOST 1048576: true; the input reads as it did. -/
def timerTellsUptoRow : OpenClaim := { program := "ytkcdjgmialniiaa", sum := "862b7aba3f14e9453f35110b4a008601abd0648ac7fecbaa6e0217e73e530759", func := "drayman/draymanlaw16.TimerTells", spec := "timerTells", inPlace := ["slices.overlaps[drayman/api.Timer]"], unfollowed := true, recurses := true, plainKeys := false, apart := false, narrowed := true }
def TimerTellsUptoSaid : Prop := timerTellsUptoRow.holds Try.pinned (OpenSpec.upto timerTellsSpec)

/-- 'draymanlaw16.TimerRuns', WHERE WHAT IT READS IS OF BULK AT MOST 1048576: true; the input reads as it did. -/
def timerRunsUptoRow : OpenClaim := { program := "ytkcdjgmialniiaa", sum := "862b7aba3f14e9453f35110b4a008601abd0648ac7fecbaa6e0217e73e530759", func := "drayman/draymanlaw16.TimerRuns", spec := "timerRuns", inPlace := ["slices.overlaps[drayman/api.Timer]"], unfollowed := true, recurses := true, plainKeys := false, apart := false, narrowed := true }
def TimerRunsUptoSaid : Prop := timerRunsUptoRow.holds Try.pinned (OpenSpec.upto timerRunsSpec)

/-- 'draymanlaw23.MsgPuts', WHERE WHAT IT READS IS OF BULK AT MOST 1048576: true; the input reads as it did. -/
def msgPutsUptoRow : OpenClaim := { program := "ytkcdjgmialniiaa", sum := "862b7aba3f14e9453f35110b4a008601abd0648ac7fecbaa6e0217e73e530759", func := "drayman/draymanlaw23.MsgPuts", spec := "msgPuts", inPlace := ["internal/abi.NoEscape"], plainKeys := false, apart := false, narrowed := true }
def MsgPutsUptoSaid : Prop := msgPutsUptoRow.holds Try.pinned (OpenSpec.upto msgPutsSpec)

/-- 'draymanlaw23.MsgTakes', WHERE WHAT IT READS IS OF BULK AT MOST 1048576: true; the input reads as it did. -/
def msgTakesUptoRow : OpenClaim := { program := "ytkcdjgmialniiaa", sum := "862b7aba3f14e9453f35110b4a008601abd0648ac7fecbaa6e0217e73e530759", func := "drayman/draymanlaw23.MsgTakes", spec := "msgTakes", inPlace := ["internal/abi.NoEscape"], plainKeys := false, apart := false, narrowed := true }
def MsgTakesUptoSaid : Prop := msgTakesUptoRow.holds Try.pinned (OpenSpec.upto msgTakesSpec)

/-- 'draymanlaw23.MsgBack', WHERE WHAT IT READS IS OF BULK AT MOST 1048576: true; the input reads as it did. -/
def msgBackUptoRow : OpenClaim := { program := "ytkcdjgmialniiaa", sum := "862b7aba3f14e9453f35110b4a008601abd0648ac7fecbaa6e0217e73e530759", func := "drayman/draymanlaw23.MsgBack", spec := "msgBack", inPlace := ["internal/abi.NoEscape"], plainKeys := false, apart := false, narrowed := true }
def MsgBackUptoSaid : Prop := msgBackUptoRow.holds Try.pinned (OpenSpec.upto msgBackSpec)

/-- 'draymanlaw31.KeyedAgain', WHERE WHAT IT READS IS OF BULK AT MOST 1048576: true; the input reads as it did. -/
def keyedAgainUptoRow : OpenClaim := { program := "ytkcdjgmialniiaa", sum := "862b7aba3f14e9453f35110b4a008601abd0648ac7fecbaa6e0217e73e530759", func := "drayman/draymanlaw31.KeyedAgain", spec := "keyedAgain", unfollowed := true, recurses := true, plainKeys := false, apart := false, narrowed := true }
def KeyedAgainUptoSaid : Prop := keyedAgainUptoRow.holds Try.pinned (OpenSpec.upto keyedAgainSpec)

/-- 'draymanlaw31.KeyedCome', WHERE WHAT IT READS IS OF BULK AT MOST 1048576: true; the input reads as it did. -/
def keyedComeUptoRow : OpenClaim := { program := "ytkcdjgmialniiaa", sum := "862b7aba3f14e9453f35110b4a008601abd0648ac7fecbaa6e0217e73e530759", func := "drayman/draymanlaw31.KeyedCome", spec := "keyedCome", unfollowed := true, recurses := true, plainKeys := false, apart := false, narrowed := true }
def KeyedComeUptoSaid : Prop := keyedComeUptoRow.holds Try.pinned (OpenSpec.upto keyedComeSpec)

/-- 'draymanlaw31.KeyedOnce', WHERE WHAT IT READS IS OF BULK AT MOST 1048576: true; the input reads as it did. -/
def keyedOnceUptoRow : OpenClaim := { program := "ytkcdjgmialniiaa", sum := "862b7aba3f14e9453f35110b4a008601abd0648ac7fecbaa6e0217e73e530759", func := "drayman/draymanlaw31.KeyedOnce", spec := "keyedOnce", unfollowed := true, recurses := true, plainKeys := false, apart := false, narrowed := true }
def KeyedOnceUptoSaid : Prop := keyedOnceUptoRow.holds Try.pinned (OpenSpec.upto keyedOnceSpec)

end Rows
end Go.Proofs.Ytkcdjgmialniiaa
