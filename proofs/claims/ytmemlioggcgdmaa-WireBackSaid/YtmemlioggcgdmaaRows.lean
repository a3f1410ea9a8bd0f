/-
  No cell of these rows narrows 'for every input' (looked for: loops, veiled, ifaces, maps, wideKeys, modest, calm, conditions, laid).
  DERIVED. THE GIVEN ROWS OF THIS SEAT. 12 by the template 'for every input the law returns true; each argument reads behind the call as it read before'; 0 by the template 'total and deterministic' (their statements: YtmemlioggcgdmaaTotals.lean).
  GIVEN WITH THE SEED: the statements are not yours to turn. If you find one false, say at which input.
  Laid BY PROGRAM, IN A SANDBOX (cutbox-rows.mjs): the forced cells as the released guide's own fill.sh prints them over the translation 1c3bf7285516cc78… (all of the seat's roots in one cut). By AI agents, Wed Nov 11 2026. No macro, syntax, notation, axiom, sorry.
-/
import Derived.Test.YtmemlioggcgdmaaChecked
import GoSem.Claim
import GoSem.ClaimJoined
import GoSem.ClaimMapViews
import Derived.JoinedTies
import Derived.KernelRfl
namespace Go.Proofs.Ytmemlioggcgdmaa
/- THE CELL 'sum', in the pinned program and in every row, IS THE sha256 OF THE DUMP (.gsa) THAT YtmemlioggcgdmaaProg.lean LOADS. Nothing in Lean hashes anything: it is a label: what it is worth is what the hold of that sum in a sandbox is worth. -/
noncomputable def Try.pinned : Pinned := { name := "ytmemlioggcgdmaa", sum := "1c3bf7285516cc78cc5c7facd50ac7aed64cc78ba6b79224e94b96bd0fb22a7c", checked := Try.checked }
namespace Rows
def none {H : Type} : Left H := { results := [], args := [] }

/-- 'draymanlaw15.BackTells': WHATEVER THE INPUT: true; the input reads as it did. -/
def backTellsSpec : ChangeSpec := { name := "backTells", fn := fun _ => fun
  | [d1, d2, d3, d4] => { results := [.lit (.bool true)], args := [d1, d2, d3, d4] }
  | _ => none }
def backTellsRow : OpenClaim := { program := "ytmemlioggcgdmaa", sum := "1c3bf7285516cc78cc5c7facd50ac7aed64cc78ba6b79224e94b96bd0fb22a7c", func := "drayman/draymanlaw15.BackTells", spec := "backTells", apart := false }
def BackTellsSaid : Prop := backTellsRow.holds Try.pinned (OpenSpec.ofChange backTellsSpec)

/-- ITS FALSE NEIGHBOUR: 'it returns false'. Refute it at one input. -/
def backTellsWrong : ChangeSpec := { name := "backTells", fn := fun _ => fun
  | [d1, d2, d3, d4] => { results := [.lit (.bool false)], args := [d1, d2, d3, d4] }
  | _ => none }
def BackTellsWrongFalsely : Prop := backTellsRow.holds Try.pinned (OpenSpec.ofChange backTellsWrong)

/-- 'draymanlaw15.BackGrows': WHATEVER THE INPUT: true; the input reads as it did. -/
def backGrowsSpec : ChangeSpec := { name := "backGrows", fn := fun _ => fun
  | [d1, d2, d3] => { results := [.lit (.bool true)], args := [d1, d2, d3] }
  | _ => none }
def backGrowsRow : OpenClaim := { program := "ytmemlioggcgdmaa", sum := "1c3bf7285516cc78cc5c7facd50ac7aed64cc78ba6b79224e94b96bd0fb22a7c", func := "drayman/draymanlaw15.BackGrows", spec := "backGrows", apart := false }
def BackGrowsSaid : Prop := backGrowsRow.holds Try.pinned (OpenSpec.ofChange backGrowsSpec)

/-- ITS FALSE NEIGHBOUR: 'it returns false'. Refute it at one input. -/
def backGrowsWrong : ChangeSpec := { name := "backGrows", fn := fun _ => fun
  | [d1, d2, d3] => { results := [.lit (.bool false)], args := [d1, d2, d3] }
  | _ => none }
def BackGrowsWrongFalsely : Prop := backGrowsRow.holds Try.pinned (OpenSpec.ofChange backGrowsWrong)

/-- 'draymanlaw17.OutboxPuts': WHATEVER THE INPUT: true; the input reads as it did. -/
def outboxPutsSpec : ChangeSpec := { name := "outboxPuts", fn := fun _ => fun
  | [d1, d2] => { results := [.lit (.bool true)], args := [d1, d2] }
  | _ => none }
def outboxPutsRow : OpenClaim := { program := "ytmemlioggcgdmaa", sum := "1c3bf7285516cc78cc5c7facd50ac7aed64cc78ba6b79224e94b96bd0fb22a7c", func := "drayman/draymanlaw17.OutboxPuts", spec := "outboxPuts", unfollowed := true, recurses := true, apart := false }
def OutboxPutsSaid : Prop := outboxPutsRow.holds Try.pinned (OpenSpec.ofChange outboxPutsSpec)

/-- ITS FALSE NEIGHBOUR: 'it returns false'. Refute it at one input. -/
def outboxPutsWrong : ChangeSpec := { name := "outboxPuts", fn := fun _ => fun
  | [d1, d2] => { results := [.lit (.bool false)], args := [d1, d2] }
  | _ => none }
def OutboxPutsWrongFalsely : Prop := outboxPutsRow.holds Try.pinned (OpenSpec.ofChange outboxPutsWrong)

/-- 'draymanlaw17.OutboxTells': WHATEVER THE INPUT: true; the input reads as it did. -/
def outboxTellsSpec : ChangeSpec := { name := "outboxTells", fn := fun _ => fun
  | [d1, d2] => { results := [.lit (.bool true)], args := [d1, d2] }
  | _ => none }
def outboxTellsRow : OpenClaim := { program := "ytmemlioggcgdmaa", sum := "1c3bf7285516cc78cc5c7facd50ac7aed64cc78ba6b79224e94b96bd0fb22a7c", func := "drayman/draymanlaw17.OutboxTells", spec := "outboxTells", unfollowed := true, recurses := true, apart := false }
def OutboxTellsSaid : Prop := outboxTellsRow.holds Try.pinned (OpenSpec.ofChange outboxTellsSpec)

/-- ITS FALSE NEIGHBOUR: 'it returns false'. Refute it at one input. -/
def outboxTellsWrong : ChangeSpec := { name := "outboxTells", fn := fun _ => fun
  | [d1, d2] => { results := [.lit (.bool false)], args := [d1, d2] }
  | _ => none }
def OutboxTellsWrongFalsely : Prop := outboxTellsRow.holds Try.pinned (OpenSpec.ofChange outboxTellsWrong)

/-- 'draymanlaw17.OutboxRuns': WHATEVER THE INPUT: true; the input reads as it did. -/
def outboxRunsSpec : ChangeSpec := { name := "outboxRuns", fn := fun _ => fun
  | [d1, d2] => { results := [.lit (.bool true)], args := [d1, d2] }
  | _ => none }
def outboxRunsRow : OpenClaim := { program := "ytmemlioggcgdmaa", sum := "1c3bf7285516cc78cc5c7facd50ac7aed64cc78ba6b79224e94b96bd0fb22a7c", func := "drayman/draymanlaw17.OutboxRuns", spec := "outboxRuns", unfollowed := true, recurses := true, apart := false }
def OutboxRunsSaid : Prop := outboxRunsRow.holds Try.pinned (OpenSpec.ofChange outboxRunsSpec)

/-- ITS FALSE NEIGHBOUR: 'it returns false'. Refute it at one input. -/
def outboxRunsWrong : ChangeSpec := { name := "outboxRuns", fn := fun _ => fun
  | [d1, d2] => { results := [.lit (.bool false)], args := [d1, d2] }
  | _ => none }
def OutboxRunsWrongFalsely : Prop := outboxRunsRow.holds Try.pinned (OpenSpec.ofChange outboxRunsWrong)

/-- 'draymanlaw03.WireReads': WHATEVER THE INPUT: true; the input reads as it did. -/
def wireReadsSpec : ChangeSpec := { name := "wireReads", fn := fun _ => fun
  | [d1, d2] => { results := [.lit (.bool true)], args := [d1, d2] }
  | _ => none }
def wireReadsRow : OpenClaim := { program := "ytmemlioggcgdmaa", sum := "1c3bf7285516cc78cc5c7facd50ac7aed64cc78ba6b79224e94b96bd0fb22a7c", func := "drayman/draymanlaw03.WireReads", spec := "wireReads", apart := false }
def WireReadsSaid : Prop := wireReadsRow.holds Try.pinned (OpenSpec.ofChange wireReadsSpec)

/-- ITS FALSE NEIGHBOUR: 'it returns false'. Refute it at one input. -/
def wireReadsWrong : ChangeSpec := { name := "wireReads", fn := fun _ => fun
  | [d1, d2] => { results := [.lit (.bool false)], args := [d1, d2] }
  | _ => none }
def WireReadsWrongFalsely : Prop := wireReadsRow.holds Try.pinned (OpenSpec.ofChange wireReadsWrong)

/-- 'draymanlaw03.WireNobody': WHATEVER THE INPUT: true; the input reads as it did. -/
def wireNobodySpec : ChangeSpec := { name := "wireNobody", fn := fun _ => fun
  | [d1, d2] => { results := [.lit (.bool true)], args := [d1, d2] }
  | _ => none }
def wireNobodyRow : OpenClaim := { program := "ytmemlioggcgdmaa", sum := "1c3bf7285516cc78cc5c7facd50ac7aed64cc78ba6b79224e94b96bd0fb22a7c", func := "drayman/draymanlaw03.WireNobody", spec := "wireNobody", apart := false }
def WireNobodySaid : Prop := wireNobodyRow.holds Try.pinned (OpenSpec.ofChange wireNobodySpec)

/-- ITS FALSE NEIGHBOUR: 'it returns false'. Refute it at one input. -/
def wireNobodyWrong : ChangeSpec := { name := "wireNobody", fn := fun _ => fun
  | [d1, d2] => { results := [.lit (.bool false)], args := [d1, d2] }
  | _ => none }
def WireNobodyWrongFalsely : Prop := wireNobodyRow.holds Try.pinned (OpenSpec.ofChange wireNobodyWrong)

/-- 'draymanlaw03.WireWrites': WHATEVER THE INPUT: true; the input reads as it did. -/
def wireWritesSpec : ChangeSpec := { name := "wireWrites", fn := fun _ => fun
  | [d1, d2, d3] => { results := [.lit (.bool true)], args := [d1, d2, d3] }
  | _ => none }
def wireWritesRow : OpenClaim := { program := "ytmemlioggcgdmaa", sum := "1c3bf7285516cc78cc5c7facd50ac7aed64cc78ba6b79224e94b96bd0fb22a7c", func := "drayman/draymanlaw03.WireWrites", spec := "wireWrites", inPlace := ["internal/abi.NoEscape"], apart := false }
def WireWritesSaid : Prop := wireWritesRow.holds Try.pinned (OpenSpec.ofChange wireWritesSpec)

/-- ITS FALSE NEIGHBOUR: 'it returns false'. Refute it at one input. -/
def wireWritesWrong : ChangeSpec := { name := "wireWrites", fn := fun _ => fun
  | [d1, d2, d3] => { results := [.lit (.bool false)], args := [d1, d2, d3] }
  | _ => none }
def WireWritesWrongFalsely : Prop := wireWritesRow.holds Try.pinned (OpenSpec.ofChange wireWritesWrong)

/-- 'draymanlaw03.WireBack': WHATEVER THE INPUT: true; the input reads as it did. -/
def wireBackSpec : ChangeSpec := { name := "wireBack", fn := fun _ => fun
  | [d1, d2, d3, d4] => { results := [.lit (.bool true)], args := [d1, d2, d3, d4] }
  | _ => none }
def wireBackRow : OpenClaim := { program := "ytmemlioggcgdmaa", sum := "1c3bf7285516cc78cc5c7facd50ac7aed64cc78ba6b79224e94b96bd0fb22a7c", func := "drayman/draymanlaw03.WireBack", spec := "wireBack", inPlace := ["internal/abi.NoEscape"], apart := false }
def WireBackSaid : Prop := wireBackRow.holds Try.pinned (OpenSpec.ofChange wireBackSpec)

/-- ITS FALSE NEIGHBOUR: 'it returns false'. Refute it at one input. -/
def wireBackWrong : ChangeSpec := { name := "wireBack", fn := fun _ => fun
  | [d1, d2, d3, d4] => { results := [.lit (.bool false)], args := [d1, d2, d3, d4] }
  | _ => none }
def WireBackWrongFalsely : Prop := wireBackRow.holds Try.pinned (OpenSpec.ofChange wireBackWrong)

/-- 'draymanlaw18.InboxOnce': WHATEVER THE INPUT: true; the input reads as it did. -/
def inboxOnceSpec : ChangeSpec := { name := "inboxOnce", fn := fun _ => fun
  | [d] => { results := [.lit (.bool true)], args := [d] }
  | _ => none }
def inboxOnceRow : OpenClaim := { program := "ytmemlioggcgdmaa", sum := "1c3bf7285516cc78cc5c7facd50ac7aed64cc78ba6b79224e94b96bd0fb22a7c", func := "drayman/draymanlaw18.InboxOnce", spec := "inboxOnce", apart := false }
def InboxOnceSaid : Prop := inboxOnceRow.holds Try.pinned (OpenSpec.ofChange inboxOnceSpec)

/-- ITS FALSE NEIGHBOUR: 'it returns false'. Refute it at one input. -/
def inboxOnceWrong : ChangeSpec := { name := "inboxOnce", fn := fun _ => fun
  | [d] => { results := [.lit (.bool false)], args := [d] }
  | _ => none }
def InboxOnceWrongFalsely : Prop := inboxOnceRow.holds Try.pinned (OpenSpec.ofChange inboxOnceWrong)

/-- 'draymanlaw18.InboxOrder': WHATEVER THE INPUT: true; the input reads as it did. -/
def inboxOrderSpec : ChangeSpec := { name := "inboxOrder", fn := fun _ => fun
  | [d1, d2] => { results := [.lit (.bool true)], args := [d1, d2] }
  | _ => none }
def inboxOrderRow : OpenClaim := { program := "ytmemlioggcgdmaa", sum := "1c3bf7285516cc78cc5c7facd50ac7aed64cc78ba6b79224e94b96bd0fb22a7c", func := "drayman/draymanlaw18.InboxOrder", spec := "inboxOrder", apart := false }
def InboxOrderSaid : Prop := inboxOrderRow.holds Try.pinned (OpenSpec.ofChange inboxOrderSpec)

/-- ITS FALSE NEIGHBOUR: 'it returns false'. Refute it at one input. -/
def inboxOrderWrong : ChangeSpec := { name := "inboxOrder", fn := fun _ => fun
  | [d1, d2] => { results := [.lit (.bool false)], args := [d1, d2] }
  | _ => none }
def InboxOrderWrongFalsely : Prop := inboxOrderRow.holds Try.pinned (OpenSpec.ofChange inboxOrderWrong)

/-- 'draymanlaw18.InboxTells': WHATEVER THE INPUT: true; the input reads as it did. -/
def inboxTellsSpec : ChangeSpec := { name := "inboxTells", fn := fun _ => fun
  | [d1, d2, d3] => { results := [.lit (.bool true)], args := [d1, d2, d3] }
  | _ => none }
def inboxTellsRow : OpenClaim := { program := "ytmemlioggcgdmaa", sum := "1c3bf7285516cc78cc5c7facd50ac7aed64cc78ba6b79224e94b96bd0fb22a7c", func := "drayman/draymanlaw18.InboxTells", spec := "inboxTells", apart := false }
def InboxTellsSaid : Prop := inboxTellsRow.holds Try.pinned (OpenSpec.ofChange inboxTellsSpec)

/-- ITS FALSE NEIGHBOUR: 'it returns false'. Refute it at one input. -/
def inboxTellsWrong : ChangeSpec := { name := "inboxTells", fn := fun _ => fun
  | [d1, d2, d3] => { results := [.lit (.bool false)], args := [d1, d2, d3] }
  | _ => none }
def InboxTellsWrongFalsely : Prop := inboxTellsRow.holds Try.pinned (OpenSpec.ofChange inboxTellsWrong)

/- THE SECOND FORM. 'bulk': how many values and letters a reading holds, each counted each time it is reached (what is shared counts as often as it is met; a slice's spare places count too). A statement '..UptoSaid' is the law's where the arguments, and the package variables that the reading takes, are together of bulk at most 1048576: NARROWER than '..Said'. Prove '..Said' where nothing that the law and all that it calls make is longer than what came in: it says more and counts as full. Else prove '..UptoSaid'. A law counts once. -/
mutual
def uptoBulk {H : Type} : DataW H → Nat
  | .lit (.string bytes) => bytes.length + 1
  | .lit _ => 1
  | .nil => 1
  | .ptr d => uptoBulk d + 1
  | .slice elems spare => uptoBulkAll elems + uptoBulkAll spare + 1
  | .agg parts => uptoBulkAll parts + 1
  | .iface _ d => uptoBulk d + 1
  | .map entries => uptoBulkEntries entries + 1
  | .held _ => 1
def uptoBulkAll {H : Type} : List (DataW H) → Nat
  | [] => 0
  | d :: r => uptoBulk d + uptoBulkAll r
def uptoBulkEntries {H : Type} : List (Lit × DataW H) → Nat
  | [] => 0
  | x :: r => uptoBulkEntry x + uptoBulkEntries r
def uptoBulkEntry {H : Type} : Lit × DataW H → Nat
  | (.string bytes, d) => bytes.length + uptoBulk d + 1
  | (_, d) => uptoBulk d + 1
 end
def uptoSmall : (H : Type) → List (DataW H) → Bool := fun _ ds => decide (uptoBulkAll ds ≤ 1048576)
def OpenSpec.upto (s : _root_.Go.ChangeSpec) : _root_.Go.OpenSpec := { _root_.Go.OpenSpec.ofChange s with cond := some uptoSmall }

/-- 'draymanlaw15.BackTells', WHERE WHAT IT READS IS OF BULK AT MOST 1048576: true; the input reads as it did. -/
def backTellsUptoRow : OpenClaim := { program := "ytmemlioggcgdmaa", sum := "1c3bf7285516cc78cc5c7facd50ac7aed64cc78ba6b79224e94b96bd0fb22a7c", func := "drayman/draymanlaw15.BackTells", spec := "backTells", apart := false, narrowed := true }
def BackTellsUptoSaid : Prop := backTellsUptoRow.holds Try.pinned (OpenSpec.upto backTellsSpec)

/-- 'draymanlaw15.BackGrows', WHERE WHAT IT READS IS OF BULK AT MOST 1048576: true; the input reads as it did. -/
def backGrowsUptoRow : OpenClaim := { program := "ytmemlioggcgdmaa", sum := "1c3bf7285516cc78cc5c7facd50ac7aed64cc78ba6b79224e94b96bd0fb22a7c", func := "drayman/draymanlaw15.BackGrows", spec := "backGrows", apart := false, narrowed := true }
def BackGrowsUptoSaid : Prop := backGrowsUptoRow.holds Try.pinned (OpenSpec.upto backGrowsSpec)

/-- 'draymanlaw17.OutboxPuts', WHERE WHAT IT READS IS OF BULK AT MOST 1048576: true; the input reads as it did. -/
def outboxPutsUptoRow : OpenClaim := { program := "ytmemlioggcgdmaa", sum := "1c3bf7285516cc78cc5c7facd50ac7aed64cc78ba6b79224e94b96bd0fb22a7c", func := "drayman/draymanlaw17.OutboxPuts", spec := "outboxPuts", unfollowed := true, recurses := true, apart := false, narrowed := true }
def OutboxPutsUptoSaid : Prop := outboxPutsUptoRow.holds Try.pinned (OpenSpec.upto outboxPutsSpec)

/-- 'draymanlaw17.OutboxTells', WHERE WHAT IT READS IS OF BULK AT MOST 1048576: true; the input reads as it did. -/
def outboxTellsUptoRow : OpenClaim := { program := "ytmemlioggcgdmaa", sum := "1c3bf7285516cc78cc5c7facd50ac7aed64cc78ba6b79224e94b96bd0fb22a7c", func := "drayman/draymanlaw17.OutboxTells", spec := "outboxTells", unfollowed := true, recurses := true, apart := false, narrowed := true }
def OutboxTellsUptoSaid : Prop := outboxTellsUptoRow.holds Try.pinned (OpenSpec.upto outboxTellsSpec)

/-- 'draymanlaw17.OutboxRuns', WHERE WHAT IT READS IS OF BULK AT MOST 1048576: true; the input reads as it did. -/
def outboxRunsUptoRow : OpenClaim := { program := "ytmemlioggcgdmaa", sum := "1c3bf7285516cc78cc5c7facd50ac7aed64cc78ba6b79224e94b96bd0fb22a7c", func := "drayman/draymanlaw17.OutboxRuns", spec := "outboxRuns", unfollowed := true, recurses := true, apart := false, narrowed := true }
def OutboxRunsUptoSaid : Prop := outboxRunsUptoRow.holds Try.pinned (OpenSpec.upto outboxRunsSpec)

/-- 'draymanlaw03.WireReads', WHERE WHAT IT READS IS OF BULK AT MOST 1048576: true; the input reads as it did. -/
def wireReadsUptoRow : OpenClaim := { program := "ytmemlioggcgdmaa", sum := "1c3bf7285516cc78cc5c7facd50ac7aed64cc78ba6b79224e94b96bd0fb22a7c", func := "drayman/draymanlaw03.WireReads", spec := "wireReads", apart := false, narrowed := true }
def WireReadsUptoSaid : Prop := wireReadsUptoRow.holds Try.pinned (OpenSpec.upto wireReadsSpec)

/-- 'draymanlaw03.WireNobody', WHERE WHAT IT READS IS OF BULK AT MOST 1048576: true; the input reads as it did. -/
def wireNobodyUptoRow : OpenClaim := { program := "ytmemlioggcgdmaa", sum := "1c3bf7285516cc78cc5c7facd50ac7aed64cc78ba6b79224e94b96bd0fb22a7c", func := "drayman/draymanlaw03.WireNobody", spec := "wireNobody", apart := false, narrowed := true }
def WireNobodyUptoSaid : Prop := wireNobodyUptoRow.holds Try.pinned (OpenSpec.upto wireNobodySpec)

/-- 'draymanlaw03.WireWrites', WHERE WHAT IT READS IS OF BULK AT MOST 1048576: true; the input reads as it did. -/
def wireWritesUptoRow : OpenClaim := { program := "ytmemlioggcgdmaa", sum := "1c3bf7285516cc78cc5c7facd50ac7aed64cc78ba6b79224e94b96bd0fb22a7c", func := "drayman/draymanlaw03.WireWrites", spec := "wireWrites", inPlace := ["internal/abi.NoEscape"], apart := false, narrowed := true }
def WireWritesUptoSaid : Prop := wireWritesUptoRow.holds Try.pinned (OpenSpec.upto wireWritesSpec)

/-- 'draymanlaw03.WireBack', WHERE WHAT IT READS IS OF BULK AT MOST 1048576: true; the input reads as it did. -/
def wireBackUptoRow : OpenClaim := { program := "ytmemlioggcgdmaa", sum := "1c3bf7285516cc78cc5c7facd50ac7aed64cc78ba6b79224e94b96bd0fb22a7c", func := "drayman/draymanlaw03.WireBack", spec := "wireBack", inPlace := ["internal/abi.NoEscape"], apart := false, narrowed := true }
def WireBackUptoSaid : Prop := wireBackUptoRow.holds Try.pinned (OpenSpec.upto wireBackSpec)

/-- 'draymanlaw18.InboxOnce', WHERE WHAT IT READS IS OF BULK AT MOST 1048576: true; the input reads as it did. -/
def inboxOnceUptoRow : OpenClaim := { program := "ytmemlioggcgdmaa", sum := "1c3bf7285516cc78cc5c7facd50ac7aed64cc78ba6b79224e94b96bd0fb22a7c", func := "drayman/draymanlaw18.InboxOnce", spec := "inboxOnce", apart := false, narrowed := true }
def InboxOnceUptoSaid : Prop := inboxOnceUptoRow.holds Try.pinned (OpenSpec.upto inboxOnceSpec)

/-- 'draymanlaw18.InboxOrder', WHERE WHAT IT READS IS OF BULK AT MOST 1048576: true; the input reads as it did. -/
def inboxOrderUptoRow : OpenClaim := { program := "ytmemlioggcgdmaa", sum := "1c3bf7285516cc78cc5c7facd50ac7aed64cc78ba6b79224e94b96bd0fb22a7c", func := "drayman/draymanlaw18.InboxOrder", spec := "inboxOrder", apart := false, narrowed := true }
def InboxOrderUptoSaid : Prop := inboxOrderUptoRow.holds Try.pinned (OpenSpec.upto inboxOrderSpec)

/-- 'draymanlaw18.InboxTells', WHERE WHAT IT READS IS OF BULK AT MOST 1048576: true; the input reads as it did. -/
def inboxTellsUptoRow : OpenClaim := { program := "ytmemlioggcgdmaa", sum := "1c3bf7285516cc78cc5c7facd50ac7aed64cc78ba6b79224e94b96bd0fb22a7c", func := "drayman/draymanlaw18.InboxTells", spec := "inboxTells", apart := false, narrowed := true }
def InboxTellsUptoSaid : Prop := inboxTellsUptoRow.holds Try.pinned (OpenSpec.upto inboxTellsSpec)

end Rows
end Go.Proofs.Ytmemlioggcgdmaa
