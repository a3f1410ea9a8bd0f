/-
  NARROWER THAN 'FOR EVERY INPUT', by the rows' own cells (each row's printed sentence says how): StockPuts: laid · StockMoves: laid · StockBalance: laid · StockBack: laid · HoldsTurn: laid · HoldsTell: laid · HoldsBack: laid · SagaRules: laid.
  DERIVED. THE GIVEN ROWS OF THIS SEAT. 8 by the template 'for every input the law returns true; each argument reads behind the call as it read before'; 0 by the template 'total and deterministic' (their statements: YtmoeohjaafpmgaaDoorTotals.lean).
  GIVEN WITH THE SEED: the statements are not yours to turn. If you find one false, say at which input.
  Laid BY PROGRAM, IN A SANDBOX (cutbox-rows.mjs): the forced cells as the released guide's own fill.sh prints them over the translation 3d8c571ec2df1a4b… (all of the seat's roots in one cut). By AI agents, Wed Nov 11 2026. No macro, syntax, notation, axiom, sorry.
-/
import Derived.Test.YtmoeohjaafpmgaaDoorChecked
import GoSem.PinnedTables
import GoSem.Claim
import GoSem.ClaimJoined
import GoSem.ClaimMapViews
import Derived.JoinedTies
import Derived.KernelRfl
namespace Go.Proofs.YtmoeohjaafpmgaaDoor
/- THE CELL 'sum', in the pinned program and in every row, IS THE sha256 OF THE DUMP (.gsa) THAT YtmoeohjaafpmgaaDoorProg.lean LOADS. Nothing in Lean hashes anything: it is a label: what it is worth is what the hold of that sum in a sandbox is worth. -/
noncomputable def Tryd.pinned : Pinned := { name := "ytmoeohjaafpmgaadoor", sum := "3d8c571ec2df1a4b6f33a40d3a3d9fa1cefc227243ea3b7911d40ad17779cfb6", checked := Tryd.checked }
namespace Rows
def none {H : Type} : Left H := { results := [], args := [] }

/- WHAT THE LISTED PACKAGE-LEVEL VARIABLES READ AS WHEN THE CALL BEGINS. Each datum BY PROGRAM (the guide's laid-datum.mjs) off the statement by which the dump's own 'gosem.cut.vars' lays the variable. In a bare row this is a premise. The card (YtmoeohjaafpmgaaDoorCards.lean) ties it to the program's text. -/
def laid_unicode_utf8_acceptRanges {H : Type} : DataW H := .agg [.agg [.lit (.int .u8 128), .lit (.int .u8 191)], .agg [.lit (.int .u8 160), .lit (.int .u8 191)], .agg [.lit (.int .u8 128), .lit (.int .u8 159)], .agg [.lit (.int .u8 144), .lit (.int .u8 191)], .agg [.lit (.int .u8 128), .lit (.int .u8 143)], .agg [.lit (.int .u8 0), .lit (.int .u8 0)], .agg [.lit (.int .u8 0), .lit (.int .u8 0)], .agg [.lit (.int .u8 0), .lit (.int .u8 0)], .agg [.lit (.int .u8 0), .lit (.int .u8 0)], .agg [.lit (.int .u8 0), .lit (.int .u8 0)], .agg [.lit (.int .u8 0), .lit (.int .u8 0)], .agg [.lit (.int .u8 0), .lit (.int .u8 0)], .agg [.lit (.int .u8 0), .lit (.int .u8 0)], .agg [.lit (.int .u8 0), .lit (.int .u8 0)], .agg [.lit (.int .u8 0), .lit (.int .u8 0)], .agg [.lit (.int .u8 0), .lit (.int .u8 0)]]
/-- One of Go's own tables, pinned by name: the form's constant. -/
def laid_unicode_utf8_first : DataW Unit := Go.Pinned.utf8First

/-- 'draymanlaw12.StockPuts': WHATEVER THE INPUT: true; the input reads as it did. -/
def stockPutsSpec : ChangeSpec := { name := "stockPuts", fn := fun _ => fun
  | [d1, d2, d3] => { results := [.lit (.bool true)], args := [d1, d2, d3] }
  | _ => none }
def stockPutsRow : OpenClaim := { program := "ytmoeohjaafpmgaadoor", sum := "3d8c571ec2df1a4b6f33a40d3a3d9fa1cefc227243ea3b7911d40ad17779cfb6", func := "drayman/draymanlaw12.StockPuts", spec := "stockPuts", unfollowed := true, recurses := true, named := ["unicode/utf8.first", "unicode/utf8.acceptRanges"], apart := false, laid := [("unicode/utf8.acceptRanges", laid_unicode_utf8_acceptRanges), ("unicode/utf8.first", laid_unicode_utf8_first)] }
def StockPutsSaid : Prop := stockPutsRow.holds Tryd.pinned (OpenSpec.ofChange stockPutsSpec)

/-- ITS FALSE NEIGHBOUR: 'it returns false'. Refute it at one input. -/
def stockPutsWrong : ChangeSpec := { name := "stockPuts", fn := fun _ => fun
  | [d1, d2, d3] => { results := [.lit (.bool false)], args := [d1, d2, d3] }
  | _ => none }
def StockPutsWrongFalsely : Prop := stockPutsRow.holds Tryd.pinned (OpenSpec.ofChange stockPutsWrong)

/-- 'draymanlaw12.StockMoves': WHATEVER THE INPUT: true; the input reads as it did. -/
def stockMovesSpec : ChangeSpec := { name := "stockMoves", fn := fun _ => fun
  | [d1, d2, d3] => { results := [.lit (.bool true)], args := [d1, d2, d3] }
  | _ => none }
def stockMovesRow : OpenClaim := { program := "ytmoeohjaafpmgaadoor", sum := "3d8c571ec2df1a4b6f33a40d3a3d9fa1cefc227243ea3b7911d40ad17779cfb6", func := "drayman/draymanlaw12.StockMoves", spec := "stockMoves", unfollowed := true, recurses := true, named := ["unicode/utf8.first", "unicode/utf8.acceptRanges"], apart := false, laid := [("unicode/utf8.acceptRanges", laid_unicode_utf8_acceptRanges), ("unicode/utf8.first", laid_unicode_utf8_first)] }
def StockMovesSaid : Prop := stockMovesRow.holds Tryd.pinned (OpenSpec.ofChange stockMovesSpec)

/-- ITS FALSE NEIGHBOUR: 'it returns false'. Refute it at one input. -/
def stockMovesWrong : ChangeSpec := { name := "stockMoves", fn := fun _ => fun
  | [d1, d2, d3] => { results := [.lit (.bool false)], args := [d1, d2, d3] }
  | _ => none }
def StockMovesWrongFalsely : Prop := stockMovesRow.holds Tryd.pinned (OpenSpec.ofChange stockMovesWrong)

/-- 'draymanlaw12.StockBalance': WHATEVER THE INPUT: true; the input reads as it did. -/
def stockBalanceSpec : ChangeSpec := { name := "stockBalance", fn := fun _ => fun
  | [d] => { results := [.lit (.bool true)], args := [d] }
  | _ => none }
def stockBalanceRow : OpenClaim := { program := "ytmoeohjaafpmgaadoor", sum := "3d8c571ec2df1a4b6f33a40d3a3d9fa1cefc227243ea3b7911d40ad17779cfb6", func := "drayman/draymanlaw12.StockBalance", spec := "stockBalance", unfollowed := true, recurses := true, named := ["unicode/utf8.first", "unicode/utf8.acceptRanges"], apart := false, laid := [("unicode/utf8.acceptRanges", laid_unicode_utf8_acceptRanges), ("unicode/utf8.first", laid_unicode_utf8_first)] }
def StockBalanceSaid : Prop := stockBalanceRow.holds Tryd.pinned (OpenSpec.ofChange stockBalanceSpec)

/-- ITS FALSE NEIGHBOUR: 'it returns false'. Refute it at one input. -/
def stockBalanceWrong : ChangeSpec := { name := "stockBalance", fn := fun _ => fun
  | [d] => { results := [.lit (.bool false)], args := [d] }
  | _ => none }
def StockBalanceWrongFalsely : Prop := stockBalanceRow.holds Tryd.pinned (OpenSpec.ofChange stockBalanceWrong)

/-- 'draymanlaw12.StockBack': WHATEVER THE INPUT: true; the input reads as it did. -/
def stockBackSpec : ChangeSpec := { name := "stockBack", fn := fun _ => fun
  | [d1, d2] => { results := [.lit (.bool true)], args := [d1, d2] }
  | _ => none }
def stockBackRow : OpenClaim := { program := "ytmoeohjaafpmgaadoor", sum := "3d8c571ec2df1a4b6f33a40d3a3d9fa1cefc227243ea3b7911d40ad17779cfb6", func := "drayman/draymanlaw12.StockBack", spec := "stockBack", unfollowed := true, recurses := true, named := ["unicode/utf8.first", "unicode/utf8.acceptRanges"], apart := false, laid := [("unicode/utf8.acceptRanges", laid_unicode_utf8_acceptRanges), ("unicode/utf8.first", laid_unicode_utf8_first)] }
def StockBackSaid : Prop := stockBackRow.holds Tryd.pinned (OpenSpec.ofChange stockBackSpec)

/-- ITS FALSE NEIGHBOUR: 'it returns false'. Refute it at one input. -/
def stockBackWrong : ChangeSpec := { name := "stockBack", fn := fun _ => fun
  | [d1, d2] => { results := [.lit (.bool false)], args := [d1, d2] }
  | _ => none }
def StockBackWrongFalsely : Prop := stockBackRow.holds Tryd.pinned (OpenSpec.ofChange stockBackWrong)

/-- 'draymanlaw13.HoldsTurn': WHATEVER THE INPUT: true; the input reads as it did. -/
def holdsTurnSpec : ChangeSpec := { name := "holdsTurn", fn := fun _ => fun
  | [d1, d2, d3] => { results := [.lit (.bool true)], args := [d1, d2, d3] }
  | _ => none }
def holdsTurnRow : OpenClaim := { program := "ytmoeohjaafpmgaadoor", sum := "3d8c571ec2df1a4b6f33a40d3a3d9fa1cefc227243ea3b7911d40ad17779cfb6", func := "drayman/draymanlaw13.HoldsTurn", spec := "holdsTurn", unfollowed := true, recurses := true, named := ["unicode/utf8.first", "unicode/utf8.acceptRanges"], apart := false, laid := [("unicode/utf8.acceptRanges", laid_unicode_utf8_acceptRanges), ("unicode/utf8.first", laid_unicode_utf8_first)] }
def HoldsTurnSaid : Prop := holdsTurnRow.holds Tryd.pinned (OpenSpec.ofChange holdsTurnSpec)

/-- ITS FALSE NEIGHBOUR: 'it returns false'. Refute it at one input. -/
def holdsTurnWrong : ChangeSpec := { name := "holdsTurn", fn := fun _ => fun
  | [d1, d2, d3] => { results := [.lit (.bool false)], args := [d1, d2, d3] }
  | _ => none }
def HoldsTurnWrongFalsely : Prop := holdsTurnRow.holds Tryd.pinned (OpenSpec.ofChange holdsTurnWrong)

/-- 'draymanlaw13.HoldsTell': WHATEVER THE INPUT: true; the input reads as it did. -/
def holdsTellSpec : ChangeSpec := { name := "holdsTell", fn := fun _ => fun
  | [d1, d2, d3, d4] => { results := [.lit (.bool true)], args := [d1, d2, d3, d4] }
  | _ => none }
def holdsTellRow : OpenClaim := { program := "ytmoeohjaafpmgaadoor", sum := "3d8c571ec2df1a4b6f33a40d3a3d9fa1cefc227243ea3b7911d40ad17779cfb6", func := "drayman/draymanlaw13.HoldsTell", spec := "holdsTell", unfollowed := true, recurses := true, named := ["unicode/utf8.first", "unicode/utf8.acceptRanges"], apart := false, laid := [("unicode/utf8.acceptRanges", laid_unicode_utf8_acceptRanges), ("unicode/utf8.first", laid_unicode_utf8_first)] }
def HoldsTellSaid : Prop := holdsTellRow.holds Tryd.pinned (OpenSpec.ofChange holdsTellSpec)

/-- ITS FALSE NEIGHBOUR: 'it returns false'. Refute it at one input. -/
def holdsTellWrong : ChangeSpec := { name := "holdsTell", fn := fun _ => fun
  | [d1, d2, d3, d4] => { results := [.lit (.bool false)], args := [d1, d2, d3, d4] }
  | _ => none }
def HoldsTellWrongFalsely : Prop := holdsTellRow.holds Tryd.pinned (OpenSpec.ofChange holdsTellWrong)

/-- 'draymanlaw13.HoldsBack': WHATEVER THE INPUT: true; the input reads as it did. -/
def holdsBackSpec : ChangeSpec := { name := "holdsBack", fn := fun _ => fun
  | [d1, d2, d3] => { results := [.lit (.bool true)], args := [d1, d2, d3] }
  | _ => none }
def holdsBackRow : OpenClaim := { program := "ytmoeohjaafpmgaadoor", sum := "3d8c571ec2df1a4b6f33a40d3a3d9fa1cefc227243ea3b7911d40ad17779cfb6", func := "drayman/draymanlaw13.HoldsBack", spec := "holdsBack", unfollowed := true, recurses := true, named := ["unicode/utf8.first", "unicode/utf8.acceptRanges"], apart := false, laid := [("unicode/utf8.acceptRanges", laid_unicode_utf8_acceptRanges), ("unicode/utf8.first", laid_unicode_utf8_first)] }
def HoldsBackSaid : Prop := holdsBackRow.holds Tryd.pinned (OpenSpec.ofChange holdsBackSpec)

/-- ITS FALSE NEIGHBOUR: 'it returns false'. Refute it at one input. -/
def holdsBackWrong : ChangeSpec := { name := "holdsBack", fn := fun _ => fun
  | [d1, d2, d3] => { results := [.lit (.bool false)], args := [d1, d2, d3] }
  | _ => none }
def HoldsBackWrongFalsely : Prop := holdsBackRow.holds Tryd.pinned (OpenSpec.ofChange holdsBackWrong)

/-- 'draymanlaw24.SagaRules': WHATEVER THE INPUT: true; the input reads as it did. -/
def sagaRulesSpec : ChangeSpec := { name := "sagaRules", fn := fun _ => fun
  | [d1, d2] => { results := [.lit (.bool true)], args := [d1, d2] }
  | _ => none }
def sagaRulesRow : OpenClaim := { program := "ytmoeohjaafpmgaadoor", sum := "3d8c571ec2df1a4b6f33a40d3a3d9fa1cefc227243ea3b7911d40ad17779cfb6", func := "drayman/draymanlaw24.SagaRules", spec := "sagaRules", unfollowed := true, recurses := true, named := ["unicode/utf8.first", "unicode/utf8.acceptRanges"], apart := false, laid := [("unicode/utf8.acceptRanges", laid_unicode_utf8_acceptRanges), ("unicode/utf8.first", laid_unicode_utf8_first)] }
def SagaRulesSaid : Prop := sagaRulesRow.holds Tryd.pinned (OpenSpec.ofChange sagaRulesSpec)

/-- ITS FALSE NEIGHBOUR: 'it returns false'. Refute it at one input. -/
def sagaRulesWrong : ChangeSpec := { name := "sagaRules", fn := fun _ => fun
  | [d1, d2] => { results := [.lit (.bool false)], args := [d1, d2] }
  | _ => none }
def SagaRulesWrongFalsely : Prop := sagaRulesRow.holds Tryd.pinned (OpenSpec.ofChange sagaRulesWrong)

/- THE SECOND FORM. 'bulk': how many values and letters a reading holds, each counted each time it is reached (what is shared counts as often as it is met; a slice's spare places count too). A statement '..UptoSaid' is the law's where the arguments, and the package variables that the reading takes, are together of bulk at most 1048576: NARROWER than '..Said'. Prove '..Said' where nothing that the law and all that it calls make is longer than what came in: it says more and counts as full. Else prove '..UptoSaid'. A law counts once. -/
mutual
def uptoBulk {H : Type} : DataW H → Nat
  | .lit (.string bytes) => bytes.length + 1
  | .lit _ => 1
  | .nil => 1
  | .ptr d => uptoBulk d + 1
  | .slice elems spare => uptoBulkAll elems + uptoBulkAll spare + 1
  | .agg parts => uptoBulkAll parts + 1
  | .iface _ d => uptoBulk d + 1
  | .map entries => uptoBulkEntries entries + 1
  | .held _ => 1
def uptoBulkAll {H : Type} : List (DataW H) → Nat
  | [] => 0
  | d :: r => uptoBulk d + uptoBulkAll r
def uptoBulkEntries {H : Type} : List (Lit × DataW H) → Nat
  | [] => 0
  | x :: r => uptoBulkEntry x + uptoBulkEntries r
def uptoBulkEntry {H : Type} : Lit × DataW H → Nat
  | (.string bytes, d) => bytes.length + uptoBulk d + 1
  | (_, d) => uptoBulk d + 1
 end
def uptoSmall : (H : Type) → List (DataW H) → Bool := fun _ ds => decide (uptoBulkAll ds ≤ 1048576)
def OpenSpec.upto (s : _root_.Go.ChangeSpec) : _root_.Go.OpenSpec := { _root_.Go.OpenSpec.ofChange s with cond := some uptoSmall }

/-- 'draymanlaw12.StockPuts', WHERE WHAT IT READS IS OF BULK AT MOST 1048576: true; the input reads as it did. -/
def stockPutsUptoRow : OpenClaim := { program := "ytmoeohjaafpmgaadoor", sum := "3d8c571ec2df1a4b6f33a40d3a3d9fa1cefc227243ea3b7911d40ad17779cfb6", func := "drayman/draymanlaw12.StockPuts", spec := "stockPuts", unfollowed := true, recurses := true, named := ["unicode/utf8.first", "unicode/utf8.acceptRanges"], apart := false, laid := [("unicode/utf8.acceptRanges", laid_unicode_utf8_acceptRanges), ("unicode/utf8.first", laid_unicode_utf8_first)], narrowed := true }
def StockPutsUptoSaid : Prop := stockPutsUptoRow.holds Tryd.pinned (OpenSpec.upto stockPutsSpec)

/-- 'draymanlaw12.StockMoves', WHERE WHAT IT READS IS OF BULK AT MOST 1048576: true; the input reads as it did. -/
def stockMovesUptoRow : OpenClaim := { program := "ytmoeohjaafpmgaadoor", sum := "3d8c571ec2df1a4b6f33a40d3a3d9fa1cefc227243ea3b7911d40ad17779cfb6", func := "drayman/draymanlaw12.StockMoves", spec := "stockMoves", unfollowed := true, recurses := true, named := ["unicode/utf8.first", "unicode/utf8.acceptRanges"], apart := false, laid := [("unicode/utf8.acceptRanges", laid_unicode_utf8_acceptRanges), ("unicode/utf8.first", laid_unicode_utf8_first)], narrowed := true }
def StockMovesUptoSaid : Prop := stockMovesUptoRow.holds Tryd.pinned (OpenSpec.upto stockMovesSpec)

/-- 'draymanlaw12.StockBalance', WHERE WHAT IT READS IS OF BULK AT MOST 1048576: true; the input reads as it did. -/
def stockBalanceUptoRow : OpenClaim := { program := "ytmoeohjaafpmgaadoor", sum := "3d8c571ec2df1a4b6f33a40d3a3d9fa1cefc227243ea3b7911d40ad17779cfb6", func := "drayman/draymanlaw12.StockBalance", spec := "stockBalance", unfollowed := true, recurses := true, named := ["unicode/utf8.first", "unicode/utf8.acceptRanges"], apart := false, laid := [("unicode/utf8.acceptRanges", laid_unicode_utf8_acceptRanges), ("unicode/utf8.first", laid_unicode_utf8_first)], narrowed := true }
def StockBalanceUptoSaid : Prop := stockBalanceUptoRow.holds Tryd.pinned (OpenSpec.upto stockBalanceSpec)

/-- 'draymanlaw12.StockBack', WHERE WHAT IT READS IS OF BULK AT MOST 1048576: true; the input reads as it did. -/
def stockBackUptoRow : OpenClaim := { program := "ytmoeohjaafpmgaadoor", sum := "3d8c571ec2df1a4b6f33a40d3a3d9fa1cefc227243ea3b7911d40ad17779cfb6", func := "drayman/draymanlaw12.StockBack", spec := "stockBack", unfollowed := true, recurses := true, named := ["unicode/utf8.first", "unicode/utf8.acceptRanges"], apart := false, laid := [("unicode/utf8.acceptRanges", laid_unicode_utf8_acceptRanges), ("unicode/utf8.first", laid_unicode_utf8_first)], narrowed := true }
def StockBackUptoSaid : Prop := stockBackUptoRow.holds Tryd.pinned (OpenSpec.upto stockBackSpec)

/-- 'draymanlaw13.HoldsTurn', WHERE WHAT IT READS IS OF BULK AT MOST 1048576: true; the input reads as it did. -/
def holdsTurnUptoRow : OpenClaim := { program := "ytmoeohjaafpmgaadoor", sum := "3d8c571ec2df1a4b6f33a40d3a3d9fa1cefc227243ea3b7911d40ad17779cfb6", func := "drayman/draymanlaw13.HoldsTurn", spec := "holdsTurn", unfollowed := true, recurses := true, named := ["unicode/utf8.first", "unicode/utf8.acceptRanges"], apart := false, laid := [("unicode/utf8.acceptRanges", laid_unicode_utf8_acceptRanges), ("unicode/utf8.first", laid_unicode_utf8_first)], narrowed := true }
def HoldsTurnUptoSaid : Prop := holdsTurnUptoRow.holds Tryd.pinned (OpenSpec.upto holdsTurnSpec)

/-- 'draymanlaw13.HoldsTell', WHERE WHAT IT READS IS OF BULK AT MOST 1048576: true; the input reads as it did. -/
def holdsTellUptoRow : OpenClaim := { program := "ytmoeohjaafpmgaadoor", sum := "3d8c571ec2df1a4b6f33a40d3a3d9fa1cefc227243ea3b7911d40ad17779cfb6", func := "drayman/draymanlaw13.HoldsTell", spec := "holdsTell", unfollowed := true, recurses := true, named := ["unicode/utf8.first", "unicode/utf8.acceptRanges"], apart := false, laid := [("unicode/utf8.acceptRanges", laid_unicode_utf8_acceptRanges), ("unicode/utf8.first", laid_unicode_utf8_first)], narrowed := true }
def HoldsTellUptoSaid : Prop := holdsTellUptoRow.holds Tryd.pinned (OpenSpec.upto holdsTellSpec)

/-- 'draymanlaw13.HoldsBack', WHERE WHAT IT READS IS OF BULK AT MOST 1048576: true; the input reads as it did. -/
def holdsBackUptoRow : OpenClaim := { program := "ytmoeohjaafpmgaadoor", sum := "3d8c571ec2df1a4b6f33a40d3a3d9fa1cefc227243ea3b7911d40ad17779cfb6", func := "drayman/draymanlaw13.HoldsBack", spec := "holdsBack", unfollowed := true, recurses := true, named := ["unicode/utf8.first", "unicode/utf8.acceptRanges"], apart := false, laid := [("unicode/utf8.acceptRanges", laid_unicode_utf8_acceptRanges), ("unicode/utf8.first", laid_unicode_utf8_first)], narrowed := true }
def HoldsBackUptoSaid : Prop := holdsBackUptoRow.holds Tryd.pinned (OpenSpec.upto holdsBackSpec)

/-- 'draymanlaw24.SagaRules', WHERE WHAT IT READS IS OF BULK AT MOST 1048576: true; the input reads as it did. -/
def sagaRulesUptoRow : OpenClaim := { program := "ytmoeohjaafpmgaadoor", sum := "3d8c571ec2df1a4b6f33a40d3a3d9fa1cefc227243ea3b7911d40ad17779cfb6", func := "drayman/draymanlaw24.SagaRules", spec := "sagaRules", unfollowed := true, recurses := true, named := ["unicode/utf8.first", "unicode/utf8.acceptRanges"], apart := false, laid := [("unicode/utf8.acceptRanges", laid_unicode_utf8_acceptRanges), ("unicode/utf8.first", laid_unicode_utf8_first)], narrowed := true }
def SagaRulesUptoSaid : Prop := sagaRulesUptoRow.holds Tryd.pinned (OpenSpec.upto sagaRulesSpec)

end Rows
end Go.Proofs.YtmoeohjaafpmgaaDoor
