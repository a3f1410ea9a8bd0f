/-
  DERIVED. GIVEN WITH THE SEED: THE CARDS: each row of YtmoeohjaafpmgaaDoorRows.lean that lists a variable, with what it lists TIED to the program's text (the seventh form; the later family's looks); each row that meets fmt, with fmt's text TOLD by the authors' own Lean function (tested against real Go, not proved from fmt's source: count such statements apart). THE CARD IS WHAT COUNTS. Prove the row's statement (the work); the ties are given (YtmoeohjaafpmgaaDoorTie.lean); close each card by the builder's one call (the guide's Derived/Test/ToyasCard.lean, 'card_holds'). Laid BY PROGRAM, IN A SANDBOX (cutbox-door.mjs). By AI agents, Wed Nov 11 2026. No macro, syntax, notation, axiom, sorry.
-/
import Derived.Test.YtmoeohjaafpmgaaDoorRows
import GoSem.ClaimSeven
namespace Go.Proofs.YtmoeohjaafpmgaaDoor
namespace Rows

/-- THE TIED CARD OF 'draymanlaw12.StockPuts'. -/
def stockPutsCard : Claim7 := { stood := { row := stockPutsRow, standIns := [], harness := (true, "22d094b246c32aac10524d834b19935eae640dea1df61806da43543ce79630cc"), looks := false }, kinds := [], alts := [], laidByText := true, laidKinds := [.data, .pinned], laidTests := true, laidLooks := .later }
def StockPutsCardSaid : Prop := Claim7.holds Tryd.pinned (.plain (OpenSpec.ofChange stockPutsSpec)) stockPutsCard

/-- THE TIED CARD OF 'draymanlaw12.StockMoves'. -/
def stockMovesCard : Claim7 := { stood := { row := stockMovesRow, standIns := [], harness := (true, "22d094b246c32aac10524d834b19935eae640dea1df61806da43543ce79630cc"), looks := false }, kinds := [], alts := [], laidByText := true, laidKinds := [.data, .pinned], laidTests := true, laidLooks := .later }
def StockMovesCardSaid : Prop := Claim7.holds Tryd.pinned (.plain (OpenSpec.ofChange stockMovesSpec)) stockMovesCard

/-- THE TIED CARD OF 'draymanlaw12.StockBalance'. -/
def stockBalanceCard : Claim7 := { stood := { row := stockBalanceRow, standIns := [], harness := (true, "22d094b246c32aac10524d834b19935eae640dea1df61806da43543ce79630cc"), looks := false }, kinds := [], alts := [], laidByText := true, laidKinds := [.data, .pinned], laidTests := true, laidLooks := .later }
def StockBalanceCardSaid : Prop := Claim7.holds Tryd.pinned (.plain (OpenSpec.ofChange stockBalanceSpec)) stockBalanceCard

/-- THE TIED CARD OF 'draymanlaw12.StockBack'. -/
def stockBackCard : Claim7 := { stood := { row := stockBackRow, standIns := [], harness := (true, "22d094b246c32aac10524d834b19935eae640dea1df61806da43543ce79630cc"), looks := false }, kinds := [], alts := [], laidByText := true, laidKinds := [.data, .pinned], laidTests := true, laidLooks := .later }
def StockBackCardSaid : Prop := Claim7.holds Tryd.pinned (.plain (OpenSpec.ofChange stockBackSpec)) stockBackCard

/-- THE TIED CARD OF 'draymanlaw13.HoldsTurn'. -/
def holdsTurnCard : Claim7 := { stood := { row := holdsTurnRow, standIns := [], harness := (true, "22d094b246c32aac10524d834b19935eae640dea1df61806da43543ce79630cc"), looks := false }, kinds := [], alts := [], laidByText := true, laidKinds := [.data, .pinned], laidTests := true, laidLooks := .later }
def HoldsTurnCardSaid : Prop := Claim7.holds Tryd.pinned (.plain (OpenSpec.ofChange holdsTurnSpec)) holdsTurnCard

/-- THE TIED CARD OF 'draymanlaw13.HoldsTell'. -/
def holdsTellCard : Claim7 := { stood := { row := holdsTellRow, standIns := [], harness := (true, "22d094b246c32aac10524d834b19935eae640dea1df61806da43543ce79630cc"), looks := false }, kinds := [], alts := [], laidByText := true, laidKinds := [.data, .pinned], laidTests := true, laidLooks := .later }
def HoldsTellCardSaid : Prop := Claim7.holds Tryd.pinned (.plain (OpenSpec.ofChange holdsTellSpec)) holdsTellCard

/-- THE TIED CARD OF 'draymanlaw13.HoldsBack'. -/
def holdsBackCard : Claim7 := { stood := { row := holdsBackRow, standIns := [], harness := (true, "22d094b246c32aac10524d834b19935eae640dea1df61806da43543ce79630cc"), looks := false }, kinds := [], alts := [], laidByText := true, laidKinds := [.data, .pinned], laidTests := true, laidLooks := .later }
def HoldsBackCardSaid : Prop := Claim7.holds Tryd.pinned (.plain (OpenSpec.ofChange holdsBackSpec)) holdsBackCard

/-- THE TIED CARD OF 'draymanlaw24.SagaRules'. -/
def sagaRulesCard : Claim7 := { stood := { row := sagaRulesRow, standIns := [], harness := (true, "22d094b246c32aac10524d834b19935eae640dea1df61806da43543ce79630cc"), looks := false }, kinds := [], alts := [], laidByText := true, laidKinds := [.data, .pinned], laidTests := true, laidLooks := .later }
def SagaRulesCardSaid : Prop := Claim7.holds Tryd.pinned (.plain (OpenSpec.ofChange sagaRulesSpec)) sagaRulesCard

/-- THE SECOND FORM's CARD OF 'draymanlaw12.StockPuts'. -/
def stockPutsUptoCard : Claim7 := { stood := { row := stockPutsUptoRow, standIns := [], harness := (true, "22d094b246c32aac10524d834b19935eae640dea1df61806da43543ce79630cc"), looks := false }, kinds := [], alts := [], laidByText := true, laidKinds := [.data, .pinned], laidTests := true, laidLooks := .later }
def StockPutsUptoCardSaid : Prop := Claim7.holds Tryd.pinned (.plain (OpenSpec.upto stockPutsSpec)) stockPutsUptoCard

/-- THE SECOND FORM's CARD OF 'draymanlaw12.StockMoves'. -/
def stockMovesUptoCard : Claim7 := { stood := { row := stockMovesUptoRow, standIns := [], harness := (true, "22d094b246c32aac10524d834b19935eae640dea1df61806da43543ce79630cc"), looks := false }, kinds := [], alts := [], laidByText := true, laidKinds := [.data, .pinned], laidTests := true, laidLooks := .later }
def StockMovesUptoCardSaid : Prop := Claim7.holds Tryd.pinned (.plain (OpenSpec.upto stockMovesSpec)) stockMovesUptoCard

/-- THE SECOND FORM's CARD OF 'draymanlaw12.StockBalance'. -/
def stockBalanceUptoCard : Claim7 := { stood := { row := stockBalanceUptoRow, standIns := [], harness := (true, "22d094b246c32aac10524d834b19935eae640dea1df61806da43543ce79630cc"), looks := false }, kinds := [], alts := [], laidByText := true, laidKinds := [.data, .pinned], laidTests := true, laidLooks := .later }
def StockBalanceUptoCardSaid : Prop := Claim7.holds Tryd.pinned (.plain (OpenSpec.upto stockBalanceSpec)) stockBalanceUptoCard

/-- THE SECOND FORM's CARD OF 'draymanlaw12.StockBack'. -/
def stockBackUptoCard : Claim7 := { stood := { row := stockBackUptoRow, standIns := [], harness := (true, "22d094b246c32aac10524d834b19935eae640dea1df61806da43543ce79630cc"), looks := false }, kinds := [], alts := [], laidByText := true, laidKinds := [.data, .pinned], laidTests := true, laidLooks := .later }
def StockBackUptoCardSaid : Prop := Claim7.holds Tryd.pinned (.plain (OpenSpec.upto stockBackSpec)) stockBackUptoCard

/-- THE SECOND FORM's CARD OF 'draymanlaw13.HoldsTurn'. -/
def holdsTurnUptoCard : Claim7 := { stood := { row := holdsTurnUptoRow, standIns := [], harness := (true, "22d094b246c32aac10524d834b19935eae640dea1df61806da43543ce79630cc"), looks := false }, kinds := [], alts := [], laidByText := true, laidKinds := [.data, .pinned], laidTests := true, laidLooks := .later }
def HoldsTurnUptoCardSaid : Prop := Claim7.holds Tryd.pinned (.plain (OpenSpec.upto holdsTurnSpec)) holdsTurnUptoCard

/-- THE SECOND FORM's CARD OF 'draymanlaw13.HoldsTell'. -/
def holdsTellUptoCard : Claim7 := { stood := { row := holdsTellUptoRow, standIns := [], harness := (true, "22d094b246c32aac10524d834b19935eae640dea1df61806da43543ce79630cc"), looks := false }, kinds := [], alts := [], laidByText := true, laidKinds := [.data, .pinned], laidTests := true, laidLooks := .later }
def HoldsTellUptoCardSaid : Prop := Claim7.holds Tryd.pinned (.plain (OpenSpec.upto holdsTellSpec)) holdsTellUptoCard

/-- THE SECOND FORM's CARD OF 'draymanlaw13.HoldsBack'. -/
def holdsBackUptoCard : Claim7 := { stood := { row := holdsBackUptoRow, standIns := [], harness := (true, "22d094b246c32aac10524d834b19935eae640dea1df61806da43543ce79630cc"), looks := false }, kinds := [], alts := [], laidByText := true, laidKinds := [.data, .pinned], laidTests := true, laidLooks := .later }
def HoldsBackUptoCardSaid : Prop := Claim7.holds Tryd.pinned (.plain (OpenSpec.upto holdsBackSpec)) holdsBackUptoCard

/-- THE SECOND FORM's CARD OF 'draymanlaw24.SagaRules'. -/
def sagaRulesUptoCard : Claim7 := { stood := { row := sagaRulesUptoRow, standIns := [], harness := (true, "22d094b246c32aac10524d834b19935eae640dea1df61806da43543ce79630cc"), looks := false }, kinds := [], alts := [], laidByText := true, laidKinds := [.data, .pinned], laidTests := true, laidLooks := .later }
def SagaRulesUptoCardSaid : Prop := Claim7.holds Tryd.pinned (.plain (OpenSpec.upto sagaRulesSpec)) sagaRulesUptoCard
end Rows
end Go.Proofs.YtmoeohjaafpmgaaDoor
