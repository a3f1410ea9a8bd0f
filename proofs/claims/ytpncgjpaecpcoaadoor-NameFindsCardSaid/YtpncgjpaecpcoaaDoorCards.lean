/-
  DERIVED. GIVEN WITH THE SEED: THE CARDS: each row of YtpncgjpaecpcoaaDoorRows.lean that lists a variable, with what it lists TIED to the program's text (the seventh form; the later family's looks); each row that meets fmt, with fmt's text TOLD by the authors' own Lean function (tested against real Go, not proved from fmt's source: count such statements apart). THE CARD IS WHAT COUNTS. Prove the row's statement (the work); the ties are given (YtpncgjpaecpcoaaDoorTie.lean); close each card by the builder's one call (the guide's Derived/Test/ToyasCard.lean, 'card_holds'). Laid BY PROGRAM, IN A SANDBOX (cutbox-door.mjs). By AI agents, Wed Nov 11 2026. No macro, syntax, notation, axiom, sorry.
-/
import Derived.Test.YtpncgjpaecpcoaaDoorRows
import GoSem.ClaimSeven
namespace Go.Proofs.YtpncgjpaecpcoaaDoor
namespace Rows

/-- THE TIED CARD OF 'draymanlaw02.NameTells'. -/
def nameTellsCard : Claim7 := { stood := { row := nameTellsRow, standIns := [], harness := (true, "9c342c06eab9832531836deaa502abfd33956b94d928eb15a970fec42d0df9b6"), looks := false }, kinds := [], alts := [], laidByText := true, laidKinds := [.data, .pinned], laidTests := true, laidLooks := .later }
def NameTellsCardSaid : Prop := Claim7.holds Tryd.pinned (.plain (OpenSpec.ofChange nameTellsSpec)) nameTellsCard

/-- THE TIED CARD OF 'draymanlaw02.NameFolds'. -/
def nameFoldsCard : Claim7 := { stood := { row := nameFoldsRow, standIns := [], harness := (true, "9c342c06eab9832531836deaa502abfd33956b94d928eb15a970fec42d0df9b6"), looks := false }, kinds := [], alts := [], laidByText := true, laidKinds := [.data, .pinned], laidTests := true, laidLooks := .later }
def NameFoldsCardSaid : Prop := Claim7.holds Tryd.pinned (.plain (OpenSpec.ofChange nameFoldsSpec)) nameFoldsCard

/-- THE TIED CARD OF 'draymanlaw02.NameFinds'. -/
def nameFindsCard : Claim7 := { stood := { row := nameFindsRow, standIns := [], harness := (true, "9c342c06eab9832531836deaa502abfd33956b94d928eb15a970fec42d0df9b6"), looks := false }, kinds := [], alts := [], laidByText := true, laidKinds := [.data, .pinned], laidTests := true, laidLooks := .later }
def NameFindsCardSaid : Prop := Claim7.holds Tryd.pinned (.plain (OpenSpec.ofChange nameFindsSpec)) nameFindsCard

/-- THE TIED CARD OF 'draymanlaw02.NameAgain'. -/
def nameAgainCard : Claim7 := { stood := { row := nameAgainRow, standIns := [], harness := (true, "9c342c06eab9832531836deaa502abfd33956b94d928eb15a970fec42d0df9b6"), looks := false }, kinds := [], alts := [], laidByText := true, laidKinds := [.data, .pinned], laidTests := true, laidLooks := .later }
def NameAgainCardSaid : Prop := Claim7.holds Tryd.pinned (.plain (OpenSpec.ofChange nameAgainSpec)) nameAgainCard

/-- THE TIED CARD OF 'draymanlaw02.NameOrders'. -/
def nameOrdersCard : Claim7 := { stood := { row := nameOrdersRow, standIns := [], harness := (true, "9c342c06eab9832531836deaa502abfd33956b94d928eb15a970fec42d0df9b6"), looks := false }, kinds := [], alts := [], laidByText := true, laidKinds := [.data, .pinned], laidTests := true, laidLooks := .later }
def NameOrdersCardSaid : Prop := Claim7.holds Tryd.pinned (.plain (OpenSpec.ofChange nameOrdersSpec)) nameOrdersCard

/-- THE SECOND FORM's CARD OF 'draymanlaw02.NameTells'. -/
def nameTellsUptoCard : Claim7 := { stood := { row := nameTellsUptoRow, standIns := [], harness := (true, "9c342c06eab9832531836deaa502abfd33956b94d928eb15a970fec42d0df9b6"), looks := false }, kinds := [], alts := [], laidByText := true, laidKinds := [.data, .pinned], laidTests := true, laidLooks := .later }
def NameTellsUptoCardSaid : Prop := Claim7.holds Tryd.pinned (.plain (OpenSpec.upto nameTellsSpec)) nameTellsUptoCard

/-- THE SECOND FORM's CARD OF 'draymanlaw02.NameFolds'. -/
def nameFoldsUptoCard : Claim7 := { stood := { row := nameFoldsUptoRow, standIns := [], harness := (true, "9c342c06eab9832531836deaa502abfd33956b94d928eb15a970fec42d0df9b6"), looks := false }, kinds := [], alts := [], laidByText := true, laidKinds := [.data, .pinned], laidTests := true, laidLooks := .later }
def NameFoldsUptoCardSaid : Prop := Claim7.holds Tryd.pinned (.plain (OpenSpec.upto nameFoldsSpec)) nameFoldsUptoCard

/-- THE SECOND FORM's CARD OF 'draymanlaw02.NameFinds'. -/
def nameFindsUptoCard : Claim7 := { stood := { row := nameFindsUptoRow, standIns := [], harness := (true, "9c342c06eab9832531836deaa502abfd33956b94d928eb15a970fec42d0df9b6"), looks := false }, kinds := [], alts := [], laidByText := true, laidKinds := [.data, .pinned], laidTests := true, laidLooks := .later }
def NameFindsUptoCardSaid : Prop := Claim7.holds Tryd.pinned (.plain (OpenSpec.upto nameFindsSpec)) nameFindsUptoCard

/-- THE SECOND FORM's CARD OF 'draymanlaw02.NameAgain'. -/
def nameAgainUptoCard : Claim7 := { stood := { row := nameAgainUptoRow, standIns := [], harness := (true, "9c342c06eab9832531836deaa502abfd33956b94d928eb15a970fec42d0df9b6"), looks := false }, kinds := [], alts := [], laidByText := true, laidKinds := [.data, .pinned], laidTests := true, laidLooks := .later }
def NameAgainUptoCardSaid : Prop := Claim7.holds Tryd.pinned (.plain (OpenSpec.upto nameAgainSpec)) nameAgainUptoCard

/-- THE SECOND FORM's CARD OF 'draymanlaw02.NameOrders'. -/
def nameOrdersUptoCard : Claim7 := { stood := { row := nameOrdersUptoRow, standIns := [], harness := (true, "9c342c06eab9832531836deaa502abfd33956b94d928eb15a970fec42d0df9b6"), looks := false }, kinds := [], alts := [], laidByText := true, laidKinds := [.data, .pinned], laidTests := true, laidLooks := .later }
def NameOrdersUptoCardSaid : Prop := Claim7.holds Tryd.pinned (.plain (OpenSpec.upto nameOrdersSpec)) nameOrdersUptoCard
end Rows
end Go.Proofs.YtpncgjpaecpcoaaDoor
