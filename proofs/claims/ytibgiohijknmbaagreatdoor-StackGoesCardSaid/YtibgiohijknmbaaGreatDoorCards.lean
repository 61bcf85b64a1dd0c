/-
  DERIVED. GIVEN WITH THE SEED: THE CARDS: each row of YtibgiohijknmbaaGreatDoorRows.lean that lists a variable, with what it lists TIED to the program's text (the seventh form; the later family's looks); each row that meets fmt, with fmt's text TOLD by the authors' own Lean function (tested against real Go, not proved from fmt's source: count such statements apart). THE CARD IS WHAT COUNTS. Prove the row's statement (the work); the ties are given (YtibgiohijknmbaaGreatDoorTie.lean); close each card by the builder's one call (the guide's Derived/Test/ToyasCard.lean, 'card_holds'). Laid BY PROGRAM, IN A SANDBOX (cutbox-door.mjs). By AI agents, Wed Nov 11 2026. No macro, syntax, notation, axiom, sorry.
-/
import Derived.Test.YtibgiohijknmbaaGreatDoorRows
import GoSem.ClaimSeven
namespace Go.Proofs.YtibgiohijknmbaaGreatDoor
namespace Rows

/-- THE TIED CARD OF 'carryalllaw27.StackNil'. -/
def stackNilCard : Claim7 := { stood := { row := stackNilRow, standIns := [], harness := (true, "3065b7268b499d9be64a83df9c0786a8dcd62240f7f14b831331270e32e5fb8d"), looks := true }, kinds := [], alts := [], laidByText := true, laidKinds := [.data, .data, .data, .data, .sentinel, .sentinel, .pinned], laidTests := true, laidLooks := .later }
def StackNilCardSaid : Prop := Claim7.holds Tryz.pinned (.plain (OpenSpec.ofChange stackNilSpec)) stackNilCard

/-- THE TIED CARD OF 'carryalllaw27.StackGoes'. -/
def stackGoesCard : Claim7 := { stood := { row := stackGoesRow, standIns := [], harness := (true, "3065b7268b499d9be64a83df9c0786a8dcd62240f7f14b831331270e32e5fb8d"), looks := true }, kinds := [], alts := [], laidByText := true, laidKinds := [.data, .data, .data, .data, .sentinel, .sentinel, .pinned], laidTests := true, laidLooks := .later }
def StackGoesCardSaid : Prop := Claim7.holds Tryz.pinned (.plain (OpenSpec.ofChange stackGoesSpec)) stackGoesCard

/-- THE TIED CARD OF 'carryalllaw27.StackBack'. -/
def stackBackCard : Claim7 := { stood := { row := stackBackRow, standIns := [], harness := (true, "3065b7268b499d9be64a83df9c0786a8dcd62240f7f14b831331270e32e5fb8d"), looks := true }, kinds := [], alts := [], laidByText := true, laidKinds := [.data, .data, .data, .data, .sentinel, .sentinel, .pinned], laidTests := true, laidLooks := .later }
def StackBackCardSaid : Prop := Claim7.holds Tryz.pinned (.plain (OpenSpec.ofChange stackBackSpec)) stackBackCard

/-- THE TIED CARD OF 'carryalllaw26.FetchParts'. -/
def fetchPartsCard : Claim7 := { stood := { row := fetchPartsRow, standIns := [], harness := (true, "3065b7268b499d9be64a83df9c0786a8dcd62240f7f14b831331270e32e5fb8d"), looks := true }, kinds := [], alts := [], laidByText := true, laidKinds := [.data, .data, .data, .data, .sentinel, .sentinel, .pinned], laidTests := true, laidLooks := .later }
def FetchPartsCardSaid : Prop := Claim7.holds Tryz.pinned (.plain (OpenSpec.ofChange fetchPartsSpec)) fetchPartsCard

/-- THE TIED CARD OF 'carryalllaw26.FetchNothing'. -/
def fetchNothingCard : Claim7 := { stood := { row := fetchNothingRow, standIns := [], harness := (true, "3065b7268b499d9be64a83df9c0786a8dcd62240f7f14b831331270e32e5fb8d"), looks := true }, kinds := [], alts := [], laidByText := true, laidKinds := [.data, .data, .data, .data, .sentinel, .sentinel, .pinned], laidTests := true, laidLooks := .later }
def FetchNothingCardSaid : Prop := Claim7.holds Tryz.pinned (.plain (OpenSpec.ofChange fetchNothingSpec)) fetchNothingCard

/-- THE SECOND FORM's CARD OF 'carryalllaw27.StackNil'. -/
def stackNilUptoCard : Claim7 := { stood := { row := stackNilUptoRow, standIns := [], harness := (true, "3065b7268b499d9be64a83df9c0786a8dcd62240f7f14b831331270e32e5fb8d"), looks := true }, kinds := [], alts := [], laidByText := true, laidKinds := [.data, .data, .data, .data, .sentinel, .sentinel, .pinned], laidTests := true, laidLooks := .later }
def StackNilUptoCardSaid : Prop := Claim7.holds Tryz.pinned (.plain (OpenSpec.upto stackNilSpec)) stackNilUptoCard

/-- THE SECOND FORM's CARD OF 'carryalllaw27.StackGoes'. -/
def stackGoesUptoCard : Claim7 := { stood := { row := stackGoesUptoRow, standIns := [], harness := (true, "3065b7268b499d9be64a83df9c0786a8dcd62240f7f14b831331270e32e5fb8d"), looks := true }, kinds := [], alts := [], laidByText := true, laidKinds := [.data, .data, .data, .data, .sentinel, .sentinel, .pinned], laidTests := true, laidLooks := .later }
def StackGoesUptoCardSaid : Prop := Claim7.holds Tryz.pinned (.plain (OpenSpec.upto stackGoesSpec)) stackGoesUptoCard

/-- THE SECOND FORM's CARD OF 'carryalllaw27.StackBack'. -/
def stackBackUptoCard : Claim7 := { stood := { row := stackBackUptoRow, standIns := [], harness := (true, "3065b7268b499d9be64a83df9c0786a8dcd62240f7f14b831331270e32e5fb8d"), looks := true }, kinds := [], alts := [], laidByText := true, laidKinds := [.data, .data, .data, .data, .sentinel, .sentinel, .pinned], laidTests := true, laidLooks := .later }
def StackBackUptoCardSaid : Prop := Claim7.holds Tryz.pinned (.plain (OpenSpec.upto stackBackSpec)) stackBackUptoCard

/-- THE SECOND FORM's CARD OF 'carryalllaw26.FetchParts'. -/
def fetchPartsUptoCard : Claim7 := { stood := { row := fetchPartsUptoRow, standIns := [], harness := (true, "3065b7268b499d9be64a83df9c0786a8dcd62240f7f14b831331270e32e5fb8d"), looks := true }, kinds := [], alts := [], laidByText := true, laidKinds := [.data, .data, .data, .data, .sentinel, .sentinel, .pinned], laidTests := true, laidLooks := .later }
def FetchPartsUptoCardSaid : Prop := Claim7.holds Tryz.pinned (.plain (OpenSpec.upto fetchPartsSpec)) fetchPartsUptoCard

/-- THE SECOND FORM's CARD OF 'carryalllaw26.FetchNothing'. -/
def fetchNothingUptoCard : Claim7 := { stood := { row := fetchNothingUptoRow, standIns := [], harness := (true, "3065b7268b499d9be64a83df9c0786a8dcd62240f7f14b831331270e32e5fb8d"), looks := true }, kinds := [], alts := [], laidByText := true, laidKinds := [.data, .data, .data, .data, .sentinel, .sentinel, .pinned], laidTests := true, laidLooks := .later }
def FetchNothingUptoCardSaid : Prop := Claim7.holds Tryz.pinned (.plain (OpenSpec.upto fetchNothingSpec)) fetchNothingUptoCard
end Rows
end Go.Proofs.YtibgiohijknmbaaGreatDoor
