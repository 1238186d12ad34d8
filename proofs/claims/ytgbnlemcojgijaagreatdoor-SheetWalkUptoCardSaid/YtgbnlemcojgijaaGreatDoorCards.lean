/-
  DERIVED. GIVEN WITH THE SEED: THE CARDS: each row of YtgbnlemcojgijaaGreatDoorRows.lean that lists a variable, with what it lists TIED to the program's text (the seventh form; the later family's looks); each row that meets fmt, with fmt's text TOLD by the authors' own Lean function (tested against real Go, not proved from fmt's source: count such statements apart). THE CARD IS WHAT COUNTS. Prove the row's statement (the work); the ties are given (YtgbnlemcojgijaaGreatDoorTie.lean); close each card by the builder's one call (the guide's Derived/Test/ToyasCard.lean, 'card_holds'). Laid BY PROGRAM, IN A SANDBOX (cutbox-door.mjs). By AI agents, Wed Nov 11 2026. No macro, syntax, notation, axiom, sorry.
-/
import Derived.Test.YtgbnlemcojgijaaGreatDoorRows
import GoSem.ClaimSeven
namespace Go.Proofs.YtgbnlemcojgijaaGreatDoor
namespace Rows

/-- THE TIED CARD OF 'daybooklaw17.SheetSides'. -/
def sheetSidesCard : Claim7 := { stood := { row := sheetSidesRow, standIns := [], harness := (true, "f8be5a854b665821dd95162e1b083b7f21006cfec66ba7d719e71b00a6b91bb1"), looks := true }, kinds := [], alts := [], laidByText := true, laidKinds := [.data, .data, .data, .data, .sentinel, .sentinel, .data, .pinned], laidTests := true, laidLooks := .later }
def SheetSidesCardSaid : Prop := Claim7.holds Tryz.pinned (.plain (OpenSpec.ofChange sheetSidesSpec)) sheetSidesCard

/-- THE TIED CARD OF 'daybooklaw17.SheetDays'. -/
def sheetDaysCard : Claim7 := { stood := { row := sheetDaysRow, standIns := [], harness := (true, "f8be5a854b665821dd95162e1b083b7f21006cfec66ba7d719e71b00a6b91bb1"), looks := true }, kinds := [], alts := [], laidByText := true, laidKinds := [.data, .data, .data, .data, .sentinel, .sentinel, .data, .pinned], laidTests := true, laidLooks := .later }
def SheetDaysCardSaid : Prop := Claim7.holds Tryz.pinned (.plain (OpenSpec.ofChange sheetDaysSpec)) sheetDaysCard

/-- THE TIED CARD OF 'daybooklaw17.SheetWalk'. -/
def sheetWalkCard : Claim7 := { stood := { row := sheetWalkRow, standIns := [], harness := (true, "f8be5a854b665821dd95162e1b083b7f21006cfec66ba7d719e71b00a6b91bb1"), looks := true }, kinds := [], alts := [], laidByText := true, laidKinds := [.data, .data, .data, .data, .pinned], laidTests := true, laidLooks := .later }
def SheetWalkCardSaid : Prop := Claim7.holds Tryz.pinned (.plain (OpenSpec.ofChange sheetWalkSpec)) sheetWalkCard

/-- THE TIED CARD OF 'daybooklaw17.SheetTrees'. -/
def sheetTreesCard : Claim7 := { stood := { row := sheetTreesRow, standIns := [], harness := (true, "f8be5a854b665821dd95162e1b083b7f21006cfec66ba7d719e71b00a6b91bb1"), looks := true }, kinds := [], alts := [], laidByText := true, laidKinds := [.data, .data, .data, .data, .pinned], laidTests := true, laidLooks := .later }
def SheetTreesCardSaid : Prop := Claim7.holds Tryz.pinned (.plain (OpenSpec.ofChange sheetTreesSpec)) sheetTreesCard

/-- THE TIED CARD OF 'daybooklaw17.SheetBytes'. -/
def sheetBytesCard : Claim7 := { stood := { row := sheetBytesRow, standIns := [], harness := (true, "f8be5a854b665821dd95162e1b083b7f21006cfec66ba7d719e71b00a6b91bb1"), looks := true }, kinds := [], alts := [], laidByText := true, laidKinds := [.data, .data, .data, .data, .data, .pinned], laidTests := true, laidLooks := .later }
def SheetBytesCardSaid : Prop := Claim7.holds Tryz.pinned (.plain (OpenSpec.ofChange sheetBytesSpec)) sheetBytesCard

/-- THE SECOND FORM's CARD OF 'daybooklaw17.SheetSides'. -/
def sheetSidesUptoCard : Claim7 := { stood := { row := sheetSidesUptoRow, standIns := [], harness := (true, "f8be5a854b665821dd95162e1b083b7f21006cfec66ba7d719e71b00a6b91bb1"), looks := true }, kinds := [], alts := [], laidByText := true, laidKinds := [.data, .data, .data, .data, .sentinel, .sentinel, .data, .pinned], laidTests := true, laidLooks := .later }
def SheetSidesUptoCardSaid : Prop := Claim7.holds Tryz.pinned (.plain (OpenSpec.upto sheetSidesSpec)) sheetSidesUptoCard

/-- THE SECOND FORM's CARD OF 'daybooklaw17.SheetDays'. -/
def sheetDaysUptoCard : Claim7 := { stood := { row := sheetDaysUptoRow, standIns := [], harness := (true, "f8be5a854b665821dd95162e1b083b7f21006cfec66ba7d719e71b00a6b91bb1"), looks := true }, kinds := [], alts := [], laidByText := true, laidKinds := [.data, .data, .data, .data, .sentinel, .sentinel, .data, .pinned], laidTests := true, laidLooks := .later }
def SheetDaysUptoCardSaid : Prop := Claim7.holds Tryz.pinned (.plain (OpenSpec.upto sheetDaysSpec)) sheetDaysUptoCard

/-- THE SECOND FORM's CARD OF 'daybooklaw17.SheetWalk'. -/
def sheetWalkUptoCard : Claim7 := { stood := { row := sheetWalkUptoRow, standIns := [], harness := (true, "f8be5a854b665821dd95162e1b083b7f21006cfec66ba7d719e71b00a6b91bb1"), looks := true }, kinds := [], alts := [], laidByText := true, laidKinds := [.data, .data, .data, .data, .pinned], laidTests := true, laidLooks := .later }
def SheetWalkUptoCardSaid : Prop := Claim7.holds Tryz.pinned (.plain (OpenSpec.upto sheetWalkSpec)) sheetWalkUptoCard

/-- THE SECOND FORM's CARD OF 'daybooklaw17.SheetTrees'. -/
def sheetTreesUptoCard : Claim7 := { stood := { row := sheetTreesUptoRow, standIns := [], harness := (true, "f8be5a854b665821dd95162e1b083b7f21006cfec66ba7d719e71b00a6b91bb1"), looks := true }, kinds := [], alts := [], laidByText := true, laidKinds := [.data, .data, .data, .data, .pinned], laidTests := true, laidLooks := .later }
def SheetTreesUptoCardSaid : Prop := Claim7.holds Tryz.pinned (.plain (OpenSpec.upto sheetTreesSpec)) sheetTreesUptoCard

/-- THE SECOND FORM's CARD OF 'daybooklaw17.SheetBytes'. -/
def sheetBytesUptoCard : Claim7 := { stood := { row := sheetBytesUptoRow, standIns := [], harness := (true, "f8be5a854b665821dd95162e1b083b7f21006cfec66ba7d719e71b00a6b91bb1"), looks := true }, kinds := [], alts := [], laidByText := true, laidKinds := [.data, .data, .data, .data, .data, .pinned], laidTests := true, laidLooks := .later }
def SheetBytesUptoCardSaid : Prop := Claim7.holds Tryz.pinned (.plain (OpenSpec.upto sheetBytesSpec)) sheetBytesUptoCard
end Rows
end Go.Proofs.YtgbnlemcojgijaaGreatDoor
