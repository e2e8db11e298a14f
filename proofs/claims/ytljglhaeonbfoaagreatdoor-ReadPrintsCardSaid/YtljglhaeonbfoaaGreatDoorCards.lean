/-
  DERIVED. GIVEN WITH THE SEED: THE CARDS: each row of YtljglhaeonbfoaaGreatDoorRows.lean that lists a variable, with what it lists TIED to the program's text (the seventh form; the later family's looks); each row that meets fmt, with fmt's text TOLD by the authors' own Lean function (tested against real Go, not proved from fmt's source: count such statements apart). THE CARD IS WHAT COUNTS. Prove the row's statement (the work); the ties are given (YtljglhaeonbfoaaGreatDoorTie.lean); close each card by the builder's one call (the guide's Derived/Test/ToyasCard.lean, 'card_holds'). Laid BY PROGRAM, IN A SANDBOX (cutbox-door.mjs). By AI agents, Wed Nov 11 2026. No macro, syntax, notation, axiom, sorry.
-/
import Derived.Test.YtljglhaeonbfoaaGreatDoorRows
import GoSem.ClaimSeven
namespace Go.Proofs.YtljglhaeonbfoaaGreatDoor
namespace Rows

/-- THE TIED CARD OF 'intarsialaw04.ReadPrints'. -/
def readPrintsCard : Claim7 := { stood := { row := readPrintsRow, standIns := [], harness := (true, "f816065d5e99acf0182f3ebc264a5400c28cb8e76df32d43aefd1a22926c6537"), looks := true }, kinds := [], alts := [], laidByText := true, laidKinds := [.data, .data, .data, .sentinel, .sentinel], laidTests := true, laidLooks := .later }
def ReadPrintsCardSaid : Prop := Claim7.holds Tryz.pinned (.plain (OpenSpec.ofChange readPrintsSpec)) readPrintsCard

/-- THE TIED CARD OF 'intarsialaw04.ReadParses'. -/
def readParsesCard : Claim7 := { stood := { row := readParsesRow, standIns := [], harness := (true, "f816065d5e99acf0182f3ebc264a5400c28cb8e76df32d43aefd1a22926c6537"), looks := true }, kinds := [], alts := [], laidByText := true, laidKinds := [.data, .data, .data, .sentinel, .sentinel], laidTests := true, laidLooks := .later }
def ReadParsesCardSaid : Prop := Claim7.holds Tryz.pinned (.plain (OpenSpec.ofChange readParsesSpec)) readParsesCard

/-- THE TIED CARD OF 'intarsialaw04.ReadLines'. -/
def readLinesCard : Claim7 := { stood := { row := readLinesRow, standIns := [], harness := (true, "f816065d5e99acf0182f3ebc264a5400c28cb8e76df32d43aefd1a22926c6537"), looks := true }, kinds := [], alts := [], laidByText := true, laidKinds := [.data, .data, .data, .sentinel, .sentinel], laidTests := true, laidLooks := .later }
def ReadLinesCardSaid : Prop := Claim7.holds Tryz.pinned (.plain (OpenSpec.ofChange readLinesSpec)) readLinesCard

/-- THE TIED CARD OF 'intarsialaw04.ReadBlank'. -/
def readBlankCard : Claim7 := { stood := { row := readBlankRow, standIns := [], harness := (true, "f816065d5e99acf0182f3ebc264a5400c28cb8e76df32d43aefd1a22926c6537"), looks := true }, kinds := [], alts := [], laidByText := true, laidKinds := [.data, .data, .data, .sentinel, .sentinel], laidTests := true, laidLooks := .later }
def ReadBlankCardSaid : Prop := Claim7.holds Tryz.pinned (.plain (OpenSpec.ofChange readBlankSpec)) readBlankCard

/-- THE TIED CARD OF 'intarsialaw04.ReadBack'. -/
def readBackCard : Claim7 := { stood := { row := readBackRow, standIns := [], harness := (true, "f816065d5e99acf0182f3ebc264a5400c28cb8e76df32d43aefd1a22926c6537"), looks := true }, kinds := [], alts := [], laidByText := true, laidKinds := [.data, .data, .data, .sentinel, .sentinel], laidTests := true, laidLooks := .later }
def ReadBackCardSaid : Prop := Claim7.holds Tryz.pinned (.plain (OpenSpec.ofChange readBackSpec)) readBackCard

/-- THE SECOND FORM's CARD OF 'intarsialaw04.ReadPrints'. -/
def readPrintsUptoCard : Claim7 := { stood := { row := readPrintsUptoRow, standIns := [], harness := (true, "f816065d5e99acf0182f3ebc264a5400c28cb8e76df32d43aefd1a22926c6537"), looks := true }, kinds := [], alts := [], laidByText := true, laidKinds := [.data, .data, .data, .sentinel, .sentinel], laidTests := true, laidLooks := .later }
def ReadPrintsUptoCardSaid : Prop := Claim7.holds Tryz.pinned (.plain (OpenSpec.upto readPrintsSpec)) readPrintsUptoCard

/-- THE SECOND FORM's CARD OF 'intarsialaw04.ReadParses'. -/
def readParsesUptoCard : Claim7 := { stood := { row := readParsesUptoRow, standIns := [], harness := (true, "f816065d5e99acf0182f3ebc264a5400c28cb8e76df32d43aefd1a22926c6537"), looks := true }, kinds := [], alts := [], laidByText := true, laidKinds := [.data, .data, .data, .sentinel, .sentinel], laidTests := true, laidLooks := .later }
def ReadParsesUptoCardSaid : Prop := Claim7.holds Tryz.pinned (.plain (OpenSpec.upto readParsesSpec)) readParsesUptoCard

/-- THE SECOND FORM's CARD OF 'intarsialaw04.ReadLines'. -/
def readLinesUptoCard : Claim7 := { stood := { row := readLinesUptoRow, standIns := [], harness := (true, "f816065d5e99acf0182f3ebc264a5400c28cb8e76df32d43aefd1a22926c6537"), looks := true }, kinds := [], alts := [], laidByText := true, laidKinds := [.data, .data, .data, .sentinel, .sentinel], laidTests := true, laidLooks := .later }
def ReadLinesUptoCardSaid : Prop := Claim7.holds Tryz.pinned (.plain (OpenSpec.upto readLinesSpec)) readLinesUptoCard

/-- THE SECOND FORM's CARD OF 'intarsialaw04.ReadBlank'. -/
def readBlankUptoCard : Claim7 := { stood := { row := readBlankUptoRow, standIns := [], harness := (true, "f816065d5e99acf0182f3ebc264a5400c28cb8e76df32d43aefd1a22926c6537"), looks := true }, kinds := [], alts := [], laidByText := true, laidKinds := [.data, .data, .data, .sentinel, .sentinel], laidTests := true, laidLooks := .later }
def ReadBlankUptoCardSaid : Prop := Claim7.holds Tryz.pinned (.plain (OpenSpec.upto readBlankSpec)) readBlankUptoCard

/-- THE SECOND FORM's CARD OF 'intarsialaw04.ReadBack'. -/
def readBackUptoCard : Claim7 := { stood := { row := readBackUptoRow, standIns := [], harness := (true, "f816065d5e99acf0182f3ebc264a5400c28cb8e76df32d43aefd1a22926c6537"), looks := true }, kinds := [], alts := [], laidByText := true, laidKinds := [.data, .data, .data, .sentinel, .sentinel], laidTests := true, laidLooks := .later }
def ReadBackUptoCardSaid : Prop := Claim7.holds Tryz.pinned (.plain (OpenSpec.upto readBackSpec)) readBackUptoCard
end Rows
end Go.Proofs.YtljglhaeonbfoaaGreatDoor
