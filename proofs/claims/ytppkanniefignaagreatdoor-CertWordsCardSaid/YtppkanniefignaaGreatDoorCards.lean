/-
  DERIVED. GIVEN WITH THE SEED: THE CARDS: each row of YtppkanniefignaaGreatDoorRows.lean that lists a variable, with what it lists TIED to the program's text (the seventh form; the later family's looks); each row that meets fmt, with fmt's text TOLD by the authors' own Lean function (tested against real Go, not proved from fmt's source: count such statements apart). THE CARD IS WHAT COUNTS. Prove the row's statement (the work); the ties are given (YtppkanniefignaaGreatDoorTie.lean); close each card by the builder's one call (the guide's Derived/Test/ToyasCard.lean, 'card_holds'). Laid BY PROGRAM, IN A SANDBOX (cutbox-door.mjs). By AI agents, Wed Nov 11 2026. No macro, syntax, notation, axiom, sorry.
-/
import Derived.Test.YtppkanniefignaaGreatDoorRows
import GoSem.ClaimSeven
namespace Go.Proofs.YtppkanniefignaaGreatDoor
namespace Rows

/-- THE TIED CARD OF 'intarsialaw28.CertParses'. -/
def certParsesCard : Claim7 := { stood := { row := certParsesRow, standIns := [], harness := (true, "3b40a5ee51f533148c9c5277cb83f7671a0b3c8b4d8f51cd00f2c8d77c88ac7a"), looks := true }, kinds := [], alts := [], laidByText := true, laidKinds := [.data, .data, .data, .sentinel, .sentinel], laidTests := true, laidLooks := .later }
def CertParsesCardSaid : Prop := Claim7.holds Tryz.pinned (.plain (OpenSpec.ofChange certParsesSpec)) certParsesCard

/-- THE TIED CARD OF 'intarsialaw28.CertPrints'. -/
def certPrintsCard : Claim7 := { stood := { row := certPrintsRow, standIns := [], harness := (true, "3b40a5ee51f533148c9c5277cb83f7671a0b3c8b4d8f51cd00f2c8d77c88ac7a"), looks := true }, kinds := [], alts := [], laidByText := true, laidKinds := [.data, .data, .data, .sentinel, .sentinel], laidTests := true, laidLooks := .later }
def CertPrintsCardSaid : Prop := Claim7.holds Tryz.pinned (.plain (OpenSpec.ofChange certPrintsSpec)) certPrintsCard

/-- THE TIED CARD OF 'intarsialaw28.CertBack'. -/
def certBackCard : Claim7 := { stood := { row := certBackRow, standIns := [], harness := (true, "3b40a5ee51f533148c9c5277cb83f7671a0b3c8b4d8f51cd00f2c8d77c88ac7a"), looks := true }, kinds := [], alts := [], laidByText := true, laidKinds := [.data, .data, .data, .data, .sentinel, .sentinel, .pinned], laidTests := true, laidLooks := .later }
def CertBackCardSaid : Prop := Claim7.holds Tryz.pinned (.plain (OpenSpec.ofChange certBackSpec)) certBackCard

/-- THE TIED CARD OF 'intarsialaw28.CertWords'. -/
def certWordsCard : Claim7 := { stood := { row := certWordsRow, standIns := [], harness := (true, "3b40a5ee51f533148c9c5277cb83f7671a0b3c8b4d8f51cd00f2c8d77c88ac7a"), looks := true }, kinds := [], alts := [], laidByText := true, laidKinds := [.data, .data, .data, .data, .sentinel, .sentinel, .pinned], laidTests := true, laidLooks := .later }
def CertWordsCardSaid : Prop := Claim7.holds Tryz.pinned (.plain (OpenSpec.ofChange certWordsSpec)) certWordsCard

/-- THE SECOND FORM's CARD OF 'intarsialaw28.CertParses'. -/
def certParsesUptoCard : Claim7 := { stood := { row := certParsesUptoRow, standIns := [], harness := (true, "3b40a5ee51f533148c9c5277cb83f7671a0b3c8b4d8f51cd00f2c8d77c88ac7a"), looks := true }, kinds := [], alts := [], laidByText := true, laidKinds := [.data, .data, .data, .sentinel, .sentinel], laidTests := true, laidLooks := .later }
def CertParsesUptoCardSaid : Prop := Claim7.holds Tryz.pinned (.plain (OpenSpec.upto certParsesSpec)) certParsesUptoCard

/-- THE SECOND FORM's CARD OF 'intarsialaw28.CertPrints'. -/
def certPrintsUptoCard : Claim7 := { stood := { row := certPrintsUptoRow, standIns := [], harness := (true, "3b40a5ee51f533148c9c5277cb83f7671a0b3c8b4d8f51cd00f2c8d77c88ac7a"), looks := true }, kinds := [], alts := [], laidByText := true, laidKinds := [.data, .data, .data, .sentinel, .sentinel], laidTests := true, laidLooks := .later }
def CertPrintsUptoCardSaid : Prop := Claim7.holds Tryz.pinned (.plain (OpenSpec.upto certPrintsSpec)) certPrintsUptoCard

/-- THE SECOND FORM's CARD OF 'intarsialaw28.CertBack'. -/
def certBackUptoCard : Claim7 := { stood := { row := certBackUptoRow, standIns := [], harness := (true, "3b40a5ee51f533148c9c5277cb83f7671a0b3c8b4d8f51cd00f2c8d77c88ac7a"), looks := true }, kinds := [], alts := [], laidByText := true, laidKinds := [.data, .data, .data, .data, .sentinel, .sentinel, .pinned], laidTests := true, laidLooks := .later }
def CertBackUptoCardSaid : Prop := Claim7.holds Tryz.pinned (.plain (OpenSpec.upto certBackSpec)) certBackUptoCard

/-- THE SECOND FORM's CARD OF 'intarsialaw28.CertWords'. -/
def certWordsUptoCard : Claim7 := { stood := { row := certWordsUptoRow, standIns := [], harness := (true, "3b40a5ee51f533148c9c5277cb83f7671a0b3c8b4d8f51cd00f2c8d77c88ac7a"), looks := true }, kinds := [], alts := [], laidByText := true, laidKinds := [.data, .data, .data, .data, .sentinel, .sentinel, .pinned], laidTests := true, laidLooks := .later }
def CertWordsUptoCardSaid : Prop := Claim7.holds Tryz.pinned (.plain (OpenSpec.upto certWordsSpec)) certWordsUptoCard
end Rows
end Go.Proofs.YtppkanniefignaaGreatDoor
