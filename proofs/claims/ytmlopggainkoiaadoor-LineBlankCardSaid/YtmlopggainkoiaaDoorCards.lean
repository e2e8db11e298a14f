/-
  DERIVED. GIVEN WITH THE SEED: THE CARDS: each row of YtmlopggainkoiaaDoorRows.lean that lists a variable, with what it lists TIED to the program's text (the seventh form; the later family's looks); each row that meets fmt, with fmt's text TOLD by the authors' own Lean function (tested against real Go, not proved from fmt's source: count such statements apart). THE CARD IS WHAT COUNTS. Prove the row's statement (the work); the ties are given (YtmlopggainkoiaaDoorTie.lean); close each card by the builder's one call (the guide's Derived/Test/ToyasCard.lean, 'card_holds'). Laid BY PROGRAM, IN A SANDBOX (cutbox-door.mjs). By AI agents, Wed Nov 11 2026. No macro, syntax, notation, axiom, sorry.
-/
import Derived.Test.YtmlopggainkoiaaDoorRows
import GoSem.ClaimSeven
namespace Go.Proofs.YtmlopggainkoiaaDoor
namespace Rows

/-- THE TIED CARD OF 'intarsialaw01.WordPlaces'. -/
def wordPlacesCard : Claim7 := { stood := { row := wordPlacesRow, standIns := [], harness := (true, "c01577351dce7865bb8db03818e9337951f796a9ffc17163223742211ce772da"), looks := true }, kinds := [], alts := [], laidByText := true, laidKinds := [.data, .data, .data, .sentinel, .sentinel], laidTests := true, laidLooks := .later }
def WordPlacesCardSaid : Prop := Claim7.holds Tryd.pinned (.plain (OpenSpec.ofChange wordPlacesSpec)) wordPlacesCard

/-- THE TIED CARD OF 'intarsialaw01.WordReads'. -/
def wordReadsCard : Claim7 := { stood := { row := wordReadsRow, standIns := [], harness := (true, "c01577351dce7865bb8db03818e9337951f796a9ffc17163223742211ce772da"), looks := true }, kinds := [], alts := [], laidByText := true, laidKinds := [.data, .data, .data, .sentinel, .sentinel], laidTests := true, laidLooks := .later }
def WordReadsCardSaid : Prop := Claim7.holds Tryd.pinned (.plain (OpenSpec.ofChange wordReadsSpec)) wordReadsCard

/-- THE TIED CARD OF 'intarsialaw01.WordShows'. -/
def wordShowsCard : Claim7 := { stood := { row := wordShowsRow, standIns := [], harness := (true, "c01577351dce7865bb8db03818e9337951f796a9ffc17163223742211ce772da"), looks := true }, kinds := [], alts := [], laidByText := true, laidKinds := [.data, .data, .data, .data, .sentinel, .sentinel, .pinned], laidTests := true, laidLooks := .later }
def WordShowsCardSaid : Prop := Claim7.holds Tryd.pinned (.plain (OpenSpec.ofChange wordShowsSpec)) wordShowsCard

/-- THE TIED CARD OF 'intarsialaw01.WordEnds'. -/
def wordEndsCard : Claim7 := { stood := { row := wordEndsRow, standIns := [], harness := (true, "c01577351dce7865bb8db03818e9337951f796a9ffc17163223742211ce772da"), looks := true }, kinds := [], alts := [], laidByText := true, laidKinds := [.data, .data, .data, .data, .sentinel, .sentinel, .pinned], laidTests := true, laidLooks := .later }
def WordEndsCardSaid : Prop := Claim7.holds Tryd.pinned (.plain (OpenSpec.ofChange wordEndsSpec)) wordEndsCard

/-- THE TIED CARD OF 'intarsialaw01.WordBack'. -/
def wordBackCard : Claim7 := { stood := { row := wordBackRow, standIns := [], harness := (true, "c01577351dce7865bb8db03818e9337951f796a9ffc17163223742211ce772da"), looks := true }, kinds := [], alts := [], laidByText := true, laidKinds := [.data, .data, .data, .data, .sentinel, .sentinel, .pinned], laidTests := true, laidLooks := .later }
def WordBackCardSaid : Prop := Claim7.holds Tryd.pinned (.plain (OpenSpec.ofChange wordBackSpec)) wordBackCard

/-- THE TIED CARD OF 'intarsialaw02.LineAll'. -/
def lineAllCard : Claim7 := { stood := { row := lineAllRow, standIns := [], harness := (true, "c01577351dce7865bb8db03818e9337951f796a9ffc17163223742211ce772da"), looks := true }, kinds := [], alts := [], laidByText := true, laidKinds := [.data, .data, .data, .sentinel, .sentinel], laidTests := true, laidLooks := .later }
def LineAllCardSaid : Prop := Claim7.holds Tryd.pinned (.plain (OpenSpec.ofChange lineAllSpec)) lineAllCard

/-- THE TIED CARD OF 'intarsialaw02.LineBlank'. -/
def lineBlankCard : Claim7 := { stood := { row := lineBlankRow, standIns := [], harness := (true, "c01577351dce7865bb8db03818e9337951f796a9ffc17163223742211ce772da"), looks := true }, kinds := [], alts := [], laidByText := true, laidKinds := [.data, .data, .data, .sentinel, .sentinel], laidTests := true, laidLooks := .later }
def LineBlankCardSaid : Prop := Claim7.holds Tryd.pinned (.plain (OpenSpec.ofChange lineBlankSpec)) lineBlankCard

/-- THE TIED CARD OF 'intarsialaw02.LineGets'. -/
def lineGetsCard : Claim7 := { stood := { row := lineGetsRow, standIns := [], harness := (true, "c01577351dce7865bb8db03818e9337951f796a9ffc17163223742211ce772da"), looks := true }, kinds := [], alts := [], laidByText := true, laidKinds := [.data, .data, .data, .sentinel, .sentinel], laidTests := true, laidLooks := .later }
def LineGetsCardSaid : Prop := Claim7.holds Tryd.pinned (.plain (OpenSpec.ofChange lineGetsSpec)) lineGetsCard

/-- THE TIED CARD OF 'intarsialaw02.LineEnds'. -/
def lineEndsCard : Claim7 := { stood := { row := lineEndsRow, standIns := [], harness := (true, "c01577351dce7865bb8db03818e9337951f796a9ffc17163223742211ce772da"), looks := true }, kinds := [], alts := [], laidByText := true, laidKinds := [.data, .data, .data, .sentinel, .sentinel], laidTests := true, laidLooks := .later }
def LineEndsCardSaid : Prop := Claim7.holds Tryd.pinned (.plain (OpenSpec.ofChange lineEndsSpec)) lineEndsCard

/-- THE SECOND FORM's CARD OF 'intarsialaw01.WordPlaces'. -/
def wordPlacesUptoCard : Claim7 := { stood := { row := wordPlacesUptoRow, standIns := [], harness := (true, "c01577351dce7865bb8db03818e9337951f796a9ffc17163223742211ce772da"), looks := true }, kinds := [], alts := [], laidByText := true, laidKinds := [.data, .data, .data, .sentinel, .sentinel], laidTests := true, laidLooks := .later }
def WordPlacesUptoCardSaid : Prop := Claim7.holds Tryd.pinned (.plain (OpenSpec.upto wordPlacesSpec)) wordPlacesUptoCard

/-- THE SECOND FORM's CARD OF 'intarsialaw01.WordReads'. -/
def wordReadsUptoCard : Claim7 := { stood := { row := wordReadsUptoRow, standIns := [], harness := (true, "c01577351dce7865bb8db03818e9337951f796a9ffc17163223742211ce772da"), looks := true }, kinds := [], alts := [], laidByText := true, laidKinds := [.data, .data, .data, .sentinel, .sentinel], laidTests := true, laidLooks := .later }
def WordReadsUptoCardSaid : Prop := Claim7.holds Tryd.pinned (.plain (OpenSpec.upto wordReadsSpec)) wordReadsUptoCard

/-- THE SECOND FORM's CARD OF 'intarsialaw01.WordShows'. -/
def wordShowsUptoCard : Claim7 := { stood := { row := wordShowsUptoRow, standIns := [], harness := (true, "c01577351dce7865bb8db03818e9337951f796a9ffc17163223742211ce772da"), looks := true }, kinds := [], alts := [], laidByText := true, laidKinds := [.data, .data, .data, .data, .sentinel, .sentinel, .pinned], laidTests := true, laidLooks := .later }
def WordShowsUptoCardSaid : Prop := Claim7.holds Tryd.pinned (.plain (OpenSpec.upto wordShowsSpec)) wordShowsUptoCard

/-- THE SECOND FORM's CARD OF 'intarsialaw01.WordEnds'. -/
def wordEndsUptoCard : Claim7 := { stood := { row := wordEndsUptoRow, standIns := [], harness := (true, "c01577351dce7865bb8db03818e9337951f796a9ffc17163223742211ce772da"), looks := true }, kinds := [], alts := [], laidByText := true, laidKinds := [.data, .data, .data, .data, .sentinel, .sentinel, .pinned], laidTests := true, laidLooks := .later }
def WordEndsUptoCardSaid : Prop := Claim7.holds Tryd.pinned (.plain (OpenSpec.upto wordEndsSpec)) wordEndsUptoCard

/-- THE SECOND FORM's CARD OF 'intarsialaw01.WordBack'. -/
def wordBackUptoCard : Claim7 := { stood := { row := wordBackUptoRow, standIns := [], harness := (true, "c01577351dce7865bb8db03818e9337951f796a9ffc17163223742211ce772da"), looks := true }, kinds := [], alts := [], laidByText := true, laidKinds := [.data, .data, .data, .data, .sentinel, .sentinel, .pinned], laidTests := true, laidLooks := .later }
def WordBackUptoCardSaid : Prop := Claim7.holds Tryd.pinned (.plain (OpenSpec.upto wordBackSpec)) wordBackUptoCard

/-- THE SECOND FORM's CARD OF 'intarsialaw02.LineAll'. -/
def lineAllUptoCard : Claim7 := { stood := { row := lineAllUptoRow, standIns := [], harness := (true, "c01577351dce7865bb8db03818e9337951f796a9ffc17163223742211ce772da"), looks := true }, kinds := [], alts := [], laidByText := true, laidKinds := [.data, .data, .data, .sentinel, .sentinel], laidTests := true, laidLooks := .later }
def LineAllUptoCardSaid : Prop := Claim7.holds Tryd.pinned (.plain (OpenSpec.upto lineAllSpec)) lineAllUptoCard

/-- THE SECOND FORM's CARD OF 'intarsialaw02.LineBlank'. -/
def lineBlankUptoCard : Claim7 := { stood := { row := lineBlankUptoRow, standIns := [], harness := (true, "c01577351dce7865bb8db03818e9337951f796a9ffc17163223742211ce772da"), looks := true }, kinds := [], alts := [], laidByText := true, laidKinds := [.data, .data, .data, .sentinel, .sentinel], laidTests := true, laidLooks := .later }
def LineBlankUptoCardSaid : Prop := Claim7.holds Tryd.pinned (.plain (OpenSpec.upto lineBlankSpec)) lineBlankUptoCard

/-- THE SECOND FORM's CARD OF 'intarsialaw02.LineGets'. -/
def lineGetsUptoCard : Claim7 := { stood := { row := lineGetsUptoRow, standIns := [], harness := (true, "c01577351dce7865bb8db03818e9337951f796a9ffc17163223742211ce772da"), looks := true }, kinds := [], alts := [], laidByText := true, laidKinds := [.data, .data, .data, .sentinel, .sentinel], laidTests := true, laidLooks := .later }
def LineGetsUptoCardSaid : Prop := Claim7.holds Tryd.pinned (.plain (OpenSpec.upto lineGetsSpec)) lineGetsUptoCard

/-- THE SECOND FORM's CARD OF 'intarsialaw02.LineEnds'. -/
def lineEndsUptoCard : Claim7 := { stood := { row := lineEndsUptoRow, standIns := [], harness := (true, "c01577351dce7865bb8db03818e9337951f796a9ffc17163223742211ce772da"), looks := true }, kinds := [], alts := [], laidByText := true, laidKinds := [.data, .data, .data, .sentinel, .sentinel], laidTests := true, laidLooks := .later }
def LineEndsUptoCardSaid : Prop := Claim7.holds Tryd.pinned (.plain (OpenSpec.upto lineEndsSpec)) lineEndsUptoCard
end Rows
end Go.Proofs.YtmlopggainkoiaaDoor
