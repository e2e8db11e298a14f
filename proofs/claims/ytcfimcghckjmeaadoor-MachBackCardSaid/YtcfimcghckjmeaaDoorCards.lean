/-
  DERIVED. GIVEN WITH THE SEED: THE CARDS: each row of YtcfimcghckjmeaaDoorRows.lean that lists a variable, with what it lists TIED to the program's text (the seventh form; the later family's looks); each row that meets fmt, with fmt's text TOLD by the authors' own Lean function (tested against real Go, not proved from fmt's source: count such statements apart). THE CARD IS WHAT COUNTS. Prove the row's statement (the work); the ties are given (YtcfimcghckjmeaaDoorTie.lean); close each card by the builder's one call (the guide's Derived/Test/ToyasCard.lean, 'card_holds'). Laid BY PROGRAM, IN A SANDBOX (cutbox-door.mjs). By AI agents, Wed Nov 11 2026. No macro, syntax, notation, axiom, sorry.
-/
import Derived.Test.YtcfimcghckjmeaaDoorRows
import GoSem.ClaimSeven
namespace Go.Proofs.YtcfimcghckjmeaaDoor
namespace Rows

/-- THE TIED CARD OF 'intarsialaw05.MachFew'. -/
def machFewCard : Claim7 := { stood := { row := machFewRow, standIns := [], harness := (true, "1e2454fd483997db6d784a1f287ddb970075adbca80d17a4570481d364ee793f"), looks := true }, kinds := [], alts := [], laidByText := true, laidKinds := [.data, .data, .data, .sentinel, .sentinel], laidTests := true, laidLooks := .later }
def MachFewCardSaid : Prop := Claim7.holds Tryd.pinned (.plain (OpenSpec.ofChange machFewSpec)) machFewCard

/-- THE TIED CARD OF 'intarsialaw05.MachBack'. -/
def machBackCard : Claim7 := { stood := { row := machBackRow, standIns := [], harness := (true, "1e2454fd483997db6d784a1f287ddb970075adbca80d17a4570481d364ee793f"), looks := true }, kinds := [], alts := [], laidByText := true, laidKinds := [.data, .data, .data, .sentinel, .sentinel], laidTests := true, laidLooks := .later }
def MachBackCardSaid : Prop := Claim7.holds Tryd.pinned (.plain (OpenSpec.ofChange machBackSpec)) machBackCard

/-- THE SECOND FORM's CARD OF 'intarsialaw05.MachFew'. -/
def machFewUptoCard : Claim7 := { stood := { row := machFewUptoRow, standIns := [], harness := (true, "1e2454fd483997db6d784a1f287ddb970075adbca80d17a4570481d364ee793f"), looks := true }, kinds := [], alts := [], laidByText := true, laidKinds := [.data, .data, .data, .sentinel, .sentinel], laidTests := true, laidLooks := .later }
def MachFewUptoCardSaid : Prop := Claim7.holds Tryd.pinned (.plain (OpenSpec.upto machFewSpec)) machFewUptoCard

/-- THE SECOND FORM's CARD OF 'intarsialaw05.MachBack'. -/
def machBackUptoCard : Claim7 := { stood := { row := machBackUptoRow, standIns := [], harness := (true, "1e2454fd483997db6d784a1f287ddb970075adbca80d17a4570481d364ee793f"), looks := true }, kinds := [], alts := [], laidByText := true, laidKinds := [.data, .data, .data, .sentinel, .sentinel], laidTests := true, laidLooks := .later }
def MachBackUptoCardSaid : Prop := Claim7.holds Tryd.pinned (.plain (OpenSpec.upto machBackSpec)) machBackUptoCard
end Rows
end Go.Proofs.YtcfimcghckjmeaaDoor
