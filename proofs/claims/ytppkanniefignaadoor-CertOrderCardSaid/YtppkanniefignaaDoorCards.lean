/-
  DERIVED. GIVEN WITH THE SEED: THE CARDS: each row of YtppkanniefignaaDoorRows.lean that lists a variable, with what it lists TIED to the program's text (the seventh form; the later family's looks); each row that meets fmt, with fmt's text TOLD by the authors' own Lean function (tested against real Go, not proved from fmt's source: count such statements apart). THE CARD IS WHAT COUNTS. Prove the row's statement (the work); the ties are given (YtppkanniefignaaDoorTie.lean); close each card by the builder's one call (the guide's Derived/Test/ToyasCard.lean, 'card_holds'). Laid BY PROGRAM, IN A SANDBOX (cutbox-door.mjs). By AI agents, Wed Nov 11 2026. No macro, syntax, notation, axiom, sorry.
-/
import Derived.Test.YtppkanniefignaaDoorRows
import GoSem.ClaimSeven
namespace Go.Proofs.YtppkanniefignaaDoor
namespace Rows

/-- THE TIED CARD OF 'intarsialaw28.CertOrder'. -/
def certOrderCard : Claim7 := { stood := { row := certOrderRow, standIns := [], harness := (true, "947d351c272fecf4c89145a707cf67b859133c3fcc284e277783f29ad5fe8850"), looks := true }, kinds := [], alts := [], laidByText := true, laidKinds := [.data, .data, .data, .sentinel, .sentinel], laidTests := true, laidLooks := .later }
def CertOrderCardSaid : Prop := Claim7.holds Tryd.pinned (.plain (OpenSpec.ofChange certOrderSpec)) certOrderCard

/-- THE SECOND FORM's CARD OF 'intarsialaw28.CertOrder'. -/
def certOrderUptoCard : Claim7 := { stood := { row := certOrderUptoRow, standIns := [], harness := (true, "947d351c272fecf4c89145a707cf67b859133c3fcc284e277783f29ad5fe8850"), looks := true }, kinds := [], alts := [], laidByText := true, laidKinds := [.data, .data, .data, .sentinel, .sentinel], laidTests := true, laidLooks := .later }
def CertOrderUptoCardSaid : Prop := Claim7.holds Tryd.pinned (.plain (OpenSpec.upto certOrderSpec)) certOrderUptoCard
end Rows
end Go.Proofs.YtppkanniefignaaDoor
