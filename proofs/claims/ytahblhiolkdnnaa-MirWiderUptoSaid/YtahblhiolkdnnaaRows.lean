/-
  No cell of these rows narrows 'for every input' (looked for: loops, veiled, ifaces, maps, wideKeys, modest, calm, conditions, laid).
  DERIVED. THE GIVEN ROWS OF THIS SEAT. 5 by the template 'for every input the law returns true; each argument reads behind the call as it read before'; 0 by the template 'total and deterministic' (their statements: YtahblhiolkdnnaaTotals.lean).
  GIVEN WITH THE SEED: the statements are not yours to turn. If you find one false, say at which input.
  Laid BY PROGRAM, IN A SANDBOX (cutbox-rows.mjs): the forced cells as the released guide's own fill.sh prints them over the translation 9528bb59e8ae40c4… (all of the seat's roots in one cut). By AI agents, Wed Nov 11 2026. No macro, syntax, notation, axiom, sorry.
-/
import Derived.Test.YtahblhiolkdnnaaChecked
import GoSem.Claim
import GoSem.ClaimJoined
import GoSem.ClaimMapViews
import Derived.JoinedTies
import Derived.KernelRfl
namespace Go.Proofs.Ytahblhiolkdnnaa
/- THE CELL 'sum', in the pinned program and in every row, IS THE sha256 OF THE DUMP (.gsa) THAT YtahblhiolkdnnaaProg.lean LOADS. Nothing in Lean hashes anything: it is a label: what it is worth is what the hold of that sum in a sandbox is worth. -/
noncomputable def Try.pinned : Pinned := { name := "ytahblhiolkdnnaa", sum := "9528bb59e8ae40c461eab73510372c3e772d8adab750e12262022a1def3305b6", checked := Try.checked }
namespace Rows
def none {H : Type} : Left H := { results := [], args := [] }

/-- 'intarsialaw06.MirWider': WHATEVER THE INPUT: true; the input reads as it did. -/
def mirWiderSpec : ChangeSpec := { name := "mirWider", fn := fun _ => fun
  | [d1, d2, d3, d4] => { results := [.lit (.bool true)], args := [d1, d2, d3, d4] }
  | _ => none }
def mirWiderRow : OpenClaim := { program := "ytahblhiolkdnnaa", sum := "9528bb59e8ae40c461eab73510372c3e772d8adab750e12262022a1def3305b6", func := "intarsia/intarsialaw06.MirWider", spec := "mirWider", unfollowed := true, recurses := true, apart := false }
def MirWiderSaid : Prop := mirWiderRow.holds Try.pinned (OpenSpec.ofChange mirWiderSpec)

/-- ITS FALSE NEIGHBOUR: 'it returns false'. Refute it at one input. -/
def mirWiderWrong : ChangeSpec := { name := "mirWider", fn := fun _ => fun
  | [d1, d2, d3, d4] => { results := [.lit (.bool false)], args := [d1, d2, d3, d4] }
  | _ => none }
def MirWiderWrongFalsely : Prop := mirWiderRow.holds Try.pinned (OpenSpec.ofChange mirWiderWrong)

/-- 'intarsialaw06.MirTells': WHATEVER THE INPUT: true; the input reads as it did. -/
def mirTellsSpec : ChangeSpec := { name := "mirTells", fn := fun _ => fun
  | [d1, d2] => { results := [.lit (.bool true)], args := [d1, d2] }
  | _ => none }
def mirTellsRow : OpenClaim := { program := "ytahblhiolkdnnaa", sum := "9528bb59e8ae40c461eab73510372c3e772d8adab750e12262022a1def3305b6", func := "intarsia/intarsialaw06.MirTells", spec := "mirTells", unfollowed := true, recurses := true, apart := false }
def MirTellsSaid : Prop := mirTellsRow.holds Try.pinned (OpenSpec.ofChange mirTellsSpec)

/-- ITS FALSE NEIGHBOUR: 'it returns false'. Refute it at one input. -/
def mirTellsWrong : ChangeSpec := { name := "mirTells", fn := fun _ => fun
  | [d1, d2] => { results := [.lit (.bool false)], args := [d1, d2] }
  | _ => none }
def MirTellsWrongFalsely : Prop := mirTellsRow.holds Try.pinned (OpenSpec.ofChange mirTellsWrong)

/-- 'intarsialaw06.MirParts': WHATEVER THE INPUT: true; the input reads as it did. -/
def mirPartsSpec : ChangeSpec := { name := "mirParts", fn := fun _ => fun
  | [d1, d2, d3] => { results := [.lit (.bool true)], args := [d1, d2, d3] }
  | _ => none }
def mirPartsRow : OpenClaim := { program := "ytahblhiolkdnnaa", sum := "9528bb59e8ae40c461eab73510372c3e772d8adab750e12262022a1def3305b6", func := "intarsia/intarsialaw06.MirParts", spec := "mirParts", unfollowed := true, recurses := true, apart := false }
def MirPartsSaid : Prop := mirPartsRow.holds Try.pinned (OpenSpec.ofChange mirPartsSpec)

/-- ITS FALSE NEIGHBOUR: 'it returns false'. Refute it at one input. -/
def mirPartsWrong : ChangeSpec := { name := "mirParts", fn := fun _ => fun
  | [d1, d2, d3] => { results := [.lit (.bool false)], args := [d1, d2, d3] }
  | _ => none }
def MirPartsWrongFalsely : Prop := mirPartsRow.holds Try.pinned (OpenSpec.ofChange mirPartsWrong)

/-- 'intarsialaw06.MirEnds': WHATEVER THE INPUT: true; the input reads as it did. -/
def mirEndsSpec : ChangeSpec := { name := "mirEnds", fn := fun _ => fun
  | [] => { results := [.lit (.bool true)], args := [] }
  | _ => none }
def mirEndsRow : OpenClaim := { program := "ytahblhiolkdnnaa", sum := "9528bb59e8ae40c461eab73510372c3e772d8adab750e12262022a1def3305b6", func := "intarsia/intarsialaw06.MirEnds", spec := "mirEnds", unfollowed := true, recurses := true, apart := false }
def MirEndsSaid : Prop := mirEndsRow.holds Try.pinned (OpenSpec.ofChange mirEndsSpec)

/-- ITS FALSE NEIGHBOUR: 'it returns false'. Refute it at one input. -/
def mirEndsWrong : ChangeSpec := { name := "mirEnds", fn := fun _ => fun
  | [] => { results := [.lit (.bool false)], args := [] }
  | _ => none }
def MirEndsWrongFalsely : Prop := mirEndsRow.holds Try.pinned (OpenSpec.ofChange mirEndsWrong)

/-- 'intarsialaw06.MirPlaces': WHATEVER THE INPUT: true; the input reads as it did. -/
def mirPlacesSpec : ChangeSpec := { name := "mirPlaces", fn := fun _ => fun
  | [d1, d2] => { results := [.lit (.bool true)], args := [d1, d2] }
  | _ => none }
def mirPlacesRow : OpenClaim := { program := "ytahblhiolkdnnaa", sum := "9528bb59e8ae40c461eab73510372c3e772d8adab750e12262022a1def3305b6", func := "intarsia/intarsialaw06.MirPlaces", spec := "mirPlaces", unfollowed := true, recurses := true, apart := false }
def MirPlacesSaid : Prop := mirPlacesRow.holds Try.pinned (OpenSpec.ofChange mirPlacesSpec)

/-- ITS FALSE NEIGHBOUR: 'it returns false'. Refute it at one input. -/
def mirPlacesWrong : ChangeSpec := { name := "mirPlaces", fn := fun _ => fun
  | [d1, d2] => { results := [.lit (.bool false)], args := [d1, d2] }
  | _ => none }
def MirPlacesWrongFalsely : Prop := mirPlacesRow.holds Try.pinned (OpenSpec.ofChange mirPlacesWrong)

/- THE SECOND FORM. 'bulk': how many values and letters a reading holds, each counted each time it is reached (what is shared counts as often as it is met; a slice's spare places count too). A statement '..UptoSaid' is the law's where the arguments, and the package variables that the reading takes, are together of bulk at most 1048576: NARROWER than '..Said'. Prove '..Said' where nothing that the law and all that it calls make is longer than what came in: it says more and counts as full. Else prove '..UptoSaid'. A law counts once. -/
mutual
def uptoBulk {H : Type} : DataW H → Nat
  | .lit (.string bytes) => bytes.length + 1
  | .lit _ => 1
  | .nil => 1
  | .ptr d => uptoBulk d + 1
  | .slice elems spare => uptoBulkAll elems + uptoBulkAll spare + 1
  | .agg parts => uptoBulkAll parts + 1
  | .iface _ d => uptoBulk d + 1
  | .map entries => uptoBulkEntries entries + 1
  | .held _ => 1
def uptoBulkAll {H : Type} : List (DataW H) → Nat
  | [] => 0
  | d :: r => uptoBulk d + uptoBulkAll r
def uptoBulkEntries {H : Type} : List (Lit × DataW H) → Nat
  | [] => 0
  | x :: r => uptoBulkEntry x + uptoBulkEntries r
def uptoBulkEntry {H : Type} : Lit × DataW H → Nat
  | (.string bytes, d) => bytes.length + uptoBulk d + 1
  | (_, d) => uptoBulk d + 1
 end
def uptoSmall : (H : Type) → List (DataW H) → Bool := fun _ ds => decide (uptoBulkAll ds ≤ 1048576)
def OpenSpec.upto (s : _root_.Go.ChangeSpec) : _root_.Go.OpenSpec := { _root_.Go.OpenSpec.ofChange s with cond := some uptoSmall }

/-- 'intarsialaw06.MirWider', WHERE WHAT IT READS IS OF BULK AT MOST 1048576: true; the input reads as it did. -/
def mirWiderUptoRow : OpenClaim := { program := "ytahblhiolkdnnaa", sum := "9528bb59e8ae40c461eab73510372c3e772d8adab750e12262022a1def3305b6", func := "intarsia/intarsialaw06.MirWider", spec := "mirWider", unfollowed := true, recurses := true, apart := false, narrowed := true }
def MirWiderUptoSaid : Prop := mirWiderUptoRow.holds Try.pinned (OpenSpec.upto mirWiderSpec)

/-- 'intarsialaw06.MirTells', WHERE WHAT IT READS IS OF BULK AT MOST 1048576: true; the input reads as it did. -/
def mirTellsUptoRow : OpenClaim := { program := "ytahblhiolkdnnaa", sum := "9528bb59e8ae40c461eab73510372c3e772d8adab750e12262022a1def3305b6", func := "intarsia/intarsialaw06.MirTells", spec := "mirTells", unfollowed := true, recurses := true, apart := false, narrowed := true }
def MirTellsUptoSaid : Prop := mirTellsUptoRow.holds Try.pinned (OpenSpec.upto mirTellsSpec)

/-- 'intarsialaw06.MirParts', WHERE WHAT IT READS IS OF BULK AT MOST 1048576: true; the input reads as it did. -/
def mirPartsUptoRow : OpenClaim := { program := "ytahblhiolkdnnaa", sum := "9528bb59e8ae40c461eab73510372c3e772d8adab750e12262022a1def3305b6", func := "intarsia/intarsialaw06.MirParts", spec := "mirParts", unfollowed := true, recurses := true, apart := false, narrowed := true }
def MirPartsUptoSaid : Prop := mirPartsUptoRow.holds Try.pinned (OpenSpec.upto mirPartsSpec)

/-- 'intarsialaw06.MirEnds', WHERE WHAT IT READS IS OF BULK AT MOST 1048576: true; the input reads as it did. -/
def mirEndsUptoRow : OpenClaim := { program := "ytahblhiolkdnnaa", sum := "9528bb59e8ae40c461eab73510372c3e772d8adab750e12262022a1def3305b6", func := "intarsia/intarsialaw06.MirEnds", spec := "mirEnds", unfollowed := true, recurses := true, apart := false, narrowed := true }
def MirEndsUptoSaid : Prop := mirEndsUptoRow.holds Try.pinned (OpenSpec.upto mirEndsSpec)

/-- 'intarsialaw06.MirPlaces', WHERE WHAT IT READS IS OF BULK AT MOST 1048576: true; the input reads as it did. -/
def mirPlacesUptoRow : OpenClaim := { program := "ytahblhiolkdnnaa", sum := "9528bb59e8ae40c461eab73510372c3e772d8adab750e12262022a1def3305b6", func := "intarsia/intarsialaw06.MirPlaces", spec := "mirPlaces", unfollowed := true, recurses := true, apart := false, narrowed := true }
def MirPlacesUptoSaid : Prop := mirPlacesUptoRow.holds Try.pinned (OpenSpec.upto mirPlacesSpec)

end Rows
end Go.Proofs.Ytahblhiolkdnnaa
