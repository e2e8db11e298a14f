/-
  No cell of these rows narrows 'for every input' (looked for: loops, veiled, ifaces, maps, wideKeys, modest, calm, conditions, laid).
  DERIVED. THE GIVEN ROWS OF THIS SEAT. 4 by the template 'for every input the law returns true; each argument reads behind the call as it read before'; 0 by the template 'total and deterministic' (their statements: YtoghikagooegbaaTotals.lean).
  GIVEN WITH THE SEED: the statements are not yours to turn. If you find one false, say at which input.
  Laid BY PROGRAM, IN A SANDBOX (cutbox-rows.mjs): the forced cells as the released guide's own fill.sh prints them over the translation 787d17ffa7b9b4d9… (all of the seat's roots in one cut). By AI agents, Wed Nov 11 2026. No macro, syntax, notation, axiom, sorry.
-/
import Derived.Test.YtoghikagooegbaaChecked
import GoSem.Claim
import GoSem.ClaimJoined
import GoSem.ClaimMapViews
import Derived.JoinedTies
import Derived.KernelRfl
namespace Go.Proofs.Ytoghikagooegbaa
/- THE CELL 'sum', in the pinned program and in every row, IS THE sha256 OF THE DUMP (.gsa) THAT YtoghikagooegbaaProg.lean LOADS. Nothing in Lean hashes anything: it is a label: what it is worth is what the hold of that sum in a sandbox is worth. -/
noncomputable def Try.pinned : Pinned := { name := "ytoghikagooegbaa", sum := "787d17ffa7b9b4d9f263181092fe69ccf4bcd9e7e0f64df826b6511eb1fe0da3", checked := Try.checked }
namespace Rows
def none {H : Type} : Left H := { results := [], args := [] }

/-- 'intarsialaw26.MovesRows': WHATEVER THE INPUT: true; the input reads as it did. -/
def movesRowsSpec : ChangeSpec := { name := "movesRows", fn := fun _ => fun
  | [d1, d2] => { results := [.lit (.bool true)], args := [d1, d2] }
  | _ => none }
def movesRowsRow : OpenClaim := { program := "ytoghikagooegbaa", sum := "787d17ffa7b9b4d9f263181092fe69ccf4bcd9e7e0f64df826b6511eb1fe0da3", func := "intarsia/intarsialaw26.MovesRows", spec := "movesRows", unfollowed := true, recurses := true, plainKeys := false, apart := false }
def MovesRowsSaid : Prop := movesRowsRow.holds Try.pinned (OpenSpec.ofChange movesRowsSpec)

/-- ITS FALSE NEIGHBOUR: 'it returns false'. Refute it at one input. -/
def movesRowsWrong : ChangeSpec := { name := "movesRows", fn := fun _ => fun
  | [d1, d2] => { results := [.lit (.bool false)], args := [d1, d2] }
  | _ => none }
def MovesRowsWrongFalsely : Prop := movesRowsRow.holds Try.pinned (OpenSpec.ofChange movesRowsWrong)

/-- 'intarsialaw26.MovesSmall': WHATEVER THE INPUT: true; the input reads as it did. -/
def movesSmallSpec : ChangeSpec := { name := "movesSmall", fn := fun _ => fun
  | [] => { results := [.lit (.bool true)], args := [] }
  | _ => none }
def movesSmallRow : OpenClaim := { program := "ytoghikagooegbaa", sum := "787d17ffa7b9b4d9f263181092fe69ccf4bcd9e7e0f64df826b6511eb1fe0da3", func := "intarsia/intarsialaw26.MovesSmall", spec := "movesSmall", unfollowed := true, recurses := true, plainKeys := false, apart := false }
def MovesSmallSaid : Prop := movesSmallRow.holds Try.pinned (OpenSpec.ofChange movesSmallSpec)

/-- ITS FALSE NEIGHBOUR: 'it returns false'. Refute it at one input. -/
def movesSmallWrong : ChangeSpec := { name := "movesSmall", fn := fun _ => fun
  | [] => { results := [.lit (.bool false)], args := [] }
  | _ => none }
def MovesSmallWrongFalsely : Prop := movesSmallRow.holds Try.pinned (OpenSpec.ofChange movesSmallWrong)

/-- 'intarsialaw26.MovesAtOnce': WHATEVER THE INPUT: true; the input reads as it did. -/
def movesAtOnceSpec : ChangeSpec := { name := "movesAtOnce", fn := fun _ => fun
  | [d1, d2] => { results := [.lit (.bool true)], args := [d1, d2] }
  | _ => none }
def movesAtOnceRow : OpenClaim := { program := "ytoghikagooegbaa", sum := "787d17ffa7b9b4d9f263181092fe69ccf4bcd9e7e0f64df826b6511eb1fe0da3", func := "intarsia/intarsialaw26.MovesAtOnce", spec := "movesAtOnce", unfollowed := true, recurses := true, plainKeys := false, apart := false }
def MovesAtOnceSaid : Prop := movesAtOnceRow.holds Try.pinned (OpenSpec.ofChange movesAtOnceSpec)

/-- ITS FALSE NEIGHBOUR: 'it returns false'. Refute it at one input. -/
def movesAtOnceWrong : ChangeSpec := { name := "movesAtOnce", fn := fun _ => fun
  | [d1, d2] => { results := [.lit (.bool false)], args := [d1, d2] }
  | _ => none }
def MovesAtOnceWrongFalsely : Prop := movesAtOnceRow.holds Try.pinned (OpenSpec.ofChange movesAtOnceWrong)

/-- 'intarsialaw26.MovesIdle': WHATEVER THE INPUT: true; the input reads as it did. -/
def movesIdleSpec : ChangeSpec := { name := "movesIdle", fn := fun _ => fun
  | [d1, d2, d3] => { results := [.lit (.bool true)], args := [d1, d2, d3] }
  | _ => none }
def movesIdleRow : OpenClaim := { program := "ytoghikagooegbaa", sum := "787d17ffa7b9b4d9f263181092fe69ccf4bcd9e7e0f64df826b6511eb1fe0da3", func := "intarsia/intarsialaw26.MovesIdle", spec := "movesIdle", unfollowed := true, recurses := true, plainKeys := false, apart := false }
def MovesIdleSaid : Prop := movesIdleRow.holds Try.pinned (OpenSpec.ofChange movesIdleSpec)

/-- ITS FALSE NEIGHBOUR: 'it returns false'. Refute it at one input. -/
def movesIdleWrong : ChangeSpec := { name := "movesIdle", fn := fun _ => fun
  | [d1, d2, d3] => { results := [.lit (.bool false)], args := [d1, d2, d3] }
  | _ => none }
def MovesIdleWrongFalsely : Prop := movesIdleRow.holds Try.pinned (OpenSpec.ofChange movesIdleWrong)

/- THE SECOND FORM. 'bulk': how many values and letters a reading holds, each counted each time it is reached (what is shared counts as often as it is met; a slice's spare places count too). A statement '..UptoSaid' is the law's where the arguments, and the package variables that the reading takes, are together of bulk at most 1048576: NARROWER than '..Said'. Prove '..Said' where nothing that the law and all that it calls make is longer than what came in: it says more and counts as full. Else prove '..UptoSaid'. A law counts once. -/
mutual
def uptoBulk {H : Type} : DataW H → Nat
  | .lit (.string bytes) => bytes.length + 1
  | .lit _ => 1
  | .nil => 1
  | .ptr d => uptoBulk d + 1
  | .slice elems spare => uptoBulkAll elems + uptoBulkAll spare + 1
  | .agg parts => uptoBulkAll parts + 1
  | .iface _ d => uptoBulk d + 1
  | .map entries => uptoBulkEntries entries + 1
  | .held _ => 1
def uptoBulkAll {H : Type} : List (DataW H) → Nat
  | [] => 0
  | d :: r => uptoBulk d + uptoBulkAll r
def uptoBulkEntries {H : Type} : List (Lit × DataW H) → Nat
  | [] => 0
  | x :: r => uptoBulkEntry x + uptoBulkEntries r
def uptoBulkEntry {H : Type} : Lit × DataW H → Nat
  | (.string bytes, d) => bytes.length + uptoBulk d + 1
  | (_, d) => uptoBulk d + 1
 end
def uptoSmall : (H : Type) → List (DataW H) → Bool := fun _ ds => decide (uptoBulkAll ds ≤ 1048576)
def OpenSpec.upto (s : _root_.Go.ChangeSpec) : _root_.Go.OpenSpec := { _root_.Go.OpenSpec.ofChange s with cond := some uptoSmall }

/-- 'intarsialaw26.MovesRows', WHERE WHAT IT READS IS OF BULK AT MOST 1048576: true; the input reads as it did. -/
def movesRowsUptoRow : OpenClaim := { program := "ytoghikagooegbaa", sum := "787d17ffa7b9b4d9f263181092fe69ccf4bcd9e7e0f64df826b6511eb1fe0da3", func := "intarsia/intarsialaw26.MovesRows", spec := "movesRows", unfollowed := true, recurses := true, plainKeys := false, apart := false, narrowed := true }
def MovesRowsUptoSaid : Prop := movesRowsUptoRow.holds Try.pinned (OpenSpec.upto movesRowsSpec)

/-- 'intarsialaw26.MovesSmall', WHERE WHAT IT READS IS OF BULK AT MOST 1048576: true; the input reads as it did. -/
def movesSmallUptoRow : OpenClaim := { program := "ytoghikagooegbaa", sum := "787d17ffa7b9b4d9f263181092fe69ccf4bcd9e7e0f64df826b6511eb1fe0da3", func := "intarsia/intarsialaw26.MovesSmall", spec := "movesSmall", unfollowed := true, recurses := true, plainKeys := false, apart := false, narrowed := true }
def MovesSmallUptoSaid : Prop := movesSmallUptoRow.holds Try.pinned (OpenSpec.upto movesSmallSpec)

/-- 'intarsialaw26.MovesAtOnce', WHERE WHAT IT READS IS OF BULK AT MOST 1048576: true; the input reads as it did. -/
def movesAtOnceUptoRow : OpenClaim := { program := "ytoghikagooegbaa", sum := "787d17ffa7b9b4d9f263181092fe69ccf4bcd9e7e0f64df826b6511eb1fe0da3", func := "intarsia/intarsialaw26.MovesAtOnce", spec := "movesAtOnce", unfollowed := true, recurses := true, plainKeys := false, apart := false, narrowed := true }
def MovesAtOnceUptoSaid : Prop := movesAtOnceUptoRow.holds Try.pinned (OpenSpec.upto movesAtOnceSpec)

/-- 'intarsialaw26.MovesIdle', WHERE WHAT IT READS IS OF BULK AT MOST 1048576: true; the input reads as it did. -/
def movesIdleUptoRow : OpenClaim := { program := "ytoghikagooegbaa", sum := "787d17ffa7b9b4d9f263181092fe69ccf4bcd9e7e0f64df826b6511eb1fe0da3", func := "intarsia/intarsialaw26.MovesIdle", spec := "movesIdle", unfollowed := true, recurses := true, plainKeys := false, apart := false, narrowed := true }
def MovesIdleUptoSaid : Prop := movesIdleUptoRow.holds Try.pinned (OpenSpec.upto movesIdleSpec)

end Rows
end Go.Proofs.Ytoghikagooegbaa
