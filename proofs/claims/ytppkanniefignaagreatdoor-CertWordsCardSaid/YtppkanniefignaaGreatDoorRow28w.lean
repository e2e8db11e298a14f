/- What the rows of law28 list that replace and split: seven package-level variables; and that MaxLen holds some number. -/
import Derived.Test.YtppkanniefignaaGreatDoorG11
import Derived.Test.YtppkanniefignaaGreatDoorG42
import Derived.Lib.LaidU8
import Derived.Shelf.Vars
set_option linter.unusedSimpArgs false
set_option linter.unusedVariables false
namespace Go.Proofs.YtppkanniefignaaGreatDoor
open Go.ChangeShapes Go.WideShapes Go.ChangeAt Go.RowKit
theorem cell_maxLenW {W : World} (h : W.ShapedOpen Tryz.prog) : ∃ m, W.cell? ⟨0, 0, none⟩ = some (.int .i64 m) :=
 cell_of_shapedOpen_int (t := 3) (zero := #[.int .i64 0]) h (by rw [globals_size]; decide) (by kernel_rfl) rfl (by kernel_rfl) (by kernel_rfl) Tryz.underlying3
theorem varsW_of {W : World} (h : laidMetH Tryz.prog Rows.certWordsRow.laid W) (hs : W.ShapedOpen Tryz.prog) : VarsQ W := by
 have h0 : laidMet Tryz.prog Rows.certWordsRow.laid W := h
 have h2 := h0.tail.tail
 have h4 := h2.tail.tail
 refine ⟨⟨⟨sentinel_cell h4.tail gES gEST, sentinel_cell h4 gER gERT, shaped_size hs⟩, ?_⟩, cell_maxLenW hs⟩
 rw [p10_eq] at h2
 exact Lib.tabIs_of_head gP10 gP10T Tryz.underlying231 (k := .u64) (by kernel_rfl) (by kernel_rfl) (by kernel_rfl) h2
noncomputable def laidWorldW (os : Os) : World :=
 let w0 := World.holding Tryz.prog os ⟨#[.cells #[.string ⟨#[105, 110, 118, 97, 108, 105, 100, 32, 115, 121, 110, 116, 97, 120]⟩] 244, .cells #[.string ⟨#[118, 97, 108, 117, 101, 32, 111, 117, 116, 32, 111, 102, 32, 114, 97, 110, 103, 101]⟩] 244], #[], []⟩
 let put (h : Array Obj) (g : Nat) (cs : Array Value) : Array Obj := h.modify g fun
  | .cells _ t frozen => .cells cs t frozen
  | o => o
 { w0 with heap := put (put (put (put (put (put (put w0.heap 4 #[.iface 242 (.pointer (some ⟨low0, 0, none⟩))]) 5 #[.iface 242 (.pointer (some ⟨low0 + 1, 0, none⟩))]) 3 pow10L) 6 tab32L) 7 tab64L) 1 (Lib.firstTab.map fun z => Value.int .u8 z).toArray) 2 ((List.range 16).flatMap fun i => [Value.int .u8 (Lib.accLo i), Value.int .u8 (Lib.accHi i)]).toArray }
set_option maxRecDepth 1000000 in
theorem laidWorldW_met (os : Os) (args : Array Value) : laidMet Tryz.prog Rows.certWordsRow.laid ((laidWorldW os).forCall (fun _ _ => 0) ⟨#[], args, []⟩).memory :=
 laidMet_of_run' 8 (by kernel_rfl) (by kernel_rfl)
end Go.Proofs.YtppkanniefignaaGreatDoor
