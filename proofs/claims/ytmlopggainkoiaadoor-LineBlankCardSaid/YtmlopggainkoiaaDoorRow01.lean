/- What a row of law01, law02 lists of package-level variables: what it gives a walk, and a world for the witness. -/
import Derived.Test.YtmlopggainkoiaaDoorOpens
import Derived.Test.YtmlopggainkoiaaDoorRDc
import Derived.Stop.LaidErr
import Derived.Deep.DeepHandedRow
import Derived.Deep.DeepWitnessRowRef
import Derived.Lib.LaidTab
set_option linter.unusedSimpArgs false
set_option linter.unusedVariables false
namespace Go.Proofs.YtmlopggainkoiaaDoor
open Go.ChangeShapes Go.WideShapes Go.ChangeAt Go.RowKit

theorem laid_out : laidOutB Tryd.prog = true := by kernel_rfl
theorem own_knob : ownKnob Tryd.prog.godebug = none := by kernel_rfl
theorem gES : Tryd.prog.globalNamed "strconv.ErrSyntax" = some 2 := by kernel_rfl
theorem gER : Tryd.prog.globalNamed "strconv.ErrRange" = some 3 := by kernel_rfl
theorem gEST : (Tryd.prog.globals[2]?).map (·.type) = some 88 := by kernel_rfl
theorem gERT : (Tryd.prog.globals[3]?).map (·.type) = some 88 := by kernel_rfl
theorem cellsES : Tryd.prog.cellsOf 159 = 1 := by kernel_rfl
theorem cells_str : Tryd.prog.cellsOf 9 = 1 := by kernel_rfl
theorem star_err : "*" ++ "errors.errorString" = "*errors.errorString" := by decide
theorem row_err (u : TypeId) (h : Tryd.prog.typeName? 3 u = some "*errors.errorString") : u = 157 :=
  typeName_ptr_named (nm := "errors.errorString") (by rw [star_err]; kernel_rfl) (by kernel_rfl) (by decide) u (by rw [star_err]; exact h)
theorem sentinel_cell {n : String} {text : List UInt8} {r : List (String × DataW Unit)} {W : World} {g : Nat} (h : laidMet Tryd.prog ((n, .iface "*errors.errorString" (.ptr (.agg [.lit (.string text)]))) :: r) W)
    (hg : Tryd.prog.globalNamed n = some g) (ht : (Tryd.prog.globals[g]?).map (·.type) = some 88) : ∃ te pe, W.cell? ⟨g, 0, none⟩ = some (.iface te pe) := by
  obtain ⟨a0, s0, hv0, _⟩ := laid_sentinel h hg ht Tryd.underlying88 row_err Tryd.underlying157 Tryd.underlying159 rfl rfl Tryd.underlying9 cellsES cells_str
  exact ⟨_, _, by have h0 := World.var?_cell hg hv0 0; simpa using h0⟩
theorem last_global : (((begin Tryd.prog (fun _ _ => 0) default).world.heap[6]?).bind Obj.row?).isSome = true := by kernel_rfl
theorem globals_size : Tryd.prog.globals.size = 7 := by kernel_rfl
theorem shaped_size {W : World} (h : W.ShapedOpen Tryd.prog) : 7 ≤ W.heap.size := by
  obtain ⟨⟨z, t⟩, hx⟩ := Option.isSome_iff_exists.1 last_global
  obtain ⟨cs, hc, _⟩ := h.1 6 z t (by rw [globals_size]; decide) hx
  have := (Array.getElem?_eq_some_iff.1 hc).1
  omega
/-- WHAT THE LIST OF law01's FIRST ROWS GIVES. -/
theorem vars_of {W : World} (h : laidMetH Tryd.prog Rows.wordReadsRow.laid W) (hs : W.ShapedOpen Tryd.prog) : Vars W := by
  have h0 : laidMet Tryd.prog Rows.wordReadsRow.laid W := h
  have h3 := h0.tail.tail.tail
  exact ⟨sentinel_cell h3.tail gES gEST, sentinel_cell h3 gER gERT, shaped_size hs⟩
noncomputable abbrev low0 : Nat := (World.holding Tryd.prog default ⟨#[], #[], []⟩).heap.size
def pow10L : Array Value := #[.int .u64 1, .int .u64 10, .int .u64 100, .int .u64 1000, .int .u64 10000, .int .u64 100000, .int .u64 1000000, .int .u64 10000000, .int .u64 100000000, .int .u64 1000000000, .int .u64 10000000000, .int .u64 100000000000, .int .u64 1000000000000, .int .u64 10000000000000, .int .u64 100000000000000, .int .u64 1000000000000000, .int .u64 10000000000000000, .int .u64 100000000000000000, .int .u64 1000000000000000000, .int .u64 10000000000000000000]
def tab32L : Array Value := #[0, 1, 28, 2, 29, 14, 24, 3, 30, 22, 20, 15, 25, 17, 4, 8, 31, 27, 13, 23, 21, 19, 16, 7, 26, 12, 18, 6, 11, 5, 10, 9].map (Value.int .u8)
def tab64L : Array Value := #[0, 1, 56, 2, 57, 49, 28, 3, 61, 58, 42, 50, 38, 29, 17, 4, 62, 47, 59, 36, 45, 43, 51, 22, 53, 39, 33, 30, 24, 18, 12, 5, 63, 55, 48, 27, 60, 41, 37, 16, 46, 35, 44, 21, 52, 32, 23, 11, 54, 26, 40, 15, 34, 20, 31, 10, 25, 14, 19, 9, 13, 8, 7, 6].map (Value.int .u8)
/-- A WORLD FOR THE WITNESS. -/
noncomputable def laidWorld (os : Os) : World :=
  let w0 := World.holding Tryd.prog os ⟨#[.cells #[.string ⟨#[105, 110, 118, 97, 108, 105, 100, 32, 115, 121, 110, 116, 97, 120]⟩] 159, .cells #[.string ⟨#[118, 97, 108, 117, 101, 32, 111, 117, 116, 32, 111, 102, 32, 114, 97, 110, 103, 101]⟩] 159], #[], []⟩
  let put (h : Array Obj) (g : Nat) (cs : Array Value) : Array Obj := h.modify g fun
    | .cells _ t frozen => .cells cs t frozen
    | o => o
  { w0 with heap := put (put (put (put (put w0.heap 2 #[.iface 157 (.pointer (some ⟨low0, 0, none⟩))]) 3 #[.iface 157 (.pointer (some ⟨low0 + 1, 0, none⟩))]) 4 pow10L) 5 tab32L) 6 tab64L }
set_option maxRecDepth 1000000 in
theorem laidWorld_met (os : Os) (args : Array Value) : laidMet Tryd.prog Rows.wordReadsRow.laid ((laidWorld os).forCall (fun _ _ => 0) ⟨#[], args, []⟩).memory :=
  laidMet_of_run' 8 (by kernel_rfl) (by kernel_rfl)
end Go.Proofs.YtmlopggainkoiaaDoor
