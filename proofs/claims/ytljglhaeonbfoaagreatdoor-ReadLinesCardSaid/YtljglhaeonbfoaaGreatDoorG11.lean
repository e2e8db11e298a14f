/- What an argument of a law reads as; a law's row out of its walk. What an argument of a law reads as, each text and row of it within the reach. What a row lists of package-level variables (five of them): what it gives a walk, and a world for the witness; arguments as data. -/
import Derived.Test.YtljglhaeonbfoaaGreatDoorG0
import Derived.ProofKit
import Derived.OpenShut
import Derived.JoinedCond
import Derived.Carry
import Derived.SizedLaws
import Derived.Test.YtljglhaeonbfoaaGreatDoorG10
import Derived.Test.YtljglhaeonbfoaaGreatDoorG20
import Derived.Stop.LaidErr
import Derived.Deep.DeepHandedRow
import Derived.Deep.DeepWitnessRowRef
import Derived.Lib.LaidTab
set_option linter.unusedSimpArgs false
set_option linter.unusedVariables false
namespace Go.Proofs.YtljglhaeonbfoaaGreatDoor
open Go.RowKit Go.ChangeShapes Go.WideShapes Go.ChangeAt
class Wt (α : Type) where
 wt : α → Nat
instance : Wt Int := ⟨fun _ => 1⟩
instance : Wt Bool := ⟨fun _ => 1⟩
instance : Wt ByteArray := ⟨fun s => s.size + 1⟩
instance {α β : Type} [Wt α] [Wt β] : Wt (α × β) := ⟨fun x => Wt.wt x.1 + Wt.wt x.2⟩
def wtL {α : Type} [Wt α] : List α → Nat
 | [] => 0
 | x :: l => Wt.wt x + wtL l
instance {α : Type} [Wt α] : Wt (List α) := ⟨fun l => wtL l + 1⟩
section
variable {P : Program}
theorem trodAll_stays {H : Type} {enc : TypeId × Value → H} (hl : laidOutB P = true) {W W' : World} (hb : Below W.heap.size W W') : ∀ {ts : List TypeId} {vs : List Value} {ds : List (DataW H)} {ps : List MemPlace},
  ts.all (fun t => P.readableRec t && decide (t < P.types.size)) = true → DataW.TrodAll enc P W 0 (fun _ => true) true ts vs ds ps → (∀ x ∈ ps, x.block < W.heap.size) → ∀ sp : Nat → Bool, (∀ p ∈ ps, sp p.block = true) → DataW.TrodAll enc P W' 0 sp true ts vs ds ps
 | [], [], [], ps, _, h, _, _, _ => h
 | t :: ts, v :: vs, d :: ds, ps, hr, h, hlt, sp, hsp => by
  obtain ⟨p, q, h0, h1, rfl⟩ := h
  simp only [List.all_cons, Bool.and_eq_true, decide_eq_true_eq] at hr
  exact ⟨p, q, WideElems.Trod_stays hl hr.1.1 hr.1.2 h0 (fun x hx => hb.same (hlt x (List.mem_append_left _ hx))) (fun x hx => hsp x (List.mem_append_left _ hx)),
   trodAll_stays hl hb hr.2 h1 (fun x hx => hlt x (List.mem_append_right _ hx)) sp (fun x hx => hsp x (List.mem_append_right _ hx)), rfl⟩
theorem post_law {H : Type} {enc : TypeId × Value → H} {f : Func} {s : ChangeSpec} {apart fresh handsOn again : Bool} {W W' : World} {args : Array Value} {ds gs : List (DataW H)} {before : List MemPlace} {tb : TypeId}
  (hl : laidOutB P = true) (hr : f.params.toList.all (fun t => P.readableRec t && decide (t < P.types.size)) = true) (htb : f.resultTypes = #[tb]) (hbool : P.underlying tb = some .bool) (hvars : s.vars = [])
  (hW : DataW.Whole enc P f.params.toList s.vars apart W args.toList ds gs before) (hres : (s.fn H (ds ++ gs)).results = [.lit (.bool true)]) (hargs : (s.fn H (ds ++ gs)).args = ds) (hvs : (s.fn H (ds ++ gs)).vars = []) (hb : Below W.heap.size W W') :
  s.post enc P f apart fresh handsOn again W args (.bool true) W' := by
 have hlt : ∀ p ∈ before, p.block < W.heap.size := fun p hp => hW.lt p hp
 have hold : ∀ p ∈ before, (fun b => decide (b < W.heap.size)) p.block = true := fun p hp => by simpa using hlt p hp
 have hW0 := hW
 obtain ⟨p, q, hA, hV, hpq, hz, hn⟩ := hW
 rw [hvars] at hV
 obtain ⟨rfl, rfl⟩ := trodVars_none hV
 rw [List.append_nil] at hpq
 subst hpq
 have hst : ∀ sp : Nat → Bool, (∀ p ∈ before, sp p.block = true) → DataW.TrodAll enc P W' 0 sp true f.params.toList args.toList (s.fn H (ds ++ [])).args before := fun sp hsp => by
  rw [hargs]; exact trodAll_stays hl hb hr hA hlt sp hsp
 have hres' : ∀ (b : Nat) (sp : Nat → Bool) (hd : Bool), DataW.TrodAll enc P W' b sp hd f.resultTypes.toList ((Value.bool true).resultList f.resultTypes.size) (s.fn H (ds ++ [])).results [] := fun b sp hd => by
  rw [hres, htb]; exact trodAll_cons_mk (shut_bool hbool _) trodAll_mk0
 have hv0 : ∀ sp : Nat → Bool, DataW.TrodVars enc P W' sp s.vars (s.fn H (ds ++ [])).vars [] := fun sp => by rw [hvs, hvars]; rfl
 refine ⟨ds, [], before, [], before, [], hW0, hres' _ _ _, hst _ hold, hv0 _, World.keptBut_mono (fun p hp => ⟨hp, Or.inr (by simpa using hp)⟩) (hb.frame (· ∈ before)), fun _ => ?_⟩
 refine ⟨?_, _, _, ([] ++ before) ++ [], ⟨[] ++ before, [], trodAll_append (hst _ (fun _ _ => rfl)) (hres' _ _ _), hv0 _, rfl, ?_, ?_⟩, ?_⟩
 ·exact ok_one htb rfl (okWide_bool_mk hbool _)
 ·intro b off hp
  have hin : MemPlace.cell b off ∈ before := by simpa using hp
  rw [hb.frozen (hlt _ hin)]
  exact hz b off (by simpa using hin)
 ·intro ha
  have := hn ha
  simpa using this
 ·intro p hp _
  simpa using hp
end
end Go.Proofs.YtljglhaeonbfoaaGreatDoor
namespace Go.Proofs.YtljglhaeonbfoaaGreatDoor
open Go.RowKit Go.ChangeShapes Go.WideShapes Go.ChangeAt
class Sm (α : Type) where
 sm : Nat → α → Prop
instance : Sm Int := ⟨fun _ _ => True⟩
instance : Sm Bool := ⟨fun _ _ => True⟩
instance : Sm ByteArray := ⟨fun M s => s.size ≤ M⟩
instance {α β : Type} [Sm α] [Sm β] : Sm (α × β) := ⟨fun M x => Sm.sm M x.1 ∧ Sm.sm M x.2⟩
instance {α : Type} [Sm α] : Sm (List α) := ⟨fun M l => l.length ≤ M ∧ ∀ x ∈ l, Sm.sm M x⟩
abbrev Sm.via {α β : Type} [Sm β] (f : α → β) : Sm α := ⟨fun M x => Sm.sm M (f x)⟩
section
variable {P : Program}
end
end Go.Proofs.YtljglhaeonbfoaaGreatDoor
namespace Go.Proofs.YtljglhaeonbfoaaGreatDoor
open Go.ChangeShapes Go.WideShapes Go.ChangeAt Go.RowKit
theorem laid_out : laidOutB Tryz.prog = true := by kernel_rfl
theorem own_knob : ownKnob Tryz.prog.godebug = none := by kernel_rfl
theorem gES : Tryz.prog.globalNamed "strconv.ErrSyntax" = some 2 := by kernel_rfl
theorem gER : Tryz.prog.globalNamed "strconv.ErrRange" = some 3 := by kernel_rfl
theorem gEST : (Tryz.prog.globals[2]?).map (·.type) = some 63 := by kernel_rfl
theorem gERT : (Tryz.prog.globals[3]?).map (·.type) = some 63 := by kernel_rfl
theorem cellsES : Tryz.prog.cellsOf 239 = 1 := by kernel_rfl
theorem cells_str : Tryz.prog.cellsOf 9 = 1 := by kernel_rfl
theorem star_err : "*" ++ "errors.errorString" = "*errors.errorString" := by decide
theorem row_err (u : TypeId) (h : Tryz.prog.typeName? 3 u = some "*errors.errorString") : u = 237 :=
 typeName_ptr_named (nm := "errors.errorString") (by rw [star_err]; kernel_rfl) (by kernel_rfl) (by decide) u (by rw [star_err]; exact h)
theorem sentinel_cell {n : String} {text : List UInt8} {r : List (String × DataW Unit)} {W : World} {g : Nat} (h : laidMet Tryz.prog ((n, .iface "*errors.errorString" (.ptr (.agg [.lit (.string text)]))) :: r) W)
  (hg : Tryz.prog.globalNamed n = some g) (ht : (Tryz.prog.globals[g]?).map (·.type) = some 63) : ∃ te pe, W.cell? ⟨g, 0, none⟩ = some (.iface te pe) := by
 obtain ⟨a0, s0, hv0, _⟩ := laid_sentinel h hg ht Tryz.underlying63 row_err Tryz.underlying237 Tryz.underlying239 rfl rfl Tryz.underlying9 cellsES cells_str
 exact ⟨_, _, by have h0 := World.var?_cell hg hv0 0; simpa using h0⟩
theorem last_global : (((begin Tryz.prog (fun _ _ => 0) default).world.heap[5]?).bind Obj.row?).isSome = true := by kernel_rfl
theorem globals_size : Tryz.prog.globals.size = 6 := by kernel_rfl
theorem shaped_size {W : World} (h : W.ShapedOpen Tryz.prog) : 6 ≤ W.heap.size := by
 obtain ⟨⟨z, t⟩, hx⟩ := Option.isSome_iff_exists.1 last_global
 obtain ⟨cs, hc, _⟩ := h.1 5 z t (by rw [globals_size]; decide) hx
 have := (Array.getElem?_eq_some_iff.1 hc).1
 omega
theorem vars_of {W : World} (h : laidMetH Tryz.prog Rows.readPrintsRow.laid W) (hs : W.ShapedOpen Tryz.prog) : Vars W := by
 have h0 : laidMet Tryz.prog Rows.readPrintsRow.laid W := h
 have h3 := h0.tail.tail.tail
 exact ⟨sentinel_cell h3.tail gES gEST, sentinel_cell h3 gER gERT, shaped_size hs⟩
theorem p10_eq : (Rows.laid_internal_strconv_uint64pow10 : DataW Unit) = Lib.tabData .u64 Lib.pow10Tab := by kernel_rfl
theorem gP10T : (Tryz.prog.globals[0]?).map (·.type) = some 217 := by kernel_rfl
theorem varsP_of {W : World} (h : laidMetH Tryz.prog Rows.readPrintsRow.laid W) (hs : W.ShapedOpen Tryz.prog) : VarsP W := by
 have h0 : laidMet Tryz.prog Rows.readPrintsRow.laid W := h
 have h2 := h0.tail.tail
 refine ⟨vars_of h hs, ?_⟩
 rw [p10_eq] at h2
 exact Lib.tabIs_of_head gP10 gP10T Tryz.underlying217 (k := .u64) (by kernel_rfl) (by kernel_rfl) (by kernel_rfl) h2
noncomputable abbrev low0 : Nat := (World.holding Tryz.prog default ⟨#[], #[], []⟩).heap.size
def pow10L : Array Value := #[.int .u64 1, .int .u64 10, .int .u64 100, .int .u64 1000, .int .u64 10000, .int .u64 100000, .int .u64 1000000, .int .u64 10000000, .int .u64 100000000, .int .u64 1000000000, .int .u64 10000000000, .int .u64 100000000000, .int .u64 1000000000000, .int .u64 10000000000000, .int .u64 100000000000000, .int .u64 1000000000000000, .int .u64 10000000000000000, .int .u64 100000000000000000, .int .u64 1000000000000000000, .int .u64 10000000000000000000]
def tab32L : Array Value := #[0, 1, 28, 2, 29, 14, 24, 3, 30, 22, 20, 15, 25, 17, 4, 8, 31, 27, 13, 23, 21, 19, 16, 7, 26, 12, 18, 6, 11, 5, 10, 9].map (Value.int .u8)
def tab64L : Array Value := #[0, 1, 56, 2, 57, 49, 28, 3, 61, 58, 42, 50, 38, 29, 17, 4, 62, 47, 59, 36, 45, 43, 51, 22, 53, 39, 33, 30, 24, 18, 12, 5, 63, 55, 48, 27, 60, 41, 37, 16, 46, 35, 44, 21, 52, 32, 23, 11, 54, 26, 40, 15, 34, 20, 31, 10, 25, 14, 19, 9, 13, 8, 7, 6].map (Value.int .u8)
noncomputable def laidWorld (os : Os) : World :=
 let w0 := World.holding Tryz.prog os ⟨#[.cells #[.string ⟨#[105, 110, 118, 97, 108, 105, 100, 32, 115, 121, 110, 116, 97, 120]⟩] 239, .cells #[.string ⟨#[118, 97, 108, 117, 101, 32, 111, 117, 116, 32, 111, 102, 32, 114, 97, 110, 103, 101]⟩] 239], #[], []⟩
 let put (h : Array Obj) (g : Nat) (cs : Array Value) : Array Obj := h.modify g fun
  | .cells _ t frozen => .cells cs t frozen
  | o => o
 { w0 with heap := put (put (put (put (put w0.heap 2 #[.iface 237 (.pointer (some ⟨low0, 0, none⟩))]) 3 #[.iface 237 (.pointer (some ⟨low0 + 1, 0, none⟩))]) 0 pow10L) 4 tab32L) 5 tab64L }
set_option maxRecDepth 1000000 in
theorem laidWorld_met (os : Os) (args : Array Value) : laidMet Tryz.prog Rows.readPrintsRow.laid ((laidWorld os).forCall (fun _ _ => 0) ⟨#[], args, []⟩).memory :=
 laidMet_of_run' 8 (by kernel_rfl) (by kernel_rfl)
instance : Sm Machine := Sm.via fun x => (x.regs, x.args, x.ret, x.saved)
end Go.Proofs.YtljglhaeonbfoaaGreatDoor
