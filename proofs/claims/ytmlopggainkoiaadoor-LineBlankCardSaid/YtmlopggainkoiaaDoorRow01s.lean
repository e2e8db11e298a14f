/- What a row of law01 lists that shows words: seven package-level variables. -/
import Derived.Test.YtmlopggainkoiaaDoorRow01
import Derived.Test.YtmlopggainkoiaaDoorSH1
import Derived.Test.YtmlopggainkoiaaDoorOpensM
import Derived.Lib.LaidU8
set_option linter.unusedSimpArgs false
set_option linter.unusedVariables false
namespace Go.Proofs.YtmlopggainkoiaaDoor
open Go.ChangeShapes Go.WideShapes Go.ChangeAt Go.RowKit

theorem p10_eq : (Rows.laid_internal_strconv_uint64pow10 : DataW Unit) = Lib.tabData .u64 Lib.pow10Tab := by kernel_rfl
theorem first_eq : (Rows.laid_unicode_utf8_first : DataW Unit) = Lib.firstData := by kernel_rfl
theorem accept_eq : (Rows.laid_unicode_utf8_acceptRanges : DataW Unit) = Lib.acceptData := by kernel_rfl
theorem gP10T : (Tryd.prog.globals[4]?).map (·.type) = some 162 := by kernel_rfl
/-- WHAT THE LIST OF law01's SHOWING ROWS GIVES. -/
theorem varsS_of {W : World} (h : laidMetH Tryd.prog Rows.wordShowsRow.laid W) (hs : W.ShapedOpen Tryd.prog) : VarsS W := by
  have h0 : laidMet Tryd.prog Rows.wordShowsRow.laid W := h
  have h2 := h0.tail.tail
  have h4 := h2.tail.tail
  refine ⟨⟨sentinel_cell h4.tail gES gEST, sentinel_cell h4 gER gERT, shaped_size hs⟩, ?_, ?_⟩
  · rw [p10_eq] at h2
    exact Lib.tabIs_of_head gP10 gP10T Tryd.underlying162 (k := .u64) (by kernel_rfl) (by kernel_rfl) (by kernel_rfl) h2
  · have r1 := Lib.laidMet.reads h0 (n := "unicode/utf8.first") (d := Rows.laid_unicode_utf8_first) (by simp [Rows.wordShowsRow])
    have r2 := Lib.laidMet.reads h0 (n := "unicode/utf8.acceptRanges") (d := Rows.laid_unicode_utf8_acceptRanges) (by simp [Rows.wordShowsRow])
    rw [first_eq] at r1; rw [accept_eq] at r2
    exact utf8Tabs_of_reads (ρ := Tryd.lays197_ren) { Tryd.lays197 with } ⟨by kernel_rfl, by kernel_rfl, by kernel_rfl, by kernel_rfl, by kernel_rfl, by kernel_rfl, by kernel_rfl⟩ r1 r2
/-- A WORLD FOR THE WITNESS. -/
noncomputable def laidWorldS (os : Os) : World :=
  let w0 := World.holding Tryd.prog os ⟨#[.cells #[.string ⟨#[105, 110, 118, 97, 108, 105, 100, 32, 115, 121, 110, 116, 97, 120]⟩] 159, .cells #[.string ⟨#[118, 97, 108, 117, 101, 32, 111, 117, 116, 32, 111, 102, 32, 114, 97, 110, 103, 101]⟩] 159], #[], []⟩
  let put (h : Array Obj) (g : Nat) (cs : Array Value) : Array Obj := h.modify g fun
    | .cells _ t frozen => .cells cs t frozen
    | o => o
  { w0 with heap := put (put (put (put (put (put (put w0.heap 2 #[.iface 157 (.pointer (some ⟨low0, 0, none⟩))]) 3 #[.iface 157 (.pointer (some ⟨low0 + 1, 0, none⟩))]) 4 pow10L) 5 tab32L) 6 tab64L) 0 (Lib.firstTab.map fun z => Value.int .u8 z).toArray) 1 ((List.range 16).flatMap fun i => [Value.int .u8 (Lib.accLo i), Value.int .u8 (Lib.accHi i)]).toArray }
set_option maxRecDepth 1000000 in
theorem laidWorldS_met (os : Os) (args : Array Value) : laidMet Tryd.prog Rows.wordShowsRow.laid ((laidWorldS os).forCall (fun _ _ => 0) ⟨#[], args, []⟩).memory :=
  laidMet_of_run' 8 (by kernel_rfl) (by kernel_rfl)
instance : Sm Word := Sm.via fun x => (x.kind, x.text, x.n, x.line, x.col)
theorem om_int : OpensM Tryd.prog Int 3 := opensM_int (by kernel_rfl)
theorem om_Word : OpensM Tryd.prog Word 31 := fun M H enc w fuel cs x h hl => by
  obtain ⟨⟨a0, a1, a2, a3, a4⟩, hy, hw⟩ := opensM_struct (P := Tryd.prog) (α := Int × ByteArray × Int × Int × Int) (t := 31) Tryd.underlying31
    (fsM_cons (opensM_int (by kernel_rfl)) rfl (by kernel_rfl) (fsM_cons (opensM_string (by kernel_rfl)) rfl (by kernel_rfl) (fsM_cons om_int rfl (by kernel_rfl) (fsM_cons om_int rfl (by kernel_rfl) (fsM_one om_int rfl (by kernel_rfl)))))) (by kernel_rfl) M H enc w fuel cs x h hl
  exact ⟨⟨a0, a1, a2, a3, a4⟩, hy, hw⟩
theorem om_Words : OpensM Tryd.prog (List Word) 23 := opensM_slice (e := 31) (by kernel_rfl) om_Word (by kernel_rfl) (by decide) (of_decide_eq_true (by kernel_rfl))
theorem Word.sm_text {M : Nat} {x : Word} (h : Sm.sm M x) : x.text.size ≤ M := h.2.1
theorem leAll_each {H : Type} {P : Program} {ts us : List TypeId} {ds gs : List (DataW H)} (h : (DataW.weightsEach P (ts ++ us) (ds ++ gs)).all (· ≤ reachBytes) = true) {j : Nat} {t : TypeId} {d : DataW H} (ht : ts[j]? = some t) (hd : ds[j]? = some d) : LeAll reachBytes (d.weights P t) := fun n hn => by
  have h1 : (ts ++ us)[j]? = some t := by rw [List.getElem?_append_left (List.getElem?_eq_some_iff.1 ht).1]; exact ht
  have h2 : (ds ++ gs)[j]? = some d := by rw [List.getElem?_append_left (List.getElem?_eq_some_iff.1 hd).1]; exact hd
  simpa using List.all_eq_true.1 h n (DataW.weights_mem_each h1 h2 n hn)
end Go.Proofs.YtmlopggainkoiaaDoor
