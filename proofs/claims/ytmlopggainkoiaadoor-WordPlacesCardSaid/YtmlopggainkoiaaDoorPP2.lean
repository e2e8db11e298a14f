/- A text as a slice of runes, a slice of runes as a text: what the conversions leave. -/
import Derived.Test.YtmlopggainkoiaaDoorPP1
import Derived.Laws.Cover4
import Derived.Laws.IdiomStrings
set_option linter.unusedSimpArgs false
set_option linter.unusedVariables false
namespace Go.Proofs.YtmlopggainkoiaaDoor
open Go.RowKit

theorem runesFrom_items (s : ByteArray) : ∀ (bound i : Nat) (acc : Array Value), s.size - i ≤ bound → (∀ x ∈ items s i, 0 ≤ x) → (Conv.runesFrom s bound i acc).toList = acc.toList ++ (items s i).map fun x => Value.int .i32 x
  | 0, i, acc, h, _ => by rw [items_end (by omega)]; simp [Conv.runesFrom]
  | bound + 1, i, acc, h, hg => by
    unfold Conv.runesFrom
    by_cases hi : i < s.size
    · rw [if_pos hi]
      simp only
      cases hgd : goodAt s i with
      | true =>
        have hw := Lib.decode_width_pos s i hi
        rw [items_good hi hgd] at hg ⊢
        rw [runesFrom_items s bound _ _ (by omega) (fun x hx => hg x (by simp [hx]))]
        simp
      | false =>
        rw [items_bad hi hgd] at hg
        have := hg (-1) (by simp)
        omega
    · rw [if_neg hi, items_end hi]; simp

/-- A slice of runes: in a block, from a place on. -/
def RuneRow (w : World) (g : Nat) (L : List Int) : Prop := g < w.heap.size ∧ ∀ k x, L[k]? = some x → w.cell? ⟨g, k, none⟩ = some (.int .i32 x)
theorem RuneRow.ext {w : World} {g : Nat} {L : List Int} (h : RuneRow w g L) (u : Ext) : RuneRow (w.ext u) g L := ⟨by rw [size_ext]; have := h.1; omega, fun k x hx => by rw [cell?_ext _ _ _ h.1]; exact h.2 k x hx⟩
theorem runes_conv (W : World) (s : ByteArray) (hs : s.size ≤ 70368744177664) (src dst e : TypeId) (h1 : Tryd.prog.underlying src = some .string) (h2 : Tryd.prog.underlying dst = some (.slice e)) (h3 : Tryd.prog.underlying e = some (.int .i32)) :
    ∃ (n c : Nat) (u : Ext), (convert src dst (.string s)).run Tryd.prog W = .ok (.slice (some ⟨W.heap.size, 0, none⟩) n c) (W.ext u) ∧ n ≤ c ∧ c ≤ maxLen ∧ n ≤ s.size ∧ ((∀ x ∈ items s 0, 0 ≤ x) → n = (items s 0).length ∧ RuneRow (W.ext u) W.heap.size (items s 0)) := by
  have hsz : (Conv.runesFrom s s.size 0 #[]).size ≤ s.size := by simpa using size_runesFrom s s.size 0 #[]
  have hrun := run_runes_of_string W src dst e s h1 h2 h3 (by omega)
  obtain ⟨cs, hcs⟩ : ∃ cs, Conv.runesFrom s s.size 0 #[] = cs := ⟨_, rfl⟩
  have hit := runesFrom_items s s.size 0 #[] (by omega)
  rw [hcs] at hsz hrun hit
  obtain ⟨c, hc⟩ : ∃ c, grownCap W cs.size 0 e = c := ⟨_, rfl⟩
  have hge := grownCap_ge W cs.size 0 e
  have hle := grownCap_le_maxLen W cs.size 0 e (by unfold maxLen; omega)
  rw [hc] at hrun hge hle
  obtain ⟨u1, hu1⟩ := ext_drew W
  obtain ⟨u2, hu2⟩ := ext_alloc W.drew (.cells (cs ++ Array.replicate (c - cs.size) (.int .i32 0)) e)
  obtain ⟨u, hu⟩ := ext_ext W u1 u2
  have hW : W.drew.alloc (.cells (cs ++ Array.replicate (c - cs.size) (.int .i32 0)) e) = W.ext u := by rw [hu2, ← hu, ← hu1]
  refine ⟨cs.size, c, u, ?_, hge, hle, hsz, fun hg => ?_⟩
  · rw [← hW]; exact hrun
  · have hl := hit hg
    have hlen : cs.size = (items s 0).length := by rw [← Array.length_toList, hl]; simp
    refine ⟨hlen, ?_⟩
    rw [← hW]
    have hrow : (W.drew.alloc (.cells (cs ++ Array.replicate (c - cs.size) (.int .i32 0)) e)).heap[W.heap.size]? = some (.cells (cs ++ Array.replicate (c - cs.size) (.int .i32 0)) e (0, 0)) := heap_alloc_new W.drew _
    refine ⟨(Array.getElem?_eq_some_iff.1 hrow).1, fun k x hx => ?_⟩
    rw [cell_of_row _ _ _ _ _ (0, 0) hrow]
    have hk : k < (items s 0).length := (List.getElem?_eq_some_iff.1 hx).1
    rw [Array.getElem?_append_left (by omega), ← Array.getElem?_toList, hl]
    simp [hx]
/-- runes of a row, back: as many as there are from a place on -/
theorem runes_back (w : World) (g a n cap : Nat) (L t r : List Int) (h : RuneRow w g L) (hd : L.drop a = t ++ r) (hn : t.length = n) (src dst e : TypeId) (h1 : Tryd.prog.underlying src = some (.slice e)) (h2 : Tryd.prog.underlying e = some (.int .i32)) (h3 : Tryd.prog.underlying dst = some .string) (u : Ext) :
    (convert src dst (.slice (some ⟨g, a, none⟩) n cap)).run Tryd.prog (w.ext u) = .ok (.string (runesBytes t)) (w.ext u) := by
  have := run_convert_runes (P := Tryd.prog) (w.ext u) src dst e ⟨g, a, none⟩ n cap t (by omega) h1 h2 h3 (fun j hj => by
    rw [Addr.add_lit, cell?_ext _ _ _ h.1]
    apply h.2
    have e1 : (L.drop a)[j]? = some (t.getD j 0) := by rw [hd, List.getElem?_append_left hj]; simp [List.getD, List.getElem?_eq_getElem hj]
    rw [List.getElem?_drop] at e1
    exact e1)
  rw [this, List.take_of_length_le (by omega)]
end Go.Proofs.YtmlopggainkoiaaDoor
