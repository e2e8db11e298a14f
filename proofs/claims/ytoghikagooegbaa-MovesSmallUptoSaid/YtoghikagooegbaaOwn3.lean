/- Slices of the call's own: an element is taken out, in place. -/
import Derived.Test.YtoghikagooegbaaOwn2
import Derived.Laws.IdiomCopy
import Derived.Deep.RegionLaw
import Derived.Lib.SliceRun
set_option linter.unusedSimpArgs false
set_option linter.unusedVariables false
namespace Go.Proofs.Ytoghikagooegbaa
open Go.RowKit

/-- Cells of a row, written from one place on. -/
def arrSet (cur : Array Value) : Nat → List Value → Array Value
  | _, [] => cur
  | o, v :: vs => arrSet (cur.setIfInBounds o v) (o + 1) vs
theorem arrSet_list : ∀ (vs : List Value) (cur : Array Value) (o : Nat), o + vs.length ≤ cur.size → (arrSet cur o vs).toList = cur.toList.take o ++ vs ++ cur.toList.drop (o + vs.length) := by
  intro vs
  induction vs with
  | nil => intro cur o h; simp [arrSet]
  | cons v vs ih =>
    intro cur o h
    simp only [List.length_cons] at h
    have ho : o < cur.size := by omega
    rw [arrSet, ih _ _ (by simpa using (by omega : o + 1 + vs.length ≤ cur.size))]
    rw [Array.toList_setIfInBounds]
    have e1 : (cur.toList.set o v).take (o + 1) = cur.toList.take o ++ [v] := by
      rw [List.take_set, List.take_succ_eq_append_getElem (by simpa using ho)]
      have hl : (cur.toList.take o).length = o := by rw [List.length_take, Array.length_toList]; omega
      rw [List.set_append_right _ _ (by omega), hl, Nat.sub_self]
      rfl
    have e2 : (cur.toList.set o v).drop (o + 1 + vs.length) = cur.toList.drop (o + (vs.length + 1)) := by
      rw [List.drop_set_of_lt (by omega)]
      congr 1; omega
    rw [e1, e2]
    simp
theorem arrSet_size : ∀ (vs : List Value) (cur : Array Value) (o : Nat), (arrSet cur o vs).size = cur.size := by
  intro vs
  induction vs with
  | nil => intro cur o; rfl
  | cons v vs ih => intro cur o; rw [arrSet, ih]; simp
theorem heap_setCells_same {g : Nat} {T : TypeId} {p : Nat × Nat} : ∀ (vs : List Value) (o : Nat) (w : World) (cur : Array Value), w.heap[g]? = some (.cells cur T p) → (w.setCells g o vs).heap[g]? = some (.cells (arrSet cur o vs) T p) := by
  intro vs
  induction vs with
  | nil => intro o w cur h; exact h
  | cons v vs ih =>
    intro o w cur h
    show ((w.setCell ⟨g, o, none⟩ v).setCells g (o + 1) vs).heap[g]? = _
    rw [ih (o + 1) _ (cur.setIfInBounds o v) (by
      show ((w.heap.modify g _)[g]?) = _
      rw [Array.getElem?_modify, if_pos rfl, h]; rfl)]
    rfl
theorem size_setCells' (g : Nat) : ∀ (vs : List Value) (o : Nat) (w : World), (w.setCells g o vs).heap.size = w.heap.size := by
  intro vs
  induction vs with
  | nil => intro o w; rfl
  | cons v vs ih => intro o w; show ((w.setCell ⟨g, o, none⟩ v).setCells g (o + 1) vs).heap.size = _; rw [ih]; simp
theorem setCells_grown (g : Nat) : ∀ (vs : List Value) (o : Nat) (w : World), w.grownBy (w.setCells g o vs) (some g) := by
  intro vs
  induction vs with
  | nil => intro o w; exact World.grownBy.refl _ _
  | cons v vs ih =>
    intro o w
    have h1 : w.grownBy (w.setCell ⟨g, o, none⟩ v) (some g) := ⟨rfl, rfl, rfl, by simp, fun i hi hne => Below.heap_setCell w ⟨g, o, none⟩ v i (fun e => hne (by rw [e]))⟩
    exact h1.trans (ih (o + 1) (w.setCell ⟨g, o, none⟩ v))
section
variable {α : Type} [Rep α] {w w' : World} {S : Nat → Prop} {xs : List α} {vs : List Value}
theorem RepL.erase : ∀ {xs : List α} {vs : List Value} (k : Nat), RepL w S xs vs → k < xs.length → RepL w S (xs.eraseIdx k) (vs.take (k * Rep.size α) ++ vs.drop ((k + 1) * Rep.size α)) := by
  intro xs
  induction xs with
  | nil => intro vs k _ hk; simp at hk
  | cons x l ih =>
    intro vs k h hk
    obtain ⟨us, ts, rfl, h1, h2⟩ := h
    have hl := Rep.len h1
    cases k with
    | zero =>
      simp only [Nat.zero_mul, List.take_zero, List.nil_append, Nat.zero_add, Nat.one_mul, List.eraseIdx_zero, List.tail_cons]
      rw [← hl, List.drop_left]
      exact h2
    | succ k =>
      have := ih k h2 (by simpa using hk)
      refine ⟨us, ts.take (k * Rep.size α) ++ ts.drop ((k + 1) * Rep.size α), ?_, h1, this⟩
      have f1 : (us ++ ts).take ((k + 1) * Rep.size α) = us ++ ts.take (k * Rep.size α) := by
        rw [show (k + 1) * Rep.size α = us.length + k * Rep.size α by rw [hl, Nat.add_mul]; omega, List.take_append, List.take_of_length_le (by omega), Nat.add_sub_cancel_left]
      have f2 : (us ++ ts).drop ((k + 1 + 1) * Rep.size α) = ts.drop ((k + 1) * Rep.size α) := by
        rw [show (k + 1 + 1) * Rep.size α = us.length + (k + 1) * Rep.size α by rw [hl, Nat.add_mul (k + 1)]; omega, List.drop_append, List.drop_of_length_le (by omega), Nat.add_sub_cancel_left]
        rfl
      rw [f1, f2, List.append_assoc]
variable {base : Nat} {T : TypeId} {g n c : Nat}
/-- An element is taken out: those behind it move ahead, what is left over is written anew. -/
theorem OwnL.erase {k : Nat} (h : OwnL w base T S (.slice (some ⟨g, 0, none⟩) n c) xs) (hk : k < n) {news zs : List Value} (hnews : ∀ cur, w.heap[g]? = some (.cells cur T (0, 0)) → news = (cur.toList.take (n * Rep.size α)).drop ((k + 1) * Rep.size α)) (hz : zs.length = Rep.size α) :
    OwnL ((w.setCells g (k * Rep.size α) news).setCells g ((n - 1) * Rep.size α) zs) base T S (.slice (some ⟨g, 0, none⟩) (n - 1) c) (xs.eraseIdx k) := by
  obtain ⟨h1, h2, h3, h4, hg, h5, cur, h6, h7, h8⟩ := h.form_at
  have hn := hnews cur h6
  have hs : n * Rep.size α ≤ cur.size := by rw [h7]; exact Nat.mul_le_mul_right _ h2
  have e0 : (n - 1) * Rep.size α + Rep.size α = n * Rep.size α := by
    obtain ⟨m, rfl⟩ : ∃ m, n = m + 1 := ⟨n - 1, by omega⟩
    rw [Nat.add_sub_cancel, Nat.add_mul]; omega
  have e1 : (k + 1) * Rep.size α ≤ n * Rep.size α := Nat.mul_le_mul_right _ hk
  have e2 : (k + 1) * Rep.size α = k * Rep.size α + Rep.size α := by rw [Nat.add_mul]; omega
  have hnl : news.length = n * Rep.size α - (k + 1) * Rep.size α := by rw [hn, List.length_drop, List.length_take, Array.length_toList]; omega
  have b1 := heap_setCells_same news (k * Rep.size α) w cur h6
  have b2 := heap_setCells_same zs ((n - 1) * Rep.size α) _ _ b1
  refine OwnL.of_block (cur := arrSet (arrSet cur (k * Rep.size α) news) ((n - 1) * Rep.size α) zs) (by rw [List.length_eraseIdx, if_pos (by omega)]; omega) (by omega) h3 h4 h5 b2 (by rw [arrSet_size, arrSet_size, h7]) ?_
  have hl1 : (arrSet cur (k * Rep.size α) news).toList = cur.toList.take (k * Rep.size α) ++ news ++ cur.toList.drop (k * Rep.size α + news.length) := arrSet_list _ _ _ (by omega)
  have hl2 : (arrSet (arrSet cur (k * Rep.size α) news) ((n - 1) * Rep.size α) zs).toList = (arrSet cur (k * Rep.size α) news).toList.take ((n - 1) * Rep.size α) ++ zs ++ (arrSet cur (k * Rep.size α) news).toList.drop ((n - 1) * Rep.size α + zs.length) := arrSet_list _ _ _ (by rw [arrSet_size]; omega)
  have hl3 : (cur.toList.take (k * Rep.size α)).length = k * Rep.size α := by rw [List.length_take, Array.length_toList]; omega
  have hl4 : ((arrSet cur (k * Rep.size α) news).toList.take ((n - 1) * Rep.size α)).length = (n - 1) * Rep.size α := by rw [List.length_take, Array.length_toList, arrSet_size]; omega
  have ht : (arrSet (arrSet cur (k * Rep.size α) news) ((n - 1) * Rep.size α) zs).toList.take ((n - 1) * Rep.size α) = (cur.toList.take (n * Rep.size α)).take (k * Rep.size α) ++ (cur.toList.take (n * Rep.size α)).drop ((k + 1) * Rep.size α) := by
    rw [hl2, List.append_assoc, List.take_append_of_le_length (by omega), List.take_take, Nat.min_self, hl1, List.take_append_of_le_length (by rw [List.length_append]; omega), List.take_of_length_le (by rw [List.length_append]; omega), ← hn]
    congr 1
    rw [List.take_take, Nat.min_eq_left (by omega)]
  rw [ht]
  exact (h8.erase k (by omega)).keep (by rw [size_setCells', size_setCells']; exact Nat.le_refl _) fun b hb hl => by
    have hbg : b ≠ g := fun e => h5 (e ▸ hb)
    have g1 := (setCells_grown g news (k * Rep.size α) w).trans (setCells_grown g zs ((n - 1) * Rep.size α) _)
    exact g1.block b hl (by intro e; injection e with e; exact hbg e)
end
/-- clear, at one element. -/
theorem run_clear_one {P : Program} (w : World) (t e ty : TypeId) (z : Value) (ht : P.underlying t = some (.slice e)) (hv : (zeroValue e).run P w = .ok z w) (hzs : 0 < z.cells.size) (h1 : ∀ u ∈ z.cells.toList, u.oneCell' = true) (b o c : Nat)
    (hc : ∀ j, j < z.cells.size → (w.cell? ⟨b, o + j, none⟩).isSome = true) (hf : ∀ j, j < z.cells.size → w.frozen? ⟨b, o + j, none⟩ = false) :
    (Builtin.clear_ #[t] ty #[.slice (some ⟨b, o, none⟩) 1 c]).run P w = .ok (.tuple #[]) (w.setCells b o z.cells.toList) := by
  have hzc : (Builtin.zeroCells z.cells 1).toList = z.cells.toList := by
    simp only [Builtin.zeroCells, Nat.one_mul]
    apply List.ext_getElem
    · simp
    · intro i h1 h2
      simp at h1 h2 ⊢
      rw [Nat.mod_eq_of_lt (by omega)]
      simp [h2]
  have hst := run_storeCells_cells (P := P) b o z.cells.toList 0 w (by simpa using hc) (by simpa using hf) h1
  simp only [Nat.add_zero] at hst
  simp [Builtin.clear_, run_underlying ht, hv, hzc, hst]
end Go.Proofs.Ytoghikagooegbaa
