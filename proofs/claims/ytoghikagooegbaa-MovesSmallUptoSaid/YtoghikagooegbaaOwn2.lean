/- Slices of the call's own: made at a length; written, a cell at a time. -/
import Derived.Test.YtoghikagooegbaaOwn
import Derived.Laws.MakeOwn
set_option linter.unusedSimpArgs false
set_option linter.unusedVariables false
namespace Go.Proofs.Ytoghikagooegbaa
open Go.RowKit

section
variable {α : Type} [Rep α] {w w' : World} {S S' : Nat → Prop} {xs ys : List α} {vs us : List Value} {x y : α}
theorem RepL.set1 {i j : Nat} {v : Value} (h : RepL w S xs vs) (hx : xs[i]? = some x) (hj : j < Rep.size α) (hy : ∀ us, Rep.is w S x us → Rep.is w S y (us.set j v)) : RepL w S (xs.set i y) (vs.set (i * Rep.size α + j) v) := by
  induction xs generalizing vs i with
  | nil => simp at hx
  | cons z l ih =>
    obtain ⟨us, ts, rfl, h1, h2⟩ := h
    have hl := Rep.len h1
    cases i with
    | zero =>
      simp at hx; subst hx
      refine ⟨us.set j v, ts, ?_, hy us h1, h2⟩
      rw [Nat.zero_mul, Nat.zero_add, List.set_append_left _ _ (by omega)]
    | succ i =>
      simp at hx
      refine ⟨us, ts.set (i * Rep.size α + j) v, ?_, h1, ih h2 hx⟩
      rw [List.set_append_right _ _ (by rw [hl, Nat.add_mul]; omega), hl]
      rw [show (i + 1) * Rep.size α + j - Rep.size α = i * Rep.size α + j by rw [Nat.add_mul]; omega]
theorem RepL.same {x : α} (n : Nat) {us : List Value} (h : Rep.is w S x us) : RepL w S (List.replicate n x) (List.replicate n us).flatten := by
  induction n with
  | zero => rfl
  | succ n ih => exact ⟨us, _, by simp [List.replicate_succ], h, ih⟩
theorem flat_get {β : Type} {z : List β} {k : Nat} (hk : z.length = k) (hp : 0 < k) : ∀ (n i : Nat), i < n * k → (List.replicate n z).flatten[i]? = z[i % k]?
  | 0, i, h => by omega
  | n + 1, i, h => by
    rw [List.replicate_succ, List.flatten_cons]
    by_cases hi : i < k
    · rw [List.getElem?_append_left (by omega), Nat.mod_eq_of_lt hi]
    · rw [List.getElem?_append_right (by omega), hk, flat_get hk hp n (i - k) (by rw [Nat.add_mul] at h; omega)]
      rw [show i % k = (i - k) % k by rw [← Nat.mod_eq_sub_mod (by omega)]]
theorem made_flat (z : Array Value) (n k : Nat) (hz : z.size = k) (hk : 0 < k) : (madeCells z (n * k)).toList = (List.replicate n z.toList).flatten := by
  apply List.ext_getElem?
  intro i
  have hfl : ((List.replicate n z.toList).flatten).length = n * k := by rw [List.length_flatten]; simp [hz]
  by_cases hi : i < n * k
  · rw [flat_get (by simpa using hz) hk n i hi]
    have hm : i % k < z.size := by rw [hz]; exact Nat.mod_lt _ hk
    have : i % z.size < z.size := by rw [hz]; rw [hz] at hm; exact hm
    simp only [madeCells, Array.toList_map, List.getElem?_map, Array.toList_range, List.getElem?_range hi, Option.map_some]
    rw [hz, getElem!_pos z (i % k) hm]
    simp [hm]
  · rw [List.getElem?_eq_none (by simp [size_madeCells]; omega), List.getElem?_eq_none (by omega)]
variable {base : Nat} {T : TypeId} {g n c : Nat}
theorem OwnL.form_at (h : OwnL w base T S (.slice (some ⟨g, 0, none⟩) n c) xs) : xs.length = n ∧ n ≤ c ∧ c ≤ maxLen ∧ base ≤ g ∧ g < w.heap.size ∧ ¬ S g ∧ ∃ cur, w.heap[g]? = some (.cells cur T (0, 0)) ∧ cur.size = c * Rep.size α ∧ RepL w S xs (cur.toList.take (n * Rep.size α)) := by
  obtain ⟨vals, ⟨h1, h⟩, hr, ha⟩ := h
  rcases h with ⟨e, h0⟩ | ⟨g', cap, cur, e, hg, hh, hnc, hcm, hsz, htake⟩
  · cases e
  · injection e with e1 e2 e3
    simp only [Option.some.injEq, Addr.mk.injEq, and_true, true_and] at e1
    subst e1 e2 e3
    exact ⟨rfl, hnc, hcm, hg, (Array.getElem?_eq_some_iff.1 hh).1, ha g rfl, cur, hh, hsz, by rw [htake]; exact hr⟩
theorem OwnL.of_block {cur : Array Value} (h1 : xs.length = n) (h2 : n ≤ c) (h3 : c ≤ maxLen) (h4 : base ≤ g) (h5 : ¬ S g) (h6 : w.heap[g]? = some (.cells cur T (0, 0))) (h7 : cur.size = c * Rep.size α) (h8 : RepL w S xs (cur.toList.take (n * Rep.size α))) :
    OwnL w base T S (.slice (some ⟨g, 0, none⟩) n c) xs := by
  refine ⟨cur.toList.take (n * Rep.size α), ⟨?_, .inr ⟨g, c, cur, by rw [h1], h4, h6, by omega, h3, h7, by rw [h1]⟩⟩, h8, fun k hk => ?_⟩
  · rw [List.length_take, h1, Nat.min_eq_left]; rw [Array.length_toList, h7]; exact Nat.mul_le_mul_right _ h2
  · simp only [Value.ownBlock, Option.some.injEq] at hk; subst hk; exact h5
/-- One cell of an element is written. -/
theorem OwnL.set {i j : Nat} {v : Value} (h : OwnL w base T S (.slice (some ⟨g, 0, none⟩) n c) xs) (hx : xs[i]? = some x) (hj : j < Rep.size α) (hy : ∀ us, Rep.is w S x us → Rep.is w S y (us.set j v)) :
    OwnL (w.setCell ⟨g, i * Rep.size α + j, none⟩ v) base T S (.slice (some ⟨g, 0, none⟩) n c) (xs.set i y) := by
  obtain ⟨h1, h2, h3, h4, hg, h5, cur, h6, h7, h8⟩ := h.form_at
  have hi : i < n := by rw [← h1]; exact (List.getElem?_eq_some_iff.1 hx).1
  refine OwnL.of_block (cur := cur.setIfInBounds (i * Rep.size α + j) v) (by simpa using h1) h2 h3 h4 h5 ?_ (by simpa using h7) ?_
  · show ((w.heap.modify g _)[g]?) = _
    rw [Array.getElem?_modify, if_pos rfl, h6]; rfl
  · have hk := RepL.keep (w' := w.setCell ⟨g, i * Rep.size α + j, none⟩ v) (h8.set1 hx hj hy) (by simp) fun b hb _ => Below.heap_setCell w _ v b (fun e => h5 (by rw [← show b = g from e]; exact hb))
    rw [Array.toList_setIfInBounds, List.take_set]
    exact hk
theorem OwnL.cell_at {i : Nat} (h : OwnL w base T S (.slice (some ⟨g, 0, none⟩) n c) xs) (hx : xs[i]? = some x) : ∃ us, Rep.is w S x us ∧ (∀ j u, us[j]? = some u → w.cell? ⟨g, i * Rep.size α + j, none⟩ = some u) ∧ ∀ j, w.frozen? ⟨g, j, none⟩ = false := by
  obtain ⟨h1, h2, h3, h4, hg, h5, cur, h6, h7, h8⟩ := h.form_at
  obtain ⟨us, hu, hc⟩ := h8.at_ hx
  refine ⟨us, hu, fun j u hj => ?_, fun j => ?_⟩
  · have := hc j u hj
    rw [List.getElem?_take] at this
    split at this
    · simp only [World.cell?, h6, Option.isSome_none, Bool.false_eq_true, if_false]
      rw [← Array.getElem?_toList]; exact this
    · cases this
  · simp [World.frozen?, h6]
/-- make, at a length. -/
theorem OwnL.made {z : Array Value} (hz : z.size = Rep.size α) (hp : 0 < Rep.size α) (hx : Rep.is w S x z.toList) (hn : n ≤ maxLen) (hb : base ≤ w.heap.size) (hS : ¬ S w.heap.size) (hg : g = w.heap.size) :
    OwnL (w.alloc (.cells (madeCells z (n * Rep.size α)) T)) base T S (.slice (some ⟨g, 0, none⟩) n n) (List.replicate n x) := by
  subst hg
  refine OwnL.of_block (cur := madeCells z (n * Rep.size α)) (by simp) (Nat.le_refl _) hn hb hS (heap_alloc_new w _) (size_madeCells _ _) ?_
  rw [List.take_of_length_le (by simp [size_madeCells]), made_flat z n _ hz hp]
  exact (RepL.same n hx).keep (by simp) fun b _ hb => Below.heap_alloc w _ b hb
end
end Go.Proofs.Ytoghikagooegbaa
