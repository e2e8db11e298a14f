/- Rows that have all their room: the cells up to a slice's capacity are there. -/
import Derived.Test.YtppkanniefignaaGreatDoorG2
set_option linter.unusedSimpArgs false
set_option linter.unusedVariables false
namespace Go.Proofs.YtppkanniefignaaGreatDoor
open Go.RowKit

/-- The slice at A has c elements' room, in a block of S. -/
def Room (w : World) (S : Nat → Prop) (sz : Nat) (A : Option Addr) (c : Nat) : Prop :=
  (A = none ∧ c = 0) ∨ ∃ g cur T, A = some ⟨g, 0, none⟩ ∧ S g ∧ g < w.heap.size ∧ w.heap[g]? = some (.cells cur T (0, 0)) ∧ cur.size = c * sz
section
variable {w w' : World} {S S' : Nat → Prop} {sz c : Nat} {A : Option Addr}
theorem Room.keep (h : Room w S sz A c) (hk : ∀ b, S b → b < w.heap.size → w'.heap[b]? = w.heap[b]?) (hs : w.heap.size ≤ w'.heap.size) : Room w' S sz A c := by
  rcases h with h | ⟨g, cur, T, e, h1, h2, h3, h4⟩
  · exact .inl h
  · exact .inr ⟨g, cur, T, e, h1, by omega, (hk g h1 h2).trans h3, h4⟩
theorem Room.more (h : Room w S sz A c) (hS : ∀ b, b < w.heap.size → S b → S' b) : Room w S' sz A c := by
  rcases h with h | ⟨g, cur, T, e, h1, h2, h3, h4⟩
  · exact .inl h
  · exact .inr ⟨g, cur, T, e, hS g h2 h1, h2, h3, h4⟩
/-- A cell that is written: the room stays. -/
theorem Room.set (h : Room w S sz A c) (b j : Nat) (u : Value) : Room (w.setCell ⟨b, j, none⟩ u) S sz A c := by
  rcases h with h | ⟨g, cur, T, e, h1, h2, h3, h4⟩
  · exact .inl h
  · by_cases hp : b = g
    · subst hp
      have hh : (w.setCell ⟨b, j, none⟩ u).heap[b]? = some (.cells (cur.setIfInBounds j u) T (0, 0)) := by
        show (w.heap.modify b _)[b]? = _
        rw [Array.getElem?_modify, if_pos rfl, h3]; rfl
      exact .inr ⟨b, cur.setIfInBounds j u, T, e, h1, by simpa using h2, hh, by simpa using h4⟩
    · exact .inr ⟨g, cur, T, e, h1, by simpa using h2, (Below.heap_setCell w ⟨b, j, none⟩ u g (fun e => hp e.symm)).trans h3, h4⟩
end
theorem OwnL.room {α : Type} [Rep α] {w : World} {base : Nat} {T : TypeId} {S S' : Nat → Prop} {A : Option Addr} {n c : Nat} {xs : List α} (h : OwnL w base T S (.slice A n c) xs) (hS : ∀ b, base ≤ b → b < w.heap.size → S' b) : Room w S' (Rep.size α) A c := by
  obtain ⟨vals, ⟨_, h⟩, _⟩ := h
  rcases h with ⟨e, _⟩ | ⟨g, cap, cur, e, hg, hh, _, _, hsz, _⟩
  · injection e with e1 e2 e3
    exact .inl ⟨e1, e3⟩
  · injection e with e1 e2 e3
    subst e1 e2 e3
    have hl := (Array.getElem?_eq_some_iff.1 hh).1
    exact .inr ⟨g, cur, T, rfl, hS g hg hl, hl, hh, hsz⟩
/-- A list that is one cell's slice, with room. -/
def RowR (α : Type) : Type := List α
instance {α : Type} [Rep α] : Rep (RowR α) where
  size := 1
  is w S x vs := ∃ A n c, vs = [.slice A n c] ∧ Sl w S A n c (x : List α) ∧ Room w S (Rep.size α) A c
  len h := by obtain ⟨A, n, c, rfl, _⟩ := h; rfl
  keep h hs hk := by obtain ⟨A, n, c, e, h1, h2⟩ := h; exact ⟨A, n, c, e, h1.keep hs hk, h2.keep hk hs⟩
  more h hS := by obtain ⟨A, n, c, e, h1, h2⟩ := h; exact ⟨A, n, c, e, h1.more hS, h2.more hS⟩
  one h := by obtain ⟨A, n, c, rfl, _⟩ := h; simp [Value.oneCell']
theorem RepL.conv {α β : Type} [Rep α] [Rep β] {w : World} {S : Nat → Prop} (f : α → β) (hf : ∀ x us, Rep.is w S x us → Rep.is w S (f x) us) : ∀ {xs : List α} {vs : List Value}, RepL w S xs vs → RepL w S (xs.map f) vs
  | [], _, h => h
  | x :: l, vs, ⟨us, ts, e, h1, h2⟩ => ⟨us, ts, e, hf x us h1, RepL.conv f hf h2⟩
theorem OwnL.conv {α β : Type} [Rep α] [Rep β] {w : World} {base : Nat} {T : TypeId} {S : Nat → Prop} {v : Value} {xs : List α} (h : OwnL w base T S v xs) (f : α → β) (hz : Rep.size α = Rep.size β) (hf : ∀ x us, Rep.is w S x us → Rep.is w S (f x) us) : OwnL w base T S v (xs.map f) := by
  obtain ⟨vals, h1, h2, h3⟩ := h
  exact ⟨vals, by rw [List.length_map, ← hz]; exact h1, h2.conv f hf, h3⟩
theorem RepL.rows {α : Type} [Rep α] {w : World} {S : Nat → Prop} : ∀ {xs : List (RowR α)} {vs : List Value}, RepL w S xs vs → RepL (α := List α) w S xs vs
  | [], _, h => h
  | x :: l, vs, ⟨us, ts, e, h1, h2⟩ => ⟨us, ts, e, (by obtain ⟨A, n, c, e, h1, _⟩ := h1; exact ⟨A, n, c, e, h1⟩), RepL.rows h2⟩
theorem OwnL.rows {α : Type} [Rep α] {w : World} {base : Nat} {T : TypeId} {S : Nat → Prop} {v : Value} {xs : List (RowR α)} (h : OwnL w base T S v xs) : OwnL (α := List α) w base T S v xs := by
  obtain ⟨vals, h1, h2, h3⟩ := h
  exact ⟨vals, h1, h2.rows, h3⟩
end Go.Proofs.YtppkanniefignaaGreatDoor
