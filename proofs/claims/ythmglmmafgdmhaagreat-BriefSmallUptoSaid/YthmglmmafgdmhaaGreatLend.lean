/- Lists that are lent: with marks behind their ends, in their spare room, and so the lists within them. -/
import Derived.Test.YthmglmmafgdmhaaGreatS06
import Derived.Test.YthmglmmafgdmhaaGreatOwn
set_option linter.unusedSimpArgs false
set_option linter.unusedVariables false
namespace Go.Proofs.YthmglmmafgdmhaaGreat
open Go.RowKit

/-- A thing whose lists are lent. -/
structure L (α : Type) where
  val : α
class Lend (α : Type) [Rep α] where
  rep : Rep (L α)
  size_eq : rep.size = Rep.size α
  marks : List α
  twelve : marks.length = 12
  forget : ∀ {w S x vs}, rep.is w S (L.mk x) vs → Rep.is w S x vs
instance {α : Type} [Rep α] [Lend α] : Rep (L α) := Lend.rep
/-- An element of a row that is lent, and a mark behind it. -/
inductive E (α : Type) where
  | lent (x : α)
  | plain (x : α)
section
variable {α : Type} [Rep α] [Lend α]
instance : Rep (E α) where
  size := Rep.size α
  is w S e vs := match e with
    | .lent x => Rep.is w S (L.mk x) vs
    | .plain x => Rep.is w S x vs
  len {w S x vs} h := by
    cases x with
    | lent x => exact (Rep.len (α := L α) h).trans Lend.size_eq
    | plain x => exact Rep.len (α := α) h
  keep {w w' S x vs} h hs hk := by
    cases x with
    | lent x => exact Rep.keep (α := L α) h hs hk
    | plain x => exact Rep.keep (α := α) h hs hk
  more {w S S' x vs} h hb := by
    cases x with
    | lent x => exact Rep.more (α := L α) h hb
    | plain x => exact Rep.more (α := α) h hb
  one {w S x vs} h := by
    cases x with
    | lent x => exact Rep.one (α := L α) h
    | plain x => exact Rep.one (α := α) h
def row (xs : List α) : List (E α) := xs.map .lent ++ (Lend.marks : List α).map .plain
/-- The first marks. -/
def mks (α : Type) [Rep α] [Lend α] (k : Nat) : List α := (Lend.marks : List α).take k
theorem mks_all : mks α 12 = Lend.marks := List.take_of_length_le (by rw [Lend.twelve]; omega)
theorem mks_succ {k : Nat} {x : α} (h : (Lend.marks : List α)[k]? = some x) : mks α (k + 1) = mks α k ++ [x] := by
  obtain ⟨hl, he⟩ := List.getElem?_eq_some_iff.1 h
  unfold mks; rw [List.take_succ_eq_append_getElem hl, he]
theorem mks_len {k : Nat} (h : k ≤ 12) : (mks α k).length = k := by unfold mks; rw [List.length_take, Lend.twelve]; omega
theorem row_lent {xs : List α} {k : Nat} {x : α} (h : xs[k]? = some x) : (row xs)[k]? = some (.lent x) := by
  have hl : k < xs.length := (List.getElem?_eq_some_iff.1 h).1
  unfold row
  rw [List.getElem?_append_left (by simpa using hl)]
  simp [h]
theorem row_plain {xs : List α} {j : Nat} {x : α} (h : (Lend.marks : List α)[j]? = some x) : (row xs)[xs.length + j]? = some (.plain x) := by
  unfold row
  rw [List.getElem?_append_right (by simp)]
  simp [h]
theorem row_len {xs : List α} : (row xs).length = xs.length + 12 := by simp [row, Lend.twelve]
/-- What is lent reads as it did. -/
theorem Sl.forget {w : World} {S : Nat → Prop} {A : Option Addr} {n c : Nat} {xs : List α} (h : Sl w S A (n + 12) c (row xs)) (hn : xs.length = n) : Sl w S A n c xs := by
  obtain ⟨h1, h2, h3, h4, h5⟩ := h
  refine ⟨hn, by omega, h3, h4, fun h0 => ?_⟩
  obtain ⟨b, off, e, hb, hS, hx⟩ := h5 (by omega)
  refine ⟨b, off, e, hb, hS, fun i x hi => ?_⟩
  obtain ⟨us, hus, hc⟩ := hx i _ (row_lent hi)
  exact ⟨us, Lend.forget hus, hc⟩
theorem Sl.at_lent {w : World} {S : Nat → Prop} {A : Option Addr} {n c : Nat} {xs : List α} (h : Sl w S A (n + 12) c (row xs)) (hn : xs.length = n) {k : Nat} (hk : k < n) :
    ∃ b off x us, A = some ⟨b, off, none⟩ ∧ b < w.heap.size ∧ S b ∧ xs[k]? = some x ∧ Rep.is w S (L.mk x) us ∧ ∀ j u, us[j]? = some u → w.cell? ⟨b, off + (k * Rep.size α + j), none⟩ = some u := by
  obtain ⟨b, off, y, us, e, hb, hS, hx, hus, hc⟩ := h.at_ (show k < n + 12 by omega)
  have hl : k < xs.length := by omega
  have hx' := row_lent (List.getElem?_eq_getElem hl)
  rw [hx'] at hx
  injection hx with hx
  subst hx
  exact ⟨b, off, xs[k], us, e, hb, hS, List.getElem?_eq_getElem hl, hus, hc⟩
theorem Sl.at_mark {w : World} {S : Nat → Prop} {A : Option Addr} {n c : Nat} {xs : List α} (h : Sl w S A (n + 12) c (row xs)) (hn : xs.length = n) {j : Nat} (hj : j < 12) {x : α} (hx : (Lend.marks : List α)[j]? = some x) :
    ∃ b off us, A = some ⟨b, off, none⟩ ∧ b < w.heap.size ∧ S b ∧ Rep.is w S x us ∧ ∀ i u, us[i]? = some u → w.cell? ⟨b, off + ((n + j) * Rep.size α + i), none⟩ = some u := by
  obtain ⟨b, off, y, us, e, hb, hS, hy, hus, hc⟩ := h.at_ (show n + j < n + 12 by omega)
  have hx' := row_plain (xs := xs) hx
  rw [hn, hy] at hx'
  injection hx' with hx'
  subst hx'
  exact ⟨b, off, us, e, hb, hS, hus, hc⟩
end
instance {α : Type} [Rep α] [Lend α] : Rep (L (List α)) where
  size := 1
  is w S xs vs := ∃ A n c, vs = [.slice A n c] ∧ xs.val.length = n ∧ Sl w S A (n + 12) c (row xs.val)
  len h := by obtain ⟨A, n, c, rfl, _, _⟩ := h; rfl
  keep h hs hk := by obtain ⟨A, n, c, rfl, hn, h⟩ := h; exact ⟨A, n, c, rfl, hn, h.keep hs hk⟩
  more h hb := by obtain ⟨A, n, c, rfl, hn, h⟩ := h; exact ⟨A, n, c, rfl, hn, h.more hb⟩
  one h := by obtain ⟨A, n, c, rfl, _, _⟩ := h; simp [Value.oneCell']
theorem L.forget {α : Type} [Rep α] [Lend α] {w : World} {S : Nat → Prop} {xs : List α} {vs : List Value} (h : Rep.is w S (L.mk xs) vs) : Rep.is w S xs vs := by
  obtain ⟨A, n, c, rfl, hn, h⟩ := h
  exact ⟨A, n, c, rfl, h.forget hn⟩
instance : Lend Int where
  rep := Rep.via L.val
  size_eq := rfl
  marks := (List.range 12).map fun i => markI 1 (i : Nat)
  twelve := rfl
  forget h := h

/-- It returns a list that is lent, in new memory. -/
def RetLent {α : Type} [Rep α] [Lend α] (xs : List α) (w : World) (e : Ending) (w' : World) : Prop :=
  ∃ A n c, e = .returned (.slice A n c) ∧ xs.length = n ∧ Sl w' (fun b => w.heap.size ≤ b) A (n + 12) c (row xs) ∧ ∃ u : Ext, w' = w.ext u
theorem OwnL.form_pos {α : Type} [Rep α] {w : World} {base : Nat} {T : TypeId} {S : Nat → Prop} {v : Value} {xs : List α} {n : Nat} (h : OwnL w base T S v xs) (hn : xs.length = n) (h0 : 0 < n) : ∃ g c, v = .slice (some ⟨g, 0, none⟩) n c ∧ n ≤ c ∧ c ≤ 9223372036854775807 := by
  obtain ⟨vals, ⟨_, h⟩, _⟩ := h
  rcases h with ⟨rfl, h1⟩ | ⟨g, cap, cur, rfl, _, _, hc, hm, _⟩
  · omega
  · subst hn; exact ⟨g, cap, rfl, hc, by unfold maxLen at hm; omega⟩
end Go.Proofs.YthmglmmafgdmhaaGreat
