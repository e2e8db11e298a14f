/- Walks: the keys of a map whose keys are numbers, sorted. -/
import Derived.Test.YthmglmmafgdmhaaGreatShelfS
import Derived.Test.YthmglmmafgdmhaaGreatMpIn
import Derived.Test.YthmglmmafgdmhaaGreatTB3
set_option linter.unusedSimpArgs false
set_option linter.unusedVariables false
namespace Go.Proofs.YthmglmmafgdmhaaGreat
open Go.RowKit Go.Maps Go.Sort Go.Shelf

theorem lt_of_mergeSort {l : List Int} (h : l.Nodup) : (l.mergeSort fun x y => decide (x ≤ y)).Pairwise (· < ·) := sort_lt h
theorem sortsA (m : Nat) : AnyZI.SortsIn Tryz.prog Tryz.sortedA_ren Fence.wide m :=
  ⟨fun blk off cap ss W hH hblk hsz => callsIn_wide.2 (Tryz.slices_Sort_int blk off cap ss W hH hblk hsz),
   fun p cap W => callsIn_wide.2 (Tryz.slices_Sort_int_none p cap W)⟩
/-- It returns the keys, sorted, in a slice of its own. -/
def SortedP {β : Type} (f : Int → Option β) (B : Nat) (w : World) (e : Ending) (w' : World) : Prop :=
  ∃ (v : Value) (L : List Int), e = .returned v ∧ L.Pairwise (· < ·) ∧ (∀ x, x ∈ L ↔ (f x).isSome = true) ∧ OwnL w' B 3 (fun _ => False) v L ∧ Below w.heap.size w w'

theorem keysA_in (n : Nat) (hn : 1 ≤ n) (mb : Option Nat) (W : World) : CallsIn Fence.wide n Tryz.prog 43 #[.map mb] W fun e w' => e = .returned (.func (.func 68) #[] #[.pointer (some ⟨W.heap.size, 0, none⟩)]) ∧ w' = W.alloc (.cells #[.map mb] 92) :=
  AnyZI.keys_in Tryz.keysA Fence.wide n trivial rfl mb W
set_option maxHeartbeats 1000000 in
theorem sortedA_in {β : Type} {E : ElT Tryz.prog β} (n : Nat) (hn : 5 ≤ n) (w : World) (b nn : Nat) (f : Int → Option β) (h : MapP iK E w b nn f) (hmax : nn ≤ 1073741824) :
    CallsIn Fence.wide n Tryz.prog 41 #[.func (.func 68) #[] #[.pointer (some ⟨w.heap.size, 0, none⟩)]] (w.alloc (.cells #[.map (some b)] 92)) (SortedP f w.heap.size (w.alloc (.cells #[.map (some b)] 92))) := by
  have hgood := fun x (hx : (f x).isSome = true) => (h.good (Option.eq_some_of_isSome hx)).1
  obtain ⟨D0, hown, hnd, hmem⟩ := h.intKeys
  have hsz := hown.size_le
  have hbl := hown.lt
  have hseq : SeqGives Fence.wide (n - 1 - 1 - 1) Tryz.prog 68 #[.pointer (some ⟨w.heap.size, 0, none⟩)] encZ (fun ss => ss.Perm (intKeys D0)) (Maps.size D0) (w.alloc (.cells #[.map (some b)] 92)) :=
    AnyZI.keys_gives (ρ := Tryz.keysA_ren) { Tryz.keysA with } Fence.wide _ trivial rfl (by omega) w.heap.size b nn D0 _ (by simp) (by simp) (by
      obtain ⟨es, clock, hb, Ft, hs, hD⟩ := hown
      exact ⟨es, clock, (Below.heap_alloc _ _ b hbl).trans hb, Ft, hs, hD⟩)
  have cS := AnyZI.sorted_in Tryz.sortedA Fence.wide n trivial trivial trivial trivial rfl (by omega) (sortsA _) (enters_of Tryz.func66 (by kernel_rfl) rfl) 68 #[.pointer (some ⟨w.heap.size, 0, none⟩)] trivial (enters_of Tryz.func68 (by kernel_rfl) rfl) _ _ (by unfold maxLen; omega) (by omega) _ hseq
  change CallsIn _ _ Tryz.prog 41 _ _ _ at cS
  refine cS.mono ?_
  rintro e w' ⟨v, ss, rfl, hS, hrow, hnil, hb⟩
  have hnd2 := hS.nodup_iff.2 hnd
  have hm2 : ∀ x, x ∈ (ss.mergeSort fun x y => decide (x ≤ y)) ↔ (f x).isSome = true := fun x => by rw [List.mem_mergeSort, hS.mem_iff, hmem]
  refine ⟨v, _, rfl, sort_lt hnd2, hm2, ?_, hb⟩
  refine ⟨_, ?_, RepL.ints _ fun x hx => hgood x ((hm2 x).1 hx), fun _ _ h => h⟩
  rw [List.length_mergeSort]
  exact ownsRow_base_a hrow (by simp)

theorem keysB_in (n : Nat) (hn : 1 ≤ n) (mb : Option Nat) (W : World) : CallsIn Fence.wide n Tryz.prog 42 #[.map mb] W fun e w' => e = .returned (.func (.func 67) #[] #[.pointer (some ⟨W.heap.size, 0, none⟩)]) ∧ w' = W.alloc (.cells #[.map mb] 59) :=
  AnyZI.keys_in Tryz.keysB Fence.wide n trivial rfl mb W
set_option maxHeartbeats 1000000 in
theorem sortedB_in {β : Type} {E : ElT Tryz.prog β} (n : Nat) (hn : 5 ≤ n) (w : World) (b nn : Nat) (f : Int → Option β) (h : MapP iK E w b nn f) (hmax : nn ≤ 1073741824) :
    CallsIn Fence.wide n Tryz.prog 41 #[.func (.func 67) #[] #[.pointer (some ⟨w.heap.size, 0, none⟩)]] (w.alloc (.cells #[.map (some b)] 59)) (SortedP f w.heap.size (w.alloc (.cells #[.map (some b)] 59))) := by
  have hgood := fun x (hx : (f x).isSome = true) => (h.good (Option.eq_some_of_isSome hx)).1
  obtain ⟨D0, hown, hnd, hmem⟩ := h.intKeys
  have hsz := hown.size_le
  have hbl := hown.lt
  have hseq : SeqGives Fence.wide (n - 1 - 1 - 1) Tryz.prog 67 #[.pointer (some ⟨w.heap.size, 0, none⟩)] encZ (fun ss => ss.Perm (intKeys D0)) (Maps.size D0) (w.alloc (.cells #[.map (some b)] 59)) :=
    AnyZI.keys_gives (ρ := Tryz.keysB_ren) { Tryz.keysB with } Fence.wide _ trivial rfl (by omega) w.heap.size b nn D0 _ (by simp) (by simp) (by
      obtain ⟨es, clock, hb, Ft, hs, hD⟩ := hown
      exact ⟨es, clock, (Below.heap_alloc _ _ b hbl).trans hb, Ft, hs, hD⟩)
  have cS := AnyZI.sorted_in Tryz.sortedA Fence.wide n trivial trivial trivial trivial rfl (by omega) (sortsA _) (enters_of Tryz.func66 (by kernel_rfl) rfl) 67 #[.pointer (some ⟨w.heap.size, 0, none⟩)] trivial (enters_of Tryz.func67 (by kernel_rfl) rfl) _ _ (by unfold maxLen; omega) (by omega) _ hseq
  change CallsIn _ _ Tryz.prog 41 _ _ _ at cS
  refine cS.mono ?_
  rintro e w' ⟨v, ss, rfl, hS, hrow, hnil, hb⟩
  have hnd2 := hS.nodup_iff.2 hnd
  have hm2 : ∀ x, x ∈ (ss.mergeSort fun x y => decide (x ≤ y)) ↔ (f x).isSome = true := fun x => by rw [List.mem_mergeSort, hS.mem_iff, hmem]
  refine ⟨v, _, rfl, sort_lt hnd2, hm2, ?_, hb⟩
  refine ⟨_, ?_, RepL.ints _ fun x hx => hgood x ((hm2 x).1 hx), fun _ _ h => h⟩
  rw [List.length_mergeSort]
  exact ownsRow_base_a hrow (by simp)
end Go.Proofs.YthmglmmafgdmhaaGreat
