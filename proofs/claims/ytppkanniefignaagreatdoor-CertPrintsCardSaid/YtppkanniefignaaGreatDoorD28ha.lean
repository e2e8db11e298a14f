/- law28: walks: tiles that are the same; marks. -/
import Derived.Test.YtppkanniefignaaGreatDoorG20
import Derived.Test.YtppkanniefignaaGreatDoorG21
set_option linter.unusedSimpArgs false
set_option linter.unusedVariables false
namespace Go.Proofs.YtppkanniefignaaGreatDoor
open Go.RowKit Go.Maps
theorem at_factRow {w : World} {S : Nat → Prop} {A : Option Addr} {n c : Nat} {xs : List (List Fact)} (h : Sl w S A n c xs) {k : Nat} (hk : k < n) :
    ∃ b off, ∃ x : List Fact, ∃ A1 n1 c1, A = some ⟨b, off, none⟩ ∧ b < w.heap.size ∧ xs[k]? = some x ∧ Sl w S A1 n1 c1 x ∧ w.cell? ⟨b, off + k, none⟩ = some (.slice A1 n1 c1) := by
  obtain ⟨b, off, x, us, e, hb, _, hx, hus, hc⟩ := h.at_ hk
  obtain ⟨A1, n1, c1, rfl, hs⟩ := hus
  refine ⟨b, off, x, A1, n1, c1, e, hb, hx, hs, ?_⟩
  have := hc 0 _ rfl
  simpa [Rep.size] using this
theorem sameTile28_any (w : World) (S S' : Nat → Prop) (A0 A0' : Option Addr) (n0 c0 c0' : Nat) (x : Tile) (h0 : Sl w S A0 n0 c0 x.blocks) (h0' : Sl w S' A0' n0 c0' x.blocks) :
    Calls Tryz.prog 96 #[.agg #[.int .i64 x.kind, .int .i64 x.parent, .slice A0 n0 c0], .agg #[.int .i64 x.kind, .int .i64 x.parent, .slice A0' n0 c0']] w (RetX (.bool true) w) := by
  have H0 := hide h0; clear h0
  have H0' := hide h0'; clear h0'
  go_enter Tryz.func96, Tryz.ntmps96
  go_wp2_with (first | (go_at_call 142; refine (sameInts_any _ S S' A0 A0' n0 c0 c0' x.blocks (by repeat (first | assumption | exact Hd.out (by assumption) | apply Sl.alloc | apply Sl.ext | apply Sl.drew | apply Sl.drewN)) (by repeat (first | assumption | exact Hd.out (by assumption) | apply Sl.alloc | apply Sl.ext | apply Sl.drew | apply Sl.drewN))).mono ?_; rintro e _ ⟨rfl, ux, rfl⟩))
  go_ret
  exact RetX.b rfl (by repeat (first | exact Below.refl _ _ | assumption | refine Below.alloc ?_ (by simp [size_ext]; try omega) _ | refine Below.ext ?_ (by simp [size_ext]; try omega) _ | refine Below.drew ?_ | refine Below.setCell ?_ (by simp [size_ext]; try omega) _))
theorem mark28_any (k i : Int) (w : World) (hk : 0 ≤ k ∧ k ≤ 100000000) (hi : 0 ≤ i ∧ i ≤ 1152921504606846976) : Calls Tryz.prog 43 #[.int .i64 k, .int .i64 i] w (Ret (.int .i64 (markI k i)) w) := by
  obtain ⟨k1, k2⟩ := hk
  obtain ⟨i1, i2⟩ := hi
  go_enter Tryz.func43, Tryz.ntmps43
  go_wp2; go_ret; exact Ret.i rfl
set_option maxRecDepth 100000 in
set_option maxHeartbeats 4000000 in
theorem markFact28_any (k i : Int) (w : World) (hk : 0 ≤ k ∧ k ≤ 100000000) (hi : 0 ≤ i ∧ i ≤ 1152921504606846976) : Calls Tryz.prog 44 #[.int .i64 k, .int .i64 i] w (RetX (.agg #[.int .i64 (markI k i), .bool false, .int .i64 0]) w) := by
  obtain ⟨mm, hmm⟩ : ∃ m, markI k i = m := ⟨_, rfl⟩
  have HMA := hide (fun W => show Calls Tryz.prog 43 #[.int .i64 k, .int .i64 i] W (Ret (.int .i64 mm) W) from hmm ▸ mark28_any k i W hk hi)
  rw [hmm]
  clear hmm hk hi
  go_enter Tryz.func44, Tryz.ntmps44
  go_wp2_with (first | (go_at_call 43; (with_reducible refine (HMA.out _).mono ?_); rintro e _ ⟨rfl, rfl⟩))
  refine bodyPost_ret (results_cell_row Tryz.results44 _ _ w.heap.size _ _ (0, 0) _ rfl (heap_alloc_new w _) Tryz.underlying42 rfl (by kernel_rfl)) rfl ?_
  exact ⟨rfl, Below.to_ext ((Below.refl _ _).alloc (Nat.le_refl _) _)⟩
theorem OwnL.at_own {α : Type} [Rep α] {w : World} {base : Nat} {T : TypeId} {S : Nat → Prop} {A : Option Addr} {n c : Nat} {xs : List α} (h : OwnL w base T S (.slice A n c) xs) {k : Nat} (hk : k < n) :
    ∃ g x us, A = some ⟨g, 0, none⟩ ∧ base ≤ g ∧ g < w.heap.size ∧ ¬ S g ∧ xs[k]? = some x ∧ Rep.is w S x us ∧ ∀ j u, us[j]? = some u → w.cell? ⟨g, k * Rep.size α + j, none⟩ = some u := by
  obtain ⟨vals, ⟨h1, h⟩, hr, hap⟩ := h
  rcases h with ⟨e, h0⟩ | ⟨g, cap, cur, e, hg, hh, hnc, hcm, hsz, htake⟩
  · injection e with e1 e2 e3
    omega
  · injection e with e1 e2 e3
    subst e1 e2 e3
    have hgl : g < w.heap.size := (Array.getElem?_eq_some_iff.1 hh).1
    obtain ⟨us, hus, hc⟩ := hr.at_ (List.getElem?_eq_getElem hk)
    refine ⟨g, xs[k], us, rfl, hg, hgl, hap g rfl, List.getElem?_eq_getElem hk, hus, fun j u hj => ?_⟩
    rw [cell_of_row w g _ cur T (0, 0) hh]
    have := hc j u hj
    rw [← htake, List.getElem?_take] at this
    split at this
    · simpa using this
    · cases this
end Go.Proofs.YtppkanniefignaaGreatDoor
