/- Walks: numbers that were lent are found kept. -/
import Derived.Test.YthmglmmafgdmhaaGreatK2
set_option linter.unusedSimpArgs false
set_option linter.unusedVariables false
namespace Go.Proofs.YthmglmmafgdmhaaGreat
open Go.RowKit

theorem at_lent_int {w : World} {S : Nat → Prop} {A : Option Addr} {n c : Nat} {xs : List Int} (h : Sl w S A (n + 12) c (row xs)) (hn : xs.length = n) {k : Nat} (hk : k < n) :
    ∃ b off x, A = some ⟨b, off, none⟩ ∧ b < w.heap.size ∧ xs[k]? = some x ∧ w.cell? ⟨b, off + k, none⟩ = some (.int .i64 x) := by
  obtain ⟨b, off, x, us, e, hb, _, hx, hus, hc⟩ := h.at_lent hn hk
  obtain ⟨rfl, hi⟩ := hus
  refine ⟨b, off, x, e, hb, hx, ?_⟩
  have := hc 0 _ rfl
  simpa [Rep.size] using this
theorem at_mark_int {w : World} {S : Nat → Prop} {A : Option Addr} {n c : Nat} {xs : List Int} (h : Sl w S A (n + 12) c (row xs)) (hn : xs.length = n) {j : Nat} (hj : j < 12) :
    ∃ b off, A = some ⟨b, off, none⟩ ∧ b < w.heap.size ∧ w.cell? ⟨b, off + (n + j), none⟩ = some (.int .i64 (markI 1 j)) := by
  obtain ⟨b, off, us, e, hb, _, hus, hc⟩ := h.at_mark hn hj (marks_int hj)
  obtain ⟨rfl, hi⟩ := hus
  refine ⟨b, off, e, hb, ?_⟩
  have := hc 0 _ rfl
  simpa [Rep.size] using this
theorem keptInts_any (w : World) (S S' : Nat → Prop) (A A' : Option Addr) (n c c' : Nat) (xs : List Int) (h : Sl w S A (n + 12) c (row xs)) (h' : Sl w S' A' n c' xs) (hm : xs.length ≤ 1048576) :
    Calls Tryz.prog 15 #[.slice A n c, .slice A' n c'] w (RetX (.bool true) w) := by
  have hn : n ≤ 1048576 := by rw [← h'.len]; exact hm
  have hc : n + 12 ≤ c := h.2.1
  have hcm : c ≤ 9223372036854775807 := by have := h.2.2.1; unfold maxLen at this; omega
  have HL := hide h'.len
  obtain ⟨b, off, rfl, hb, -⟩ := at_mark_int h h'.len (show 0 < 12 by omega)
  have HS := hide h; have HS' := hide h'
  clear h h' hm
  go_enter Tryz.func15, Tryz.ntmps15
  go_wp2
  go_loopw [6] (fun i wr => ∃ k : Nat, k ≤ n + 12 ∧ i = .int .i64 k ∧ ∃ u, wr = w.ext u) (fun i _ => n + 12 - (intOf i).toNat)
  case atStart => exact ⟨0, Nat.zero_le _, rfl, ext_refl _⟩
  case round =>
    obtain ⟨k, hk, rfl, u, rfl⟩ := hrel
    by_cases hlt : k < n + 12
    · by_cases hkn : k < n
      · obtain ⟨b1, off1, x, e1, -, hx, hcell⟩ := at_lent_int HS.out HL.out hkn
        simp only [Option.some.injEq, Addr.mk.injEq] at e1
        obtain ⟨rfl, rfl, -⟩ := e1
        obtain ⟨b', off', x', rfl, hb', hx', -, hcell'⟩ := at_int HS'.out hkn
        obtain rfl := some_eq hx hx'
        clear hx hx'
        have hd : decide (k < n) = true := by simpa using hkn
        have hd' : decide (n ≤ k) = false := by simp; omega
        go_wp2
        refine wp_region_ext (by kernel_rfl) (by kernel_rfl) ?_
        repeat (any_goals (first | go_big_quiet_step ((fail)) | quiet_step ((fail))))
        refine wpQuiet_nil ?_
        rintro _ ⟨uq, rfl⟩
        go_wp2
        go_roundw
        case rel => exact ⟨k + 1, by omega, by go_num, Below.to_ext (by repeat (first | exact Below.refl _ _ | assumption | refine Below.alloc ?_ (by simp [size_ext]; try omega) _ | refine Below.ext ?_ (by simp [size_ext]; try omega) _ | refine Below.drew ?_ | refine Below.setCell ?_ (by simp [size_ext]; try omega) _))⟩
        case measure => simp [intOf]; omega
      · obtain ⟨j, hj⟩ : ∃ j, k = n + j := ⟨k - n, by omega⟩
        have hj1 : j < 12 := by omega
        obtain ⟨b1, off1, e1, -, hcell⟩ := at_mark_int HS.out HL.out hj1
        simp only [Option.some.injEq, Addr.mk.injEq] at e1
        obtain ⟨rfl, rfl, -⟩ := e1
        rw [← hj] at hcell
        have hs : IntKind.i64.wrap ((k : Int) - n) = (j : Int) := by rw [IntWalk.i64_in _ (by omega)]; omega
        have HJ := hide hj; clear hj
        have hd : decide (k < n) = false := by simp; omega
        have hd' : decide (n ≤ k) = true := by simp; omega
        have h1 : (0 : Int) ≤ (k : Int) := by omega
        have h2 : (k : Int) < (n : Int) + 12 := by omega
        go_wp2
        refine wp_region_ext (by kernel_rfl) (by kernel_rfl) ?_
        repeat (any_goals (first | go_big_quiet_step (((go_at_call 27; exact quiet_ret (mark_any 1 j _ (by omega) (by omega))))) | quiet_step (((go_at_call 27; exact quiet_ret (mark_any 1 j _ (by omega) (by omega)))))))
        refine wpQuiet_nil ?_
        rintro _ ⟨uq, rfl⟩
        go_wp2
        go_roundw
        case rel => exact ⟨k + 1, by omega, by go_num, Below.to_ext (by repeat (first | exact Below.refl _ _ | assumption | refine Below.alloc ?_ (by simp [size_ext]; try omega) _ | refine Below.ext ?_ (by simp [size_ext]; try omega) _ | refine Below.drew ?_ | refine Below.setCell ?_ (by simp [size_ext]; try omega) _))⟩
        case measure => simp [intOf]; omega
    · go_wp2
      go_ret
      exact RetX.b rfl (by repeat (first | exact Below.refl _ _ | assumption | refine Below.alloc ?_ (by simp [size_ext]; try omega) _ | refine Below.ext ?_ (by simp [size_ext]; try omega) _ | refine Below.drew ?_ | refine Below.setCell ?_ (by simp [size_ext]; try omega) _))
end Go.Proofs.YthmglmmafgdmhaaGreat
