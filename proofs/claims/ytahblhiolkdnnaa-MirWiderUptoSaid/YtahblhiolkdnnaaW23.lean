/- Walks: are places a machine's registers, a frame's slots: they are. -/
import Derived.Test.YtahblhiolkdnnaaW22
set_option linter.unusedSimpArgs false
set_option linter.unusedVariables false
namespace Go.Proofs.Ytahblhiolkdnnaa
open Go.RowKit
theorem allB_mem {m : Machine} {frame : Int} {x : Loc} : ∀ {xs : List Loc}, allB m frame xs = true → x ∈ xs → placeB m frame x = true
  | y :: l, h, hx => by
    simp only [allB, Bool.and_eq_true] at h
    rcases List.mem_cons.1 hx with rfl | hx
    · exact h.1
    · exact allB_mem h.2 hx
set_option maxHeartbeats 400000 in
theorem place_true (w : World) (m : Machine) (frame : Int) (A1 A2 : Option Addr) (n1 c1 n2 c2 : Nat) (x : Loc) (h : placeB m frame x = true) :
    Calls Try.prog 53 #[.agg #[.int .i64 m.regs, .slice A1 n1 c1, .int .i64 m.ret, .slice A2 n2 c2], .int .i64 frame, .agg #[.bool x.slot, .int .i64 x.n]] w (RetX (.bool true) w) := by
  obtain ⟨s, n⟩ := x
  simp only [placeB, Bool.and_eq_true, Bool.or_eq_true, decide_eq_true_eq, Bool.not_eq_true'] at h
  obtain ⟨h0, h⟩ := h
  cases s
  · have h1 : n < m.regs := by rcases h with h | h; exact absurd h.1 (by decide); exact h.2
    have d0 : decide (n ≥ 0) = true := by simpa using h0
    have d1 : decide (n < m.regs) = true := by simpa using h1
    clear h
    go_enter Try.func53, Try.ntmps53
    go_wp2
    go_ret
    exact RetX.b (by simp) (by repeat (first | exact Below.refl _ _ | assumption | refine Below.alloc ?_ (by simp [size_ext]; try omega) _ | refine Below.ext ?_ (by simp [size_ext]; try omega) _ | refine Below.drew ?_ | refine Below.setCell ?_ (by simp [size_ext]; try omega) _))
  · have h1 : n < frame := by rcases h with h | h; exact h.2; exact absurd h.1 (by decide)
    have d0 : decide (n ≥ 0) = true := by simpa using h0
    have d1 : decide (n < frame) = true := by simpa using h1
    clear h
    go_enter Try.func53, Try.ntmps53
    go_wp2
    go_ret
    exact RetX.b (by simp) (by repeat (first | exact Below.refl _ _ | assumption | refine Below.alloc ?_ (by simp [size_ext]; try omega) _ | refine Below.ext ?_ (by simp [size_ext]; try omega) _ | refine Below.drew ?_ | refine Below.setCell ?_ (by simp [size_ext]; try omega) _))
set_option maxHeartbeats 400000 in
theorem all_true (w : World) (S : Nat → Prop) (m : Machine) (frame : Int) (A1 A2 : Option Addr) (n1 c1 n2 c2 : Nat) (xs : List Loc) (A : Option Addr) (n c : Nat) (h : Sl w S A n c xs) (ha : allB m frame xs = true) :
    Calls Try.prog 31 #[.agg #[.int .i64 m.regs, .slice A1 n1 c1, .int .i64 m.ret, .slice A2 n2 c2], .int .i64 frame, .slice A n c] w (RetX (.bool true) w) := by
  have hn := h.nle
  have HL := hide h.len
  have HA := hide ha; clear ha
  have HS0 := hide h; clear h
  go_enter Try.func31, Try.ntmps31
  go_upto_region 1 with (fail)
  obtain ⟨W, hW⟩ : ∃ W, W = w.alloc (.cells #[.int .i64 m.regs, .slice A1 n1 c1, .int .i64 m.ret, .slice A2 n2 c2] 24) := ⟨_, rfl⟩
  have FB := hide (show Below w.heap.size w W by subst hW; exact (by repeat (first | exact Below.refl _ _ | assumption | refine Below.alloc ?_ (by simp [size_ext]; try omega) _ | refine Below.ext ?_ (by simp [size_ext]; try omega) _ | refine Below.drew ?_ | refine Below.setCell ?_ (by simp [size_ext]; try omega) _)))
  have HS := hide (show Sl W S A n c xs by subst hW; exact HS0.out.alloc _)
  have fle : w.heap.size ≤ W.heap.size := by subst hW; simp
  have fz0 : w.heap.size < W.heap.size := by subst hW; simp
  have m0 : W.cell? ⟨w.heap.size, 0, none⟩ = some (.int .i64 m.regs) := by subst hW; go_simp
  have m1 : W.cell? ⟨w.heap.size, 1, none⟩ = some (.slice A1 n1 c1) := by subst hW; go_simp
  have m2 : W.cell? ⟨w.heap.size, 2, none⟩ = some (.int .i64 m.ret) := by subst hW; go_simp
  have m3 : W.cell? ⟨w.heap.size, 3, none⟩ = some (.slice A2 n2 c2) := by subst hW; go_simp
  rw [← hW]
  clear hW HS0
  go_wp2
  go_loopw [7] (fun i wr => ∃ k : Nat, k ≤ n ∧ i = .int .i64 k ∧ ∃ u : Ext, wr = W.ext u) (fun i _ => n - (intOf i).toNat)
  case atStart => exact ⟨0, Nat.zero_le _, rfl, ext_refl W⟩
  case round =>
    obtain ⟨k, hk, rfl, u, rfl⟩ := hrel
    by_cases hlt : k < n
    · obtain ⟨b, off, x, rfl, hb, hx, hi, p0, p1⟩ := at_Loc HS.out hlt
      have hp := hide (allB_mem HA.out (List.mem_of_getElem? hx))
      clear hx hi
      go_wp2
      refine wp_region_ext (by kernel_rfl) (by kernel_rfl) ?_
      repeat (any_goals (first | go_big_quiet_step (((go_at_call 53; with_reducible exact quiet_retx (place_true _ m frame A1 A2 n1 c1 n2 c2 x hp.out)))) | quiet_step (((go_at_call 53; with_reducible exact quiet_retx (place_true _ m frame A1 A2 n1 c1 n2 c2 x hp.out))))))
      refine wpQuiet_nil ?_
      rintro _ ⟨uq, rfl⟩
      go_wp2
      go_roundw
      case rel => exact ⟨k + 1, by omega, by go_num, ext_ext _ _ _⟩
      case measure => simp [intOf]; omega
    · go_wp2
      go_ret
      exact RetX.b rfl (by repeat (first | exact Below.refl _ _ | assumption | exact Hd.out (by assumption) | refine Below.alloc ?_ (by first | omega | (simp [size_ext]; try omega)) _ | refine Below.ext ?_ (by first | omega | (simp [size_ext]; try omega)) _ | refine Below.drew ?_ | refine Below.setCell ?_ (by first | omega | (simp [size_ext]; try omega)) _))
end Go.Proofs.Ytahblhiolkdnnaa
