/- Walk: intarsiaref06.term. -/
import Derived.Test.YtahblhiolkdnnaaW14
import Derived.Test.YtahblhiolkdnnaaEq2
set_option linter.unusedSimpArgs false
set_option linter.unusedVariables false
namespace Go.Proofs.Ytahblhiolkdnnaa
open Go.RowKit
theorem inB_to {b n : Int} : inB n 0 (b - 1) = !toBad b n := by
  unfold inB toBad
  by_cases h : n < 0
  · have : ¬ 0 ≤ n := by omega
    simp [h, this]
  · have h' : 0 ≤ n := by omega
    by_cases h2 : n ≤ b - 1
    · have : ¬ b ≤ n := by omega
      simp [h', h2, h, this]
    · have : b ≤ n := by omega
      simp [h2, this]
theorem inB_reg {m : Machine} {n : Int} : inB n 0 (m.regs - 1) = !regBad m n := inB_to
theorem into_any (n b : Int) (w : World) : Calls Try.prog 42 #[.int .i64 n, .int .i64 0, .int .i64 (b - 1)] w (Ret (.bool (!toBad b n)) w) := inB_to ▸ within_any n 0 (b - 1) w
theorem inreg_any (n : Int) (m : Machine) (w : World) : Calls Try.prog 42 #[.int .i64 n, .int .i64 0, .int .i64 (m.regs - 1)] w (Ret (.bool (!regBad m n)) w) := inB_reg ▸ within_any n 0 (m.regs - 1) w
section
variable {m : Machine} {blocks a to0 to1 : Int}
theorem L1a (h : (to1 != 0) = true) : 2 = termP m blocks ⟨1, a, to0, to1⟩ := by simp at h; simp [termP, h]
theorem L1b (ha : a = 0) (h : (to1 != 0) = false) (e : (!inB to0 0 (blocks - 1)) = true) : 9 = termP m blocks ⟨1, a, to0, to1⟩ := by simp [inB_to] at h e; simp [termP, h, ha, e]
theorem L1c (ha : a = 0) (h : (to1 != 0) = false) (e : (!inB to0 0 (blocks - 1)) = false) : 0 = termP m blocks ⟨1, a, to0, to1⟩ := by simp [inB_to] at h e; simp [termP, h, ha, e]
theorem L1d (h : ¬a = 0) : 2 = termP m blocks ⟨1, a, to0, to1⟩ := by simp [termP, h]
theorem L2a (e : (!inB a 0 (m.regs - 1)) = true) : 10 = termP m blocks ⟨2, a, to0, to1⟩ := by simp [inB_reg] at e; simp [termP, e]
theorem L2b (e : (!inB a 0 (m.regs - 1)) = false) (h : (!inB to1 0 (blocks - 1)) = true) : 9 = termP m blocks ⟨2, a, to0, to1⟩ := by simp [inB_reg] at e; simp [inB_to] at h; simp [termP, e, h]
theorem L2c (e : (!inB a 0 (m.regs - 1)) = false) (h : (!inB to0 0 (blocks - 1)) = true) : 9 = termP m blocks ⟨2, a, to0, to1⟩ := by simp [inB_reg] at e; simp [inB_to] at h; simp [termP, e, h]
theorem L2d (e : (!inB a 0 (m.regs - 1)) = false) (h : (!inB to1 0 (blocks - 1)) = false) (h' : (!inB to0 0 (blocks - 1)) = false) : 0 = termP m blocks ⟨2, a, to0, to1⟩ := by simp [inB_reg] at e; simp [inB_to] at h h'; simp [termP, e, h, h']
theorem L3a (h : (!to0 == 0) = true ∨ (!to1 == 0) = true) : 2 = termP m blocks ⟨3, a, to0, to1⟩ := by simp at h; rcases h with h | h <;> simp [termP, h]
theorem LX {P : Prop} (hb : 1 ≤ blocks ∧ blocks ≤ 200) (h : (!to0 == 0) = false ∧ (!to1 == 0) = false) (e : (!inB to0 0 (blocks - 1)) = true) : P := by
  simp at h
  obtain ⟨rfl, _⟩ := h
  simp [inB] at e; omega
theorem L3c (h : (!to0 == 0) = false ∧ (!to1 == 0) = false) (ha : a = -1) : 0 = termP m blocks ⟨3, a, to0, to1⟩ := by simp at h; simp [termP, h, ha]
theorem L3d (h : (!to0 == 0) = false ∧ (!to1 == 0) = false) (ha : ¬a = -1) (e : (a != -1) = true ∧ (a != m.ret) = true) : 10 = termP m blocks ⟨3, a, to0, to1⟩ := by simp at h e; simp [termP, h, ha, e]
theorem L3e (h : (!to0 == 0) = false ∧ (!to1 == 0) = false) (ha : ¬a = -1) (e : (a != -1) = false ∨ (a != m.ret) = false) : 0 = termP m blocks ⟨3, a, to0, to1⟩ := by
  simp [ha] at h e; simp [termP, h, e]
theorem L4a (h : (!to0 == 0) = true ∨ (!to1 == 0) = true) : 2 = termP m blocks ⟨4, a, to0, to1⟩ := by simp at h; rcases h with h | h <;> simp [termP, h]
theorem L4c (ha : a = 0) (h : (!to0 == 0) = false ∧ (!to1 == 0) = false) : 0 = termP m blocks ⟨4, a, to0, to1⟩ := by simp at h; simp [termP, h, ha]
theorem L4d (ha : ¬a = 0) : 2 = termP m blocks ⟨4, a, to0, to1⟩ := by simp [termP, ha]
end
set_option maxHeartbeats 2000000 in
set_option maxRecDepth 8000 in
theorem term6_any (w : World) (m : Machine) (blocks : Int) (va vs : Value) (t : Term) (hregs : 1 ≤ m.regs ∧ m.regs ≤ 64) (hbl : 1 ≤ blocks ∧ blocks ≤ 200) :
    Calls Try.prog 44 #[.agg #[.int .i64 m.regs, va, .int .i64 m.ret, vs], .int .i64 blocks, .agg #[.int .i64 t.kind, .int .i64 t.a, .int .i64 t.to0, .int .i64 t.to1]] w (RetX (.int .i64 (termP m blocks t)) w) := by
  obtain ⟨kind, a, to0, to1⟩ := t
  have hw1 : IntKind.i64.wrap (m.regs - 1) = m.regs - 1 := IntWalk.i64_in _ (by omega)
  have hw2 : IntKind.i64.wrap (blocks - 1) = blocks - 1 := IntWalk.i64_in _ (by omega)
  have hz : toBad blocks 0 = false := by unfold toBad; simp; omega
  have HZ := hide hz
  clear hz
  by_cases k1 : kind = 1
  · subst k1
    go_enter Try.func44, Try.ntmps44
    go_wp2_with (go_at_call 42; refine (inb_any _ _ _ _).mono ?_; rintro e w' ⟨rfl, rfl⟩)
    all_goals (go_ret; exact RetX.i (by first | exact L1b (by assumption) (by assumption) (by assumption) | exact L1c (by assumption) (by assumption) (by assumption) | exact L1a (by assumption) | exact L1d (by assumption)) (by repeat (first | exact Below.refl _ _ | assumption | exact Hd.out (by assumption) | refine Below.alloc ?_ (by first | omega | (simp [size_ext]; try omega)) _ | refine Below.ext ?_ (by first | omega | (simp [size_ext]; try omega)) _ | refine Below.drew ?_ | refine Below.setCell ?_ (by first | omega | (simp [size_ext]; try omega)) _)))
  by_cases k2 : kind = 2
  · subst k2
    go_enter Try.func44, Try.ntmps44
    go_wp2_with (go_at_call 42; refine (inb_any _ _ _ _).mono ?_; rintro e w' ⟨rfl, rfl⟩)
    all_goals (go_ret; exact RetX.i (by first | exact L2a (by assumption) | exact L2d (by assumption) (by assumption) (by assumption) | exact L2b (by assumption) (by assumption) | exact L2c (by assumption) (by assumption)) (by repeat (first | exact Below.refl _ _ | assumption | exact Hd.out (by assumption) | refine Below.alloc ?_ (by first | omega | (simp [size_ext]; try omega)) _ | refine Below.ext ?_ (by first | omega | (simp [size_ext]; try omega)) _ | refine Below.drew ?_ | refine Below.setCell ?_ (by first | omega | (simp [size_ext]; try omega)) _)))
  by_cases k3 : kind = 3
  · subst k3
    go_enter Try.func44, Try.ntmps44
    go_wp2_with (go_at_call 42; refine (inb_any _ _ _ _).mono ?_; rintro e w' ⟨rfl, rfl⟩)
    all_goals (go_ret; exact RetX.i (by first | exact L3a (by assumption) | exact LX (by assumption) (by assumption) (by assumption) | exact L3d (by assumption) (by assumption) (by assumption) | exact L3e (by assumption) (by assumption) (by assumption) | exact L3c (by assumption) (by assumption)) (by repeat (first | exact Below.refl _ _ | assumption | exact Hd.out (by assumption) | refine Below.alloc ?_ (by first | omega | (simp [size_ext]; try omega)) _ | refine Below.ext ?_ (by first | omega | (simp [size_ext]; try omega)) _ | refine Below.drew ?_ | refine Below.setCell ?_ (by first | omega | (simp [size_ext]; try omega)) _)))
  by_cases k4 : kind = 4
  · subst k4
    go_enter Try.func44, Try.ntmps44
    go_wp2_with (go_at_call 42; refine (inb_any _ _ _ _).mono ?_; rintro e w' ⟨rfl, rfl⟩)
    all_goals (go_ret; exact RetX.i (by first | exact LX (by assumption) (by assumption) (by assumption) | exact L4a (by assumption) | exact L4c (by assumption) (by assumption) | exact L4d (by assumption)) (by repeat (first | exact Below.refl _ _ | assumption | exact Hd.out (by assumption) | refine Below.alloc ?_ (by first | omega | (simp [size_ext]; try omega)) _ | refine Below.ext ?_ (by first | omega | (simp [size_ext]; try omega)) _ | refine Below.drew ?_ | refine Below.setCell ?_ (by first | omega | (simp [size_ext]; try omega)) _)))
  go_enter Try.func44, Try.ntmps44
  go_wp2_with fail
  go_ret
  exact RetX.i (by simp [termP, k1, k2, k3, k4]) (by repeat (first | exact Below.refl _ _ | assumption | exact Hd.out (by assumption) | refine Below.alloc ?_ (by first | omega | (simp [size_ext]; try omega)) _ | refine Below.ext ?_ (by first | omega | (simp [size_ext]; try omega)) _ | refine Below.drew ?_ | refine Below.setCell ?_ (by first | omega | (simp [size_ext]; try omega)) _))
end Go.Proofs.Ytahblhiolkdnnaa
