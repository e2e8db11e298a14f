/- law01: awake, WordReads: the walks. -/
import Derived.Test.YtmlopggainkoiaaDoorRG2
set_option linter.unusedSimpArgs false
set_option linter.unusedVariables false
namespace Go.Proofs.YtmlopggainkoiaaDoor
open Go.RowKit

theorem Vars.ext {w : World} (h : Vars w) (u : Ext) : Vars (w.ext u) := h.below (Below.of_ext w u (Nat.le_refl _)) h.sz
def AwP1 (w : World) (e : Ending) (w' : World) : Prop := ∃ c l k b off, e = .returned (.tuple #[.slice (some ⟨b, off, none⟩) 3 c, .int .i64 l, .int .i64 k, .int .i64 0]) ∧ 3 ≤ c ∧ b < w'.heap.size ∧ w'.cell? ⟨b, off + 12, none⟩ = some (.int .i64 (-5)) ∧ w'.cell? ⟨b, off + 10, none⟩ = some (.int .i64 2) ∧ ∃ u : Ext, w' = w.ext u
def AwP2 (w : World) (e : Ending) (w' : World) : Prop := ∃ c l k b off, e = .returned (.tuple #[.slice (some ⟨b, off, none⟩) 3 c, .int .i64 l, .int .i64 k, .int .i64 0]) ∧ 3 ≤ c ∧ b < w'.heap.size ∧ w'.cell? ⟨b, off + 9, none⟩ = some (.int .i64 3) ∧ w'.cell? ⟨b, off + 14, none⟩ = some (.int .i64 4) ∧ ∃ u : Ext, w' = w.ext u
theorem aw_read1 (w : World) (hv : Vars w) : Calls Tryd.prog 13 #[.string ⟨#[120, 49, 32, 61, 32, 45, 53, 32, 59, 32, 102, 105, 118, 101]⟩] w (AwP1 w) := by
  refine (read_any _ w (by decide) hv).mono ?_
  rintro e w' ⟨A, n, c, rfl, hS, hu⟩
  obtain ⟨h1, h2, h3⟩ := aw1
  change Sl w' _ A n c R1.words at hS
  have hn : n = 3 := by rw [← hS.len, h2]
  subst hn
  obtain ⟨b, off, x, rfl, hb, hx, _, _, _, _, _, c0, c1, c2, c3, c4⟩ := at_Word hS (show 2 < 3 by decide)
  rw [hx] at h3
  simp only [Option.map_some, Option.some.injEq, Prod.mk.injEq] at h3
  rw [h3.2] at c0; rw [h3.1] at c2
  refine ⟨c, R1.line, R1.col, b, off, ?_, hS.2.1, hb, by simpa using c2, by simpa using c0, hu⟩
  show Ending.returned (.tuple #[.slice (some ⟨b, off, none⟩) 3 c, .int .i64 R1.line, .int .i64 R1.col, .int .i64 R1.err]) = _
  rw [h1]
theorem aw_read2 (w : World) (hv : Vars w) : Calls Tryd.prog 13 #[.string ⟨#[97, 98, 226, 134, 146, 99]⟩] w (AwP2 w) := by
  refine (read_any _ w (by decide) hv).mono ?_
  rintro e w' ⟨A, n, c, rfl, hS, hu⟩
  obtain ⟨h1, h2, h3, h4⟩ := aw2
  change Sl w' _ A n c R2.words at hS
  have hn : n = 3 := by rw [← hS.len, h2]
  subst hn
  obtain ⟨b, off, x, rfl, hb, hx, _, _, _, _, _, c0, c1, c2, c3, c4⟩ := at_Word hS (show 1 < 3 by decide)
  obtain ⟨b', off', x', e', hb', hx', _, _, _, _, _, d0, d1, d2, d3, d4⟩ := at_Word hS (show 2 < 3 by decide)
  injection e' with e'
  injection e' with e1 e2
  subst e1 e2
  rw [hx] at h3; rw [hx'] at h4
  simp only [Option.map_some, Option.some.injEq] at h3 h4
  rw [h3] at c4; rw [h4] at d4
  refine ⟨c, R2.line, R2.col, b, off, ?_, hS.2.1, hb, by simpa using c4, by simpa using d4, hu⟩
  show Ending.returned (.tuple #[.slice (some ⟨b, off, none⟩) 3 c, .int .i64 R2.line, .int .i64 R2.col, .int .i64 R2.err]) = _
  rw [h1]

set_option maxRecDepth 100000 in
set_option maxHeartbeats 4000000 in
theorem awake01_any (w : World) (hv : Vars w) : Calls Tryd.prog 12 #[] w (RetX (.bool true) w) := by
  have HV := hide hv; clear hv
  go_enter Tryd.func12, Tryd.ntmps12
  have HC1 := hide (aw_read1 w HV.out)
  go_wp2_with (go_at_call 13; refine HC1.out.mono ?_; rintro e w1 ⟨x1, x2, x3, b1, o1, rfl, hc1, hb1, y1, y2, hu1⟩; have HU1 := hide hu1; clear hu1; refine Hd.out ?_)
  refine hide ?_
  have HV1 := hide (show Vars w1 by obtain ⟨u1, h⟩ := HU1.out; rw [h]; exact HV.out.ext u1)
  have HC2 := hide (aw_read2 w1 HV1.out)
  clear HC1
  go_wp2_with (go_at_call 13; refine HC2.out.mono ?_; rintro e w2 ⟨z1, z2, z3, b2, o2, rfl, hc2, hb2, z4, z5, hu2⟩; have HU2 := hide hu2; clear hu2; refine Hd.out ?_)
  refine hide ?_
  have y1' : w2.cell? ⟨b1, o1 + 12, none⟩ = some (.int .i64 (-5)) := by obtain ⟨u2, h⟩ := HU2.out; rw [h, cell?_ext _ _ _ hb1]; exact y1
  have y2' : w2.cell? ⟨b1, o1 + 10, none⟩ = some (.int .i64 2) := by obtain ⟨u2, h⟩ := HU2.out; rw [h, cell?_ext _ _ _ hb1]; exact y2
  have hb1' : b1 < w2.heap.size := by obtain ⟨u2, h⟩ := HU2.out; rw [h, size_ext]; omega
  clear y1 y2 hb1 HC2
  go_wp2_with fail
  go_ret
  refine RetX.b rfl ?_
  obtain ⟨u1, h1⟩ := HU1.out
  obtain ⟨u2, h2⟩ := HU2.out
  rw [h2, h1]
  exact ((Below.refl _ _).ext (Nat.le_refl _) u1).ext (by rw [size_ext]; omega) u2

set_option maxRecDepth 100000 in
set_option maxHeartbeats 4000000 in
theorem wordReads_any (s : ByteArray) (w : World) (hs : s.size ≤ 9223372036854775807) (hv : Vars w) : Calls Tryd.prog 4 #[.string s] w (RetX (.bool true) w) := by
  have HV := hide hv; clear hv
  by_cases hbig : 4000 < s.size
  · have HA := hide (awake01_any w HV.out)
    go_enter Tryd.func4, Tryd.ntmps4
    go_wp2_with (go_at_call 12; refine HA.out.mono ?_; rintro e _ ⟨rfl, u1, rfl⟩)
    go_ret
    exact ⟨rfl, u1, rfl⟩
  · have HLX := hide (lex_eq (items s 0))
    obtain ⟨R, hR⟩ : ∃ R, resS (runS (items s 0) st0) = R := ⟨_, rfl⟩
    have HC1 := hide (show Calls Tryd.prog 13 #[.string s] w (RetRd w R) by rw [← hR]; exact read_any s w (by omega) HV.out)
    have HC2 := hide (show ∀ W, Calls Tryd.prog 15 #[.string s] W (RetRd W R) from fun W => by rw [← hR, lex_eq]; exact read1_any s W (by omega))
    clear hR HLX
    have HN1 := hide (fun W => isName_any s W (by omega)); have HN2 := hide (fun W => isName1_any s W (by omega))
    obtain ⟨B, hB⟩ : ∃ B, isNameR 0 (items s 0) = B := ⟨_, rfl⟩
    rw [hB] at HN1 HN2
    clear hB
    obtain ⟨rw_, rl, rc, re⟩ := R
    go_enter Tryd.func4, Tryd.ntmps4
    go_wp2_with (go_at_call 13; refine HC1.out.mono ?_; rintro e _ ⟨A1, n1, c1, rfl, hS1, u1, rfl⟩; have HS1 := hide hS1; clear hS1; dsimp only; refine Hd.out ?_)
    refine hide ?_
    go_wp2_with (go_at_call 15; refine (HC2.out _).mono ?_; rintro e _ ⟨A2, n2, c2, rfl, hS2, u2, rfl⟩; have HS2 := hide hS2; clear hS2; dsimp only; refine Hd.out ?_)
    refine hide ?_
    have HSM := hide (same_eq ((w.ext u1).ext u2) _ _ A1 A2 n1 c1 n2 c2 rw_ (HS1.out.ext u2) HS2.out)
    have HAW := hide (fun W (h : Vars W) => awake01_any W h)
    go_wp2_with (go_at_call 16; refine HSM.out.mono ?_; rintro e _ ⟨rfl, u3, rfl⟩; refine Hd.out ?_)
    refine hide ?_
    go_wp2_with (go_at_call 17; refine (HN1.out _).mono ?_; rintro e _ ⟨rfl, u4, rfl⟩; refine Hd.out ?_)
    refine hide ?_
    cases B
    · go_wp2_with (first | (go_at_call 18; refine (HN2.out _).mono ?_; rintro e w' ⟨rfl, rfl⟩) | (go_at_call 12; refine (HAW.out _ ((((HV.out.ext u1).ext u2).ext u3).ext u4)).mono ?_; rintro e _ ⟨rfl, u5, rfl⟩))
      go_ret
      exact RetX.b rfl (((((Below.refl _ _).ext (Nat.le_refl _) u1).ext (by simp only [size_ext]; omega) u2).ext (by simp only [size_ext]; omega) u3).ext (by simp only [size_ext]; omega) u4 |>.ext (by simp only [size_ext]; omega) u5)
    · go_wp2_with (first | (go_at_call 18; refine (HN2.out _).mono ?_; rintro e w' ⟨rfl, rfl⟩) | (go_at_call 12; refine (HAW.out _ ((((HV.out.ext u1).ext u2).ext u3).ext u4)).mono ?_; rintro e _ ⟨rfl, u5, rfl⟩))
      go_ret
      exact RetX.b rfl (((((Below.refl _ _).ext (Nat.le_refl _) u1).ext (by simp only [size_ext]; omega) u2).ext (by simp only [size_ext]; omega) u3).ext (by simp only [size_ext]; omega) u4 |>.ext (by simp only [size_ext]; omega) u5)
end Go.Proofs.YtmlopggainkoiaaDoor
