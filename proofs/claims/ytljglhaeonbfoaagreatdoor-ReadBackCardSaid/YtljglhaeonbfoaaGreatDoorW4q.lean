/- law04: walks: is an instruction right? -/
import Derived.Test.YtljglhaeonbfoaaGreatDoorG28
set_option linter.unusedSimpArgs false
set_option linter.unusedVariables false
namespace Go.Proofs.YtljglhaeonbfoaaGreatDoor
open Go.RowKit
theorem shIs_eq (o : Int) : shIs o = (decide (1 ≤ o) && decide (o ≤ 14)) := by
 unfold shIs
 rw [Bool.eq_iff_iff]
 simp
 omega
theorem shL_eq {o : Int} (h : shIs o = true) (h13 : o ≠ 13) : shL o = (hasD04 o, hasA04 o, hasB04 o, hasI04 o, false) := by
 rw [shIs_eq] at h
 simp only [Bool.and_eq_true, decide_eq_true_eq] at h
 obtain ⟨h1, h2⟩ := h
 rcases (by omega : o = 1 ∨ o = 2 ∨ o = 3 ∨ o = 4 ∨ o = 5 ∨ o = 6 ∨ o = 7 ∨ o = 8 ∨ o = 9 ∨ o = 10 ∨ o = 11 ∨ o = 12 ∨ o = 14) with rfl | rfl | rfl | rfl | rfl | rfl | rfl | rfl | rfl | rfl | rfl | rfl | rfl <;> decide
theorem none3g_ir (W : World) (g : Nat) (hg : g = W.heap.size) (x y z : Int) (hx : InI x) (hy : InI y) (hz : InI z) {r : Bool} (hr : (x == 0 && (y == 0 && z == 0)) = r) : Calls Tryz.prog 118 #[.slice (some ⟨g, 0, none⟩) 3 3] (W.alloc (.cells #[.int .i64 x, .int .i64 y, .int .i64 z] 3)) (RetX (.bool r) (W.alloc (.cells #[.int .i64 x, .int .i64 y, .int .i64 z] 3))) := by
 subst hg hr
 exact none3_ir W x y z hx hy hz
theorem u64_le99 {c : Int} (h : InI c) : decide (IntKind.u64.wrap c ≤ 99) = (decide (0 ≤ c) && decide (c ≤ 99)) := by
 unfold InI at h
 rw [Bool.eq_iff_iff]
 simp only [Bool.and_eq_true, decide_eq_true_eq]
 have e : IntKind.u64.wrap c = c % 18446744073709551616 := by rfl
 rw [e]
 omega
abbrev insV (i : Ins) (A : Option Addr) (n c : Nat) : Value := .agg #[.int .i64 i.op, .int .i64 i.dst, .int .i64 i.a, .int .i64 i.b, .int .i64 i.imm, .int .i64 i.callee, .slice A n c, .int .i64 i.many]
set_option maxRecDepth 100000 in
set_option maxHeartbeats 16000000 in
theorem isIns_ir (x : Ins) (w : World) (S : Nat → Prop) (A : Option Addr) (n c : Nat) (h : Sl w S A n c x.args) (hok : OkI4 x) : Calls Tryz.prog 65 #[insV x A n c] w (RetX (.bool (insB x)) w) := by
 obtain ⟨o, dst, a, b, imm, callee, args, many⟩ := x
 obtain ⟨ho, hd, ha, hb, hi, hc, hm⟩ := hok
 simp only at h ho hd ha hb hi hc hm
 obtain ⟨C, hC⟩ : ∃ C, w.heap.size = C := ⟨_, rfl⟩
 obtain ⟨W0, hW0⟩ : ∃ W, w.alloc (.cells #[.int .i64 o, .int .i64 dst, .int .i64 a, .int .i64 b, .int .i64 imm, .int .i64 callee, .slice A n c, .int .i64 many] 45) = W := ⟨_, rfl⟩
 have hrow : W0.heap[C]? = some (.cells #[.int .i64 o, .int .i64 dst, .int .i64 a, .int .i64 b, .int .i64 imm, .int .i64 callee, .slice A n c, .int .i64 many] 45 (0, 0)) := by rw [← hW0, ← hC]; exact heap_alloc_new w _
 have c0 : W0.cell? ⟨C, 0, none⟩ = some (.int .i64 o) := cell_of_row W0 C _ _ _ (0, 0) hrow
 have c1 : W0.cell? ⟨C, 1, none⟩ = some (.int .i64 dst) := cell_of_row W0 C _ _ _ (0, 0) hrow
 have c2 : W0.cell? ⟨C, 2, none⟩ = some (.int .i64 a) := cell_of_row W0 C _ _ _ (0, 0) hrow
 have c3 : W0.cell? ⟨C, 3, none⟩ = some (.int .i64 b) := cell_of_row W0 C _ _ _ (0, 0) hrow
 have c4 : W0.cell? ⟨C, 4, none⟩ = some (.int .i64 imm) := cell_of_row W0 C _ _ _ (0, 0) hrow
 have c5 : W0.cell? ⟨C, 5, none⟩ = some (.int .i64 callee) := cell_of_row W0 C _ _ _ (0, 0) hrow
 have c6 : W0.cell? ⟨C, 6, none⟩ = some (.slice A n c) := cell_of_row W0 C _ _ _ (0, 0) hrow
 have c7 : W0.cell? ⟨C, 7, none⟩ = some (.int .i64 many) := cell_of_row W0 C _ _ _ (0, 0) hrow
 have cl : C < W0.heap.size := (Array.getElem?_eq_some_iff.1 hrow).1
 have HB0 := hide (show Below w.heap.size w W0 from by rw [← hW0]; exact (Below.refl _ _).alloc (Nat.le_refl _) _)
 have HBL := hide (show w.heap.size ≤ W0.heap.size from HB0.out.size)
 have HSL := hide (show Sl W0 S A n c args from by rw [← hW0]; exact h.alloc _)
 have hl := h.len
 clear hrow h
 cases his : shIs o with
 | false =>
  have HE := hide (show insB ⟨o, dst, a, b, imm, callee, args, many⟩ = false from by unfold insB; rw [← shIs_eq o, his]; rfl)
  have HSH := hide (shaped_ir o W0)
  rw [his] at HSH
  generalize shL o = sh at HSH
  obtain ⟨s1, s2, s3, s4, s5⟩ := sh
  simp only [shV] at HSH
  go_enter Tryz.func65, Tryz.ntmps65
  go_wp2_with (first | (go_at_call 116; (with_reducible refine HSH.out.mono ?_); rintro e _ ⟨rfl, u, rfl⟩))
  go_ret
  exact RetX.b HE.out.symm (by repeat (first | exact HB0.out | refine Below.alloc ?_ (by have := HBL.out; simp [size_ext]; omega) _ | refine Below.ext ?_ (by have := HBL.out; simp [size_ext]; omega) _))
 | true =>
  by_cases hm0 : many = 0
  ·have bm : (many != 0) = false := by simp [hm0]
   have HM0 := hide hm0
   clear hm0
   by_cases h13 : o = 13
   ·subst h13
    have HSH := hide (show Calls Tryz.prog 116 #[.int .i64 13] W0 (RetX (.tuple #[.agg #[.bool false, .bool false, .bool false, .bool false, .bool true], .bool true]) W0) from shaped_ir 13 W0)
    have HF := hide (fun (W : World) => fits_ir (dst != 0) dst W)
    have HCO := hide (fun (W : World) (h : Sl W S A n c args) => containsInts4_any W S A n c args (fun v => !vOk v) 117 #[] h (fun _ _ => by kernel_rfl) (fun x u2 _ => odd_ir x _))
    obtain ⟨q1, hq1⟩ : ∃ q, (dst != 0) = q := ⟨_, rfl⟩
    rw [hq1] at HF
    obtain ⟨r1, hr1⟩ : ∃ r, (a == 0 && (b == 0 && imm == 0)) = r := ⟨_, rfl⟩
    have HN := hide (fun (W : World) (g : Nat) (hg : g = W.heap.size) => none3g_ir W g hg a b imm ha hb hi hr1)
    obtain ⟨r3, hr3⟩ : ∃ r, fits04 q1 dst = r := ⟨_, rfl⟩
    rw [hr3] at HF
    obtain ⟨r5, hr5⟩ : ∃ r, anyF (fun v => !vOk v) args = r := ⟨_, rfl⟩
    rw [hr5] at HCO
    obtain ⟨b99, h99⟩ : ∃ q, decide (IntKind.u64.wrap callee ≤ 99) = q := ⟨_, rfl⟩
    obtain ⟨l8, hl8⟩ : ∃ q, decide ((n : Int) ≤ 8) = q := ⟨_, rfl⟩
    have HE := hide (show insB ⟨13, dst, a, b, imm, callee, args, many⟩ = ((r1 && b99) && r3 && l8 && !r5) from by
     unfold insB
     simp only [if_pos]
     rw [← hr1, ← h99, ← hl8, ← hr3, ← hr5, ← hq1, HM0.out, anyF_any4, any_not4, u64_le99 hc, Bool.and_assoc (a == 0), show decide (args.length ≤ 8) = decide ((n : Int) ≤ 8) from by rw [hl, Bool.eq_iff_iff]; simp; try omega]
     rfl)
    have HNX := hide hr1; clear hr1 hr3 hr5 hl
    cases r1 with
    | false =>
     go_enter Tryz.func65, Tryz.ntmps65
     go_wp2_with (first | (go_at_call 116; (with_reducible refine HSH.out.mono ?_); rintro e _ ⟨rfl, u, rfl⟩) | (go_at_call 118; (with_reducible refine (HN.out _ _ (by simp [size_ext]; try omega)).mono ?_); rintro e _ ⟨rfl, u2, rfl⟩) | (go_at_call 119; (with_reducible refine (HF.out _).mono ?_); rintro e _ ⟨rfl, rfl⟩) | (go_at_call 120; (with_reducible refine (HCO.out _ (by repeat (first | assumption | exact Hd.out (by assumption) | apply Sl.alloc | apply Sl.ext | apply Sl.drew | apply Sl.drewN))).mono ?_); rintro e _ ⟨rfl, u3, rfl⟩))
     go_ret
     exact RetX.b (by rw [HE.out]; rfl) (by repeat (first | exact HB0.out | refine Below.alloc ?_ (by have := HBL.out; simp [size_ext]; try omega) _ | refine Below.ext ?_ (by have := HBL.out; simp [size_ext]; try omega) _))
    | true =>
     cases b99 with
     | false =>
      go_enter Tryz.func65, Tryz.ntmps65
      go_wp2_with (first | (go_at_call 116; (with_reducible refine HSH.out.mono ?_); rintro e _ ⟨rfl, u, rfl⟩) | (go_at_call 118; (with_reducible refine (HN.out _ _ (by simp [size_ext]; try omega)).mono ?_); rintro e _ ⟨rfl, u2, rfl⟩) | (go_at_call 119; (with_reducible refine (HF.out _).mono ?_); rintro e _ ⟨rfl, rfl⟩) | (go_at_call 120; (with_reducible refine (HCO.out _ (by repeat (first | assumption | exact Hd.out (by assumption) | apply Sl.alloc | apply Sl.ext | apply Sl.drew | apply Sl.drewN))).mono ?_); rintro e _ ⟨rfl, u3, rfl⟩))
      go_ret
      exact RetX.b (by rw [HE.out]; rfl) (by repeat (first | exact HB0.out | refine Below.alloc ?_ (by have := HBL.out; simp [size_ext]; try omega) _ | refine Below.ext ?_ (by have := HBL.out; simp [size_ext]; try omega) _))
     | true =>
      cases r3 with
      | false =>
       go_enter Tryz.func65, Tryz.ntmps65
       go_wp2_with (first | (go_at_call 116; (with_reducible refine HSH.out.mono ?_); rintro e _ ⟨rfl, u, rfl⟩) | (go_at_call 118; (with_reducible refine (HN.out _ _ (by simp [size_ext]; try omega)).mono ?_); rintro e _ ⟨rfl, u2, rfl⟩) | (go_at_call 119; (with_reducible refine (HF.out _).mono ?_); rintro e _ ⟨rfl, rfl⟩) | (go_at_call 120; (with_reducible refine (HCO.out _ (by repeat (first | assumption | exact Hd.out (by assumption) | apply Sl.alloc | apply Sl.ext | apply Sl.drew | apply Sl.drewN))).mono ?_); rintro e _ ⟨rfl, u3, rfl⟩))
       go_ret
       exact RetX.b (by rw [HE.out]; rfl) (by repeat (first | exact HB0.out | refine Below.alloc ?_ (by have := HBL.out; simp [size_ext]; try omega) _ | refine Below.ext ?_ (by have := HBL.out; simp [size_ext]; try omega) _))
      | true =>
       cases l8 with
       | false =>
        go_enter Tryz.func65, Tryz.ntmps65
        go_wp2_with (first | (go_at_call 116; (with_reducible refine HSH.out.mono ?_); rintro e _ ⟨rfl, u, rfl⟩) | (go_at_call 118; (with_reducible refine (HN.out _ _ (by simp [size_ext]; try omega)).mono ?_); rintro e _ ⟨rfl, u2, rfl⟩) | (go_at_call 119; (with_reducible refine (HF.out _).mono ?_); rintro e _ ⟨rfl, rfl⟩) | (go_at_call 120; (with_reducible refine (HCO.out _ (by repeat (first | assumption | exact Hd.out (by assumption) | apply Sl.alloc | apply Sl.ext | apply Sl.drew | apply Sl.drewN))).mono ?_); rintro e _ ⟨rfl, u3, rfl⟩))
        go_ret
        exact RetX.b (by rw [HE.out]; rfl) (by repeat (first | exact HB0.out | refine Below.alloc ?_ (by have := HBL.out; simp [size_ext]; try omega) _ | refine Below.ext ?_ (by have := HBL.out; simp [size_ext]; try omega) _))
       | true =>
        go_enter Tryz.func65, Tryz.ntmps65
        go_wp2_with (first | (go_at_call 116; (with_reducible refine HSH.out.mono ?_); rintro e _ ⟨rfl, u, rfl⟩) | (go_at_call 118; (with_reducible refine (HN.out _ _ (by simp [size_ext]; try omega)).mono ?_); rintro e _ ⟨rfl, u2, rfl⟩) | (go_at_call 119; (with_reducible refine (HF.out _).mono ?_); rintro e _ ⟨rfl, rfl⟩) | (go_at_call 120; (with_reducible refine (HCO.out _ (by repeat (first | assumption | exact Hd.out (by assumption) | apply Sl.alloc | apply Sl.ext | apply Sl.drew | apply Sl.drewN))).mono ?_); rintro e _ ⟨rfl, u3, rfl⟩))
        go_ret
        exact RetX.b (by rw [HE.out]; rfl) (by repeat (first | exact HB0.out | refine Below.alloc ?_ (by have := HBL.out; simp [size_ext]; try omega) _ | refine Below.ext ?_ (by have := HBL.out; simp [size_ext]; try omega) _))
   ·obtain ⟨d1, hd1⟩ : ∃ q, hasD04 o = q := ⟨_, rfl⟩
    obtain ⟨a1, ha1⟩ : ∃ q, hasA04 o = q := ⟨_, rfl⟩
    obtain ⟨b1, hb1⟩ : ∃ q, hasB04 o = q := ⟨_, rfl⟩
    obtain ⟨m1, hm1⟩ : ∃ q, hasI04 o = q := ⟨_, rfl⟩
    have HSH := hide (show Calls Tryz.prog 116 #[.int .i64 o] W0 (RetX (.tuple #[.agg #[.bool d1, .bool a1, .bool b1, .bool m1, .bool false], .bool true]) W0) from by have h := shaped_ir o W0; rw [his, shL_eq his h13, hd1, ha1, hb1, hm1] at h; exact h)
    have HF1 := hide (fun (W : World) => fits_ir d1 dst W)
    have HF2 := hide (fun (W : World) => fits_ir a1 a W)
    have HF3 := hide (fun (W : World) => fits_ir b1 b W)
    obtain ⟨r1, hr1⟩ : ∃ r, fits04 d1 dst = r := ⟨_, rfl⟩
    obtain ⟨r2, hr2⟩ : ∃ r, fits04 a1 a = r := ⟨_, rfl⟩
    obtain ⟨r3, hr3⟩ : ∃ r, fits04 b1 b = r := ⟨_, rfl⟩
    rw [hr1] at HF1; rw [hr2] at HF2; rw [hr3] at HF3
    obtain ⟨i0, hi0⟩ : ∃ q, (imm != 0) = q := ⟨_, rfl⟩
    obtain ⟨lo, hlo⟩ : ∃ q, decide (imm < -1099511627776) = q := ⟨_, rfl⟩
    obtain ⟨hi9, hhi⟩ : ∃ q, decide (1099511627776 < imm) = q := ⟨_, rfl⟩
    obtain ⟨z1, hz1⟩ : ∃ q, (callee == 0) = q := ⟨_, rfl⟩
    obtain ⟨z2, hz2⟩ : ∃ q, ((n : Int) == 0) = q := ⟨_, rfl⟩
    have HE := hide (show insB ⟨o, dst, a, b, imm, callee, args, many⟩ = ((m1 || !i0) && !lo && !hi9 && z1 && z2 && r1 && r2 && r3) from by
     unfold insB
     rw [if_neg h13, ← shIs_eq o, his, HM0.out]
     simp only
     rw [hd1, ha1, hb1, hm1, hr1, hr2, hr3, hz1, show (imm == 0) = !i0 from by rw [← hi0]; simp [bne], show immOk imm = (!lo && !hi9) from by rw [← hlo, ← hhi]; unfold immOk; rw [Bool.eq_iff_iff]; simp, show decide (args = []) = z2 from by rw [← hz2, Bool.eq_iff_iff]; simp; rw [← List.length_eq_zero_iff]; omega]
     cases m1 <;> cases i0 <;> cases lo <;> cases hi9 <;> cases z1 <;> cases z2 <;> cases r1 <;> cases r2 <;> rfl)
    have h13b : (o == 13) = false := by simpa using h13
    clear hr1 hr2 hr3 hd1 ha1 hb1 hm1 his h13 hl
    cases m1 with
    | false =>
     cases i0 with
     | true =>
      go_enter Tryz.func65, Tryz.ntmps65
      go_wp2_with (first | (go_at_call 116; (with_reducible refine HSH.out.mono ?_); rintro e _ ⟨rfl, u, rfl⟩) | (go_at_call 119; (with_reducible refine (HF1.out _).mono ?_); rintro e _ ⟨rfl, rfl⟩) | (go_at_call 119; (with_reducible refine (HF2.out _).mono ?_); rintro e _ ⟨rfl, rfl⟩) | (go_at_call 119; (with_reducible refine (HF3.out _).mono ?_); rintro e _ ⟨rfl, rfl⟩))
      go_ret
      exact RetX.b (by rw [HE.out]; first | rfl | simp) (by repeat (first | exact HB0.out | refine Below.alloc ?_ (by have := HBL.out; simp [size_ext]; try omega) _ | refine Below.ext ?_ (by have := HBL.out; simp [size_ext]; try omega) _))
     | false =>
      cases lo with
      | true =>
       go_enter Tryz.func65, Tryz.ntmps65
       go_wp2_with (first | (go_at_call 116; (with_reducible refine HSH.out.mono ?_); rintro e _ ⟨rfl, u, rfl⟩) | (go_at_call 119; (with_reducible refine (HF1.out _).mono ?_); rintro e _ ⟨rfl, rfl⟩) | (go_at_call 119; (with_reducible refine (HF2.out _).mono ?_); rintro e _ ⟨rfl, rfl⟩) | (go_at_call 119; (with_reducible refine (HF3.out _).mono ?_); rintro e _ ⟨rfl, rfl⟩))
       go_ret
       exact RetX.b (by rw [HE.out]; first | rfl | simp) (by repeat (first | exact HB0.out | refine Below.alloc ?_ (by have := HBL.out; simp [size_ext]; try omega) _ | refine Below.ext ?_ (by have := HBL.out; simp [size_ext]; try omega) _))
      | false =>
       cases hi9 with
       | true =>
        go_enter Tryz.func65, Tryz.ntmps65
        go_wp2_with (first | (go_at_call 116; (with_reducible refine HSH.out.mono ?_); rintro e _ ⟨rfl, u, rfl⟩) | (go_at_call 119; (with_reducible refine (HF1.out _).mono ?_); rintro e _ ⟨rfl, rfl⟩) | (go_at_call 119; (with_reducible refine (HF2.out _).mono ?_); rintro e _ ⟨rfl, rfl⟩) | (go_at_call 119; (with_reducible refine (HF3.out _).mono ?_); rintro e _ ⟨rfl, rfl⟩))
        go_ret
        exact RetX.b (by rw [HE.out]; first | rfl | simp) (by repeat (first | exact HB0.out | refine Below.alloc ?_ (by have := HBL.out; simp [size_ext]; try omega) _ | refine Below.ext ?_ (by have := HBL.out; simp [size_ext]; try omega) _))
       | false =>
        cases z1 with
        | false =>
         go_enter Tryz.func65, Tryz.ntmps65
         go_wp2_with (first | (go_at_call 116; (with_reducible refine HSH.out.mono ?_); rintro e _ ⟨rfl, u, rfl⟩) | (go_at_call 119; (with_reducible refine (HF1.out _).mono ?_); rintro e _ ⟨rfl, rfl⟩) | (go_at_call 119; (with_reducible refine (HF2.out _).mono ?_); rintro e _ ⟨rfl, rfl⟩) | (go_at_call 119; (with_reducible refine (HF3.out _).mono ?_); rintro e _ ⟨rfl, rfl⟩))
         go_ret
         exact RetX.b (by rw [HE.out]; first | rfl | simp) (by repeat (first | exact HB0.out | refine Below.alloc ?_ (by have := HBL.out; simp [size_ext]; try omega) _ | refine Below.ext ?_ (by have := HBL.out; simp [size_ext]; try omega) _))
        | true =>
         cases z2 with
         | false =>
          go_enter Tryz.func65, Tryz.ntmps65
          go_wp2_with (first | (go_at_call 116; (with_reducible refine HSH.out.mono ?_); rintro e _ ⟨rfl, u, rfl⟩) | (go_at_call 119; (with_reducible refine (HF1.out _).mono ?_); rintro e _ ⟨rfl, rfl⟩) | (go_at_call 119; (with_reducible refine (HF2.out _).mono ?_); rintro e _ ⟨rfl, rfl⟩) | (go_at_call 119; (with_reducible refine (HF3.out _).mono ?_); rintro e _ ⟨rfl, rfl⟩))
          go_ret
          exact RetX.b (by rw [HE.out]; first | rfl | simp) (by repeat (first | exact HB0.out | refine Below.alloc ?_ (by have := HBL.out; simp [size_ext]; try omega) _ | refine Below.ext ?_ (by have := HBL.out; simp [size_ext]; try omega) _))
         | true =>
          cases r1 with
          | false =>
           go_enter Tryz.func65, Tryz.ntmps65
           go_wp2_with (first | (go_at_call 116; (with_reducible refine HSH.out.mono ?_); rintro e _ ⟨rfl, u, rfl⟩) | (go_at_call 119; (with_reducible refine (HF1.out _).mono ?_); rintro e _ ⟨rfl, rfl⟩) | (go_at_call 119; (with_reducible refine (HF2.out _).mono ?_); rintro e _ ⟨rfl, rfl⟩) | (go_at_call 119; (with_reducible refine (HF3.out _).mono ?_); rintro e _ ⟨rfl, rfl⟩))
           go_ret
           exact RetX.b (by rw [HE.out]; first | rfl | simp) (by repeat (first | exact HB0.out | refine Below.alloc ?_ (by have := HBL.out; simp [size_ext]; try omega) _ | refine Below.ext ?_ (by have := HBL.out; simp [size_ext]; try omega) _))
          | true =>
           cases r2 with
           | false =>
            go_enter Tryz.func65, Tryz.ntmps65
            go_wp2_with (first | (go_at_call 116; (with_reducible refine HSH.out.mono ?_); rintro e _ ⟨rfl, u, rfl⟩) | (go_at_call 119; (with_reducible refine (HF1.out _).mono ?_); rintro e _ ⟨rfl, rfl⟩) | (go_at_call 119; (with_reducible refine (HF2.out _).mono ?_); rintro e _ ⟨rfl, rfl⟩) | (go_at_call 119; (with_reducible refine (HF3.out _).mono ?_); rintro e _ ⟨rfl, rfl⟩))
            go_ret
            exact RetX.b (by rw [HE.out]; first | rfl | simp) (by repeat (first | exact HB0.out | refine Below.alloc ?_ (by have := HBL.out; simp [size_ext]; try omega) _ | refine Below.ext ?_ (by have := HBL.out; simp [size_ext]; try omega) _))
           | true =>
            go_enter Tryz.func65, Tryz.ntmps65
            go_wp2_with (first | (go_at_call 116; (with_reducible refine HSH.out.mono ?_); rintro e _ ⟨rfl, u, rfl⟩) | (go_at_call 119; (with_reducible refine (HF1.out _).mono ?_); rintro e _ ⟨rfl, rfl⟩) | (go_at_call 119; (with_reducible refine (HF2.out _).mono ?_); rintro e _ ⟨rfl, rfl⟩) | (go_at_call 119; (with_reducible refine (HF3.out _).mono ?_); rintro e _ ⟨rfl, rfl⟩))
            go_ret
            exact RetX.b (by rw [HE.out]; first | rfl | simp) (by repeat (first | exact HB0.out | refine Below.alloc ?_ (by have := HBL.out; simp [size_ext]; try omega) _ | refine Below.ext ?_ (by have := HBL.out; simp [size_ext]; try omega) _))
    | true =>
     cases lo with
     | true =>
      go_enter Tryz.func65, Tryz.ntmps65
      go_wp2_with (first | (go_at_call 116; (with_reducible refine HSH.out.mono ?_); rintro e _ ⟨rfl, u, rfl⟩) | (go_at_call 119; (with_reducible refine (HF1.out _).mono ?_); rintro e _ ⟨rfl, rfl⟩) | (go_at_call 119; (with_reducible refine (HF2.out _).mono ?_); rintro e _ ⟨rfl, rfl⟩) | (go_at_call 119; (with_reducible refine (HF3.out _).mono ?_); rintro e _ ⟨rfl, rfl⟩))
      go_ret
      exact RetX.b (by rw [HE.out]; first | rfl | simp) (by repeat (first | exact HB0.out | refine Below.alloc ?_ (by have := HBL.out; simp [size_ext]; try omega) _ | refine Below.ext ?_ (by have := HBL.out; simp [size_ext]; try omega) _))
     | false =>
      cases hi9 with
      | true =>
       go_enter Tryz.func65, Tryz.ntmps65
       go_wp2_with (first | (go_at_call 116; (with_reducible refine HSH.out.mono ?_); rintro e _ ⟨rfl, u, rfl⟩) | (go_at_call 119; (with_reducible refine (HF1.out _).mono ?_); rintro e _ ⟨rfl, rfl⟩) | (go_at_call 119; (with_reducible refine (HF2.out _).mono ?_); rintro e _ ⟨rfl, rfl⟩) | (go_at_call 119; (with_reducible refine (HF3.out _).mono ?_); rintro e _ ⟨rfl, rfl⟩))
       go_ret
       exact RetX.b (by rw [HE.out]; first | rfl | simp) (by repeat (first | exact HB0.out | refine Below.alloc ?_ (by have := HBL.out; simp [size_ext]; try omega) _ | refine Below.ext ?_ (by have := HBL.out; simp [size_ext]; try omega) _))
      | false =>
       cases z1 with
       | false =>
        go_enter Tryz.func65, Tryz.ntmps65
        go_wp2_with (first | (go_at_call 116; (with_reducible refine HSH.out.mono ?_); rintro e _ ⟨rfl, u, rfl⟩) | (go_at_call 119; (with_reducible refine (HF1.out _).mono ?_); rintro e _ ⟨rfl, rfl⟩) | (go_at_call 119; (with_reducible refine (HF2.out _).mono ?_); rintro e _ ⟨rfl, rfl⟩) | (go_at_call 119; (with_reducible refine (HF3.out _).mono ?_); rintro e _ ⟨rfl, rfl⟩))
        go_ret
        exact RetX.b (by rw [HE.out]; first | rfl | simp) (by repeat (first | exact HB0.out | refine Below.alloc ?_ (by have := HBL.out; simp [size_ext]; try omega) _ | refine Below.ext ?_ (by have := HBL.out; simp [size_ext]; try omega) _))
       | true =>
        cases z2 with
        | false =>
         go_enter Tryz.func65, Tryz.ntmps65
         go_wp2_with (first | (go_at_call 116; (with_reducible refine HSH.out.mono ?_); rintro e _ ⟨rfl, u, rfl⟩) | (go_at_call 119; (with_reducible refine (HF1.out _).mono ?_); rintro e _ ⟨rfl, rfl⟩) | (go_at_call 119; (with_reducible refine (HF2.out _).mono ?_); rintro e _ ⟨rfl, rfl⟩) | (go_at_call 119; (with_reducible refine (HF3.out _).mono ?_); rintro e _ ⟨rfl, rfl⟩))
         go_ret
         exact RetX.b (by rw [HE.out]; first | rfl | simp) (by repeat (first | exact HB0.out | refine Below.alloc ?_ (by have := HBL.out; simp [size_ext]; try omega) _ | refine Below.ext ?_ (by have := HBL.out; simp [size_ext]; try omega) _))
        | true =>
         cases r1 with
         | false =>
          go_enter Tryz.func65, Tryz.ntmps65
          go_wp2_with (first | (go_at_call 116; (with_reducible refine HSH.out.mono ?_); rintro e _ ⟨rfl, u, rfl⟩) | (go_at_call 119; (with_reducible refine (HF1.out _).mono ?_); rintro e _ ⟨rfl, rfl⟩) | (go_at_call 119; (with_reducible refine (HF2.out _).mono ?_); rintro e _ ⟨rfl, rfl⟩) | (go_at_call 119; (with_reducible refine (HF3.out _).mono ?_); rintro e _ ⟨rfl, rfl⟩))
          go_ret
          exact RetX.b (by rw [HE.out]; first | rfl | simp) (by repeat (first | exact HB0.out | refine Below.alloc ?_ (by have := HBL.out; simp [size_ext]; try omega) _ | refine Below.ext ?_ (by have := HBL.out; simp [size_ext]; try omega) _))
         | true =>
          cases r2 with
          | false =>
           go_enter Tryz.func65, Tryz.ntmps65
           go_wp2_with (first | (go_at_call 116; (with_reducible refine HSH.out.mono ?_); rintro e _ ⟨rfl, u, rfl⟩) | (go_at_call 119; (with_reducible refine (HF1.out _).mono ?_); rintro e _ ⟨rfl, rfl⟩) | (go_at_call 119; (with_reducible refine (HF2.out _).mono ?_); rintro e _ ⟨rfl, rfl⟩) | (go_at_call 119; (with_reducible refine (HF3.out _).mono ?_); rintro e _ ⟨rfl, rfl⟩))
           go_ret
           exact RetX.b (by rw [HE.out]; first | rfl | simp) (by repeat (first | exact HB0.out | refine Below.alloc ?_ (by have := HBL.out; simp [size_ext]; try omega) _ | refine Below.ext ?_ (by have := HBL.out; simp [size_ext]; try omega) _))
          | true =>
           go_enter Tryz.func65, Tryz.ntmps65
           go_wp2_with (first | (go_at_call 116; (with_reducible refine HSH.out.mono ?_); rintro e _ ⟨rfl, u, rfl⟩) | (go_at_call 119; (with_reducible refine (HF1.out _).mono ?_); rintro e _ ⟨rfl, rfl⟩) | (go_at_call 119; (with_reducible refine (HF2.out _).mono ?_); rintro e _ ⟨rfl, rfl⟩) | (go_at_call 119; (with_reducible refine (HF3.out _).mono ?_); rintro e _ ⟨rfl, rfl⟩))
           go_ret
           exact RetX.b (by rw [HE.out]; first | rfl | simp) (by repeat (first | exact HB0.out | refine Below.alloc ?_ (by have := HBL.out; simp [size_ext]; try omega) _ | refine Below.ext ?_ (by have := HBL.out; simp [size_ext]; try omega) _))
  ·have bm : (many != 0) = true := by simpa using hm0
   have HE := hide (show insB ⟨o, dst, a, b, imm, callee, args, many⟩ = false from by
    unfold insB
    simp only
    rw [show (many == 0) = false from by simpa using hm0]
    simp)
   have HSH := hide (shaped_ir o W0)
   rw [his] at HSH
   generalize shL o = sh at HSH
   obtain ⟨s1, s2, s3, s4, s5⟩ := sh
   simp only [shV] at HSH
   clear hm0
   go_enter Tryz.func65, Tryz.ntmps65
   go_wp2_with (first | (go_at_call 116; (with_reducible refine HSH.out.mono ?_); rintro e _ ⟨rfl, u, rfl⟩))
   go_ret
   exact RetX.b HE.out.symm (by repeat (first | exact HB0.out | refine Below.alloc ?_ (by have := HBL.out; simp [size_ext]; try omega) _ | refine Below.ext ?_ (by have := HBL.out; simp [size_ext]; try omega) _))
end Go.Proofs.YtljglhaeonbfoaaGreatDoor
