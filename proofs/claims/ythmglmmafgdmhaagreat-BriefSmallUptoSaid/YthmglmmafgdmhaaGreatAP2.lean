/- Lists that lie apart: no list, of each kind but numbers. Printed by gen_ap2.py. -/
import Derived.Test.YthmglmmafgdmhaaGreatAP1
import Derived.Deep.OwnRows
set_option linter.unusedSimpArgs false
set_option linter.unusedVariables false
namespace Go.Proofs.YthmglmmafgdmhaaGreat
open Go.RowKit

theorem info_sLimbs : (Tryz.prog.info? 113).map (fun i => (i.zero, i.size, i.bytes)) = some (some (.slice none 0 0), 1, 24) := by kernel_rfl
set_option maxRecDepth 100000 in
set_option maxHeartbeats 4000000 in
theorem flatLimbs_nil (w : World) : Calls Tryz.prog 47 #[.slice none 0 0] w (RetX (.bool true) w) := by
  obtain ⟨i0, hi, hz, hz1, hz2⟩ := info_parts info_sLimbs
  have HI0 := hide hi; have HZ := hide hz; have HZ1 := hide hz1; have HZ2 := hide hz2
  clear hi hz hz1 hz2
  go_enter Tryz.func47, Tryz.ntmps47
  go_wp2_with fail
  go_loopw [3] (fun i wr => i = .int .i64 0 ∧ w = wr) (fun _ _ => 0)
  case atStart => exact ⟨rfl, rfl⟩
  case round =>
    obtain ⟨rfl, rfl⟩ := hrel
    go_wp2_with (at_make; refine wpList_make_row _ rfl _ _ 66 rfl 113 i0 _ Tryz.underlying66 HI0.out HZ.out HZ1.out rfl _ _ 0 rfl rfl (by omega) (by omega) ?_)
    obtain ⟨W, hW⟩ : ∃ W', w.alloc (.cells (madeCells #[.slice none 0 0] 0) 113) = W' := ⟨_, rfl⟩
    have HB := hide (show Below w.heap.size w W by rw [← hW]; exact (Below.refl _ _).alloc (Nat.le_refl _) _)
    go_wp2_with fail
    have HWQ := hide hW
    clear hW
    go_loopw [6] (fun i wr => i = .int .i64 0 ∧ W = wr) (fun _ _ => 0)
    case atStart => exact ⟨rfl, HWQ.out.symm⟩
    case round =>
      obtain ⟨rfl, rfl⟩ := hrel
      go_wp2_with fail
      go_loopw [9] (fun i wr => i = .int .i64 0 ∧ W = wr) (fun _ _ => 0)
      case atStart => exact ⟨rfl, rfl⟩
      case round =>
        obtain ⟨rfl, rfl⟩ := hrel
        go_wp2_with fail
        go_loopw [11] (fun i wr => i = .int .i64 0 ∧ W = wr) (fun _ _ => 0)
        case atStart => exact ⟨rfl, rfl⟩
        case round =>
          obtain ⟨rfl, rfl⟩ := hrel
          go_wp2_with fail
          go_loopw [14] (fun i wr => i = .int .i64 0 ∧ W = wr) (fun _ _ => 0)
          case atStart => exact ⟨rfl, rfl⟩
          case round =>
            obtain ⟨rfl, rfl⟩ := hrel
            go_wp2_with fail
            go_ret
            exact ⟨rfl, HB.out.to_ext⟩
theorem info_sWords : (Tryz.prog.info? 115).map (fun i => (i.zero, i.size, i.bytes)) = some (some (.slice none 0 0), 1, 24) := by kernel_rfl
set_option maxRecDepth 100000 in
set_option maxHeartbeats 4000000 in
theorem flatWords_nil (w : World) : Calls Tryz.prog 48 #[.slice none 0 0] w (RetX (.bool true) w) := by
  obtain ⟨i0, hi, hz, hz1, hz2⟩ := info_parts info_sWords
  have HI0 := hide hi; have HZ := hide hz; have HZ1 := hide hz1; have HZ2 := hide hz2
  clear hi hz hz1 hz2
  go_enter Tryz.func48, Tryz.ntmps48
  go_wp2_with fail
  go_loopw [3] (fun i wr => i = .int .i64 0 ∧ w = wr) (fun _ _ => 0)
  case atStart => exact ⟨rfl, rfl⟩
  case round =>
    obtain ⟨rfl, rfl⟩ := hrel
    go_wp2_with (at_make; refine wpList_make_row _ rfl _ _ 67 rfl 115 i0 _ Tryz.underlying67 HI0.out HZ.out HZ1.out rfl _ _ 0 rfl rfl (by omega) (by omega) ?_)
    obtain ⟨W, hW⟩ : ∃ W', w.alloc (.cells (madeCells #[.slice none 0 0] 0) 115) = W' := ⟨_, rfl⟩
    have HB := hide (show Below w.heap.size w W by rw [← hW]; exact (Below.refl _ _).alloc (Nat.le_refl _) _)
    go_wp2_with fail
    have HWQ := hide hW
    clear hW
    go_loopw [6] (fun i wr => i = .int .i64 0 ∧ W = wr) (fun _ _ => 0)
    case atStart => exact ⟨rfl, HWQ.out.symm⟩
    case round =>
      obtain ⟨rfl, rfl⟩ := hrel
      go_wp2_with fail
      go_loopw [9] (fun i wr => i = .int .i64 0 ∧ W = wr) (fun _ _ => 0)
      case atStart => exact ⟨rfl, rfl⟩
      case round =>
        obtain ⟨rfl, rfl⟩ := hrel
        go_wp2_with fail
        go_loopw [11] (fun i wr => i = .int .i64 0 ∧ W = wr) (fun _ _ => 0)
        case atStart => exact ⟨rfl, rfl⟩
        case round =>
          obtain ⟨rfl, rfl⟩ := hrel
          go_wp2_with fail
          go_loopw [14] (fun i wr => i = .int .i64 0 ∧ W = wr) (fun _ _ => 0)
          case atStart => exact ⟨rfl, rfl⟩
          case round =>
            obtain ⟨rfl, rfl⟩ := hrel
            go_wp2_with fail
            go_ret
            exact ⟨rfl, HB.out.to_ext⟩
theorem info_sLongs : (Tryz.prog.info? 117).map (fun i => (i.zero, i.size, i.bytes)) = some (some (.slice none 0 0), 1, 24) := by kernel_rfl
set_option maxRecDepth 100000 in
set_option maxHeartbeats 4000000 in
theorem flatLongs_nil (w : World) : Calls Tryz.prog 50 #[.slice none 0 0] w (RetX (.bool true) w) := by
  obtain ⟨i0, hi, hz, hz1, hz2⟩ := info_parts info_sLongs
  have HI0 := hide hi; have HZ := hide hz; have HZ1 := hide hz1; have HZ2 := hide hz2
  clear hi hz hz1 hz2
  go_enter Tryz.func50, Tryz.ntmps50
  go_wp2_with fail
  go_loopw [3] (fun i wr => i = .int .i64 0 ∧ w = wr) (fun _ _ => 0)
  case atStart => exact ⟨rfl, rfl⟩
  case round =>
    obtain ⟨rfl, rfl⟩ := hrel
    go_wp2_with (at_make; refine wpList_make_row _ rfl _ _ 68 rfl 117 i0 _ Tryz.underlying68 HI0.out HZ.out HZ1.out rfl _ _ 0 rfl rfl (by omega) (by omega) ?_)
    obtain ⟨W, hW⟩ : ∃ W', w.alloc (.cells (madeCells #[.slice none 0 0] 0) 117) = W' := ⟨_, rfl⟩
    have HB := hide (show Below w.heap.size w W by rw [← hW]; exact (Below.refl _ _).alloc (Nat.le_refl _) _)
    go_wp2_with fail
    have HWQ := hide hW
    clear hW
    go_loopw [6] (fun i wr => i = .int .i64 0 ∧ W = wr) (fun _ _ => 0)
    case atStart => exact ⟨rfl, HWQ.out.symm⟩
    case round =>
      obtain ⟨rfl, rfl⟩ := hrel
      go_wp2_with fail
      go_loopw [9] (fun i wr => i = .int .i64 0 ∧ W = wr) (fun _ _ => 0)
      case atStart => exact ⟨rfl, rfl⟩
      case round =>
        obtain ⟨rfl, rfl⟩ := hrel
        go_wp2_with fail
        go_loopw [11] (fun i wr => i = .int .i64 0 ∧ W = wr) (fun _ _ => 0)
        case atStart => exact ⟨rfl, rfl⟩
        case round =>
          obtain ⟨rfl, rfl⟩ := hrel
          go_wp2_with fail
          go_loopw [14] (fun i wr => i = .int .i64 0 ∧ W = wr) (fun _ _ => 0)
          case atStart => exact ⟨rfl, rfl⟩
          case round =>
            obtain ⟨rfl, rfl⟩ := hrel
            go_wp2_with fail
            go_ret
            exact ⟨rfl, HB.out.to_ext⟩
theorem info_sTexts : (Tryz.prog.info? 118).map (fun i => (i.zero, i.size, i.bytes)) = some (some (.slice none 0 0), 1, 24) := by kernel_rfl
set_option maxRecDepth 100000 in
set_option maxHeartbeats 4000000 in
theorem flatTexts_nil (w : World) : Calls Tryz.prog 51 #[.slice none 0 0] w (RetX (.bool true) w) := by
  obtain ⟨i0, hi, hz, hz1, hz2⟩ := info_parts info_sTexts
  have HI0 := hide hi; have HZ := hide hz; have HZ1 := hide hz1; have HZ2 := hide hz2
  clear hi hz hz1 hz2
  go_enter Tryz.func51, Tryz.ntmps51
  go_wp2_with fail
  go_loopw [3] (fun i wr => i = .int .i64 0 ∧ w = wr) (fun _ _ => 0)
  case atStart => exact ⟨rfl, rfl⟩
  case round =>
    obtain ⟨rfl, rfl⟩ := hrel
    go_wp2_with (at_make; refine wpList_make_row _ rfl _ _ 69 rfl 118 i0 _ Tryz.underlying69 HI0.out HZ.out HZ1.out rfl _ _ 0 rfl rfl (by omega) (by omega) ?_)
    obtain ⟨W, hW⟩ : ∃ W', w.alloc (.cells (madeCells #[.slice none 0 0] 0) 118) = W' := ⟨_, rfl⟩
    have HB := hide (show Below w.heap.size w W by rw [← hW]; exact (Below.refl _ _).alloc (Nat.le_refl _) _)
    go_wp2_with fail
    have HWQ := hide hW
    clear hW
    go_loopw [6] (fun i wr => i = .int .i64 0 ∧ W = wr) (fun _ _ => 0)
    case atStart => exact ⟨rfl, HWQ.out.symm⟩
    case round =>
      obtain ⟨rfl, rfl⟩ := hrel
      go_wp2_with fail
      go_loopw [9] (fun i wr => i = .int .i64 0 ∧ W = wr) (fun _ _ => 0)
      case atStart => exact ⟨rfl, rfl⟩
      case round =>
        obtain ⟨rfl, rfl⟩ := hrel
        go_wp2_with fail
        go_loopw [11] (fun i wr => i = .int .i64 0 ∧ W = wr) (fun _ _ => 0)
        case atStart => exact ⟨rfl, rfl⟩
        case round =>
          obtain ⟨rfl, rfl⟩ := hrel
          go_wp2_with fail
          go_loopw [14] (fun i wr => i = .int .i64 0 ∧ W = wr) (fun _ _ => 0)
          case atStart => exact ⟨rfl, rfl⟩
          case round =>
            obtain ⟨rfl, rfl⟩ := hrel
            go_wp2_with fail
            go_ret
            exact ⟨rfl, HB.out.to_ext⟩
theorem info_sBytes : (Tryz.prog.info? 120).map (fun i => (i.zero, i.size, i.bytes)) = some (some (.slice none 0 0), 1, 24) := by kernel_rfl
set_option maxRecDepth 100000 in
set_option maxHeartbeats 4000000 in
theorem flatBytes_nil (w : World) : Calls Tryz.prog 52 #[.slice none 0 0] w (RetX (.bool true) w) := by
  obtain ⟨i0, hi, hz, hz1, hz2⟩ := info_parts info_sBytes
  have HI0 := hide hi; have HZ := hide hz; have HZ1 := hide hz1; have HZ2 := hide hz2
  clear hi hz hz1 hz2
  go_enter Tryz.func52, Tryz.ntmps52
  go_wp2_with fail
  go_loopw [3] (fun i wr => i = .int .i64 0 ∧ w = wr) (fun _ _ => 0)
  case atStart => exact ⟨rfl, rfl⟩
  case round =>
    obtain ⟨rfl, rfl⟩ := hrel
    go_wp2_with (at_make; refine wpList_make_row _ rfl _ _ 70 rfl 120 i0 _ Tryz.underlying70 HI0.out HZ.out HZ1.out rfl _ _ 0 rfl rfl (by omega) (by omega) ?_)
    obtain ⟨W, hW⟩ : ∃ W', w.alloc (.cells (madeCells #[.slice none 0 0] 0) 120) = W' := ⟨_, rfl⟩
    have HB := hide (show Below w.heap.size w W by rw [← hW]; exact (Below.refl _ _).alloc (Nat.le_refl _) _)
    go_wp2_with fail
    have HWQ := hide hW
    clear hW
    go_loopw [6] (fun i wr => i = .int .i64 0 ∧ W = wr) (fun _ _ => 0)
    case atStart => exact ⟨rfl, HWQ.out.symm⟩
    case round =>
      obtain ⟨rfl, rfl⟩ := hrel
      go_wp2_with fail
      go_loopw [9] (fun i wr => i = .int .i64 0 ∧ W = wr) (fun _ _ => 0)
      case atStart => exact ⟨rfl, rfl⟩
      case round =>
        obtain ⟨rfl, rfl⟩ := hrel
        go_wp2_with fail
        go_loopw [11] (fun i wr => i = .int .i64 0 ∧ W = wr) (fun _ _ => 0)
        case atStart => exact ⟨rfl, rfl⟩
        case round =>
          obtain ⟨rfl, rfl⟩ := hrel
          go_wp2_with fail
          go_loopw [14] (fun i wr => i = .int .i64 0 ∧ W = wr) (fun _ _ => 0)
          case atStart => exact ⟨rfl, rfl⟩
          case round =>
            obtain ⟨rfl, rfl⟩ := hrel
            go_wp2_with fail
            go_ret
            exact ⟨rfl, HB.out.to_ext⟩
theorem info_sTruths : (Tryz.prog.info? 122).map (fun i => (i.zero, i.size, i.bytes)) = some (some (.slice none 0 0), 1, 24) := by kernel_rfl
set_option maxRecDepth 100000 in
set_option maxHeartbeats 4000000 in
theorem flatTruths_nil (w : World) : Calls Tryz.prog 53 #[.slice none 0 0] w (RetX (.bool true) w) := by
  obtain ⟨i0, hi, hz, hz1, hz2⟩ := info_parts info_sTruths
  have HI0 := hide hi; have HZ := hide hz; have HZ1 := hide hz1; have HZ2 := hide hz2
  clear hi hz hz1 hz2
  go_enter Tryz.func53, Tryz.ntmps53
  go_wp2_with fail
  go_loopw [3] (fun i wr => i = .int .i64 0 ∧ w = wr) (fun _ _ => 0)
  case atStart => exact ⟨rfl, rfl⟩
  case round =>
    obtain ⟨rfl, rfl⟩ := hrel
    go_wp2_with (at_make; refine wpList_make_row _ rfl _ _ 71 rfl 122 i0 _ Tryz.underlying71 HI0.out HZ.out HZ1.out rfl _ _ 0 rfl rfl (by omega) (by omega) ?_)
    obtain ⟨W, hW⟩ : ∃ W', w.alloc (.cells (madeCells #[.slice none 0 0] 0) 122) = W' := ⟨_, rfl⟩
    have HB := hide (show Below w.heap.size w W by rw [← hW]; exact (Below.refl _ _).alloc (Nat.le_refl _) _)
    go_wp2_with fail
    have HWQ := hide hW
    clear hW
    go_loopw [6] (fun i wr => i = .int .i64 0 ∧ W = wr) (fun _ _ => 0)
    case atStart => exact ⟨rfl, HWQ.out.symm⟩
    case round =>
      obtain ⟨rfl, rfl⟩ := hrel
      go_wp2_with fail
      go_loopw [9] (fun i wr => i = .int .i64 0 ∧ W = wr) (fun _ _ => 0)
      case atStart => exact ⟨rfl, rfl⟩
      case round =>
        obtain ⟨rfl, rfl⟩ := hrel
        go_wp2_with fail
        go_loopw [11] (fun i wr => i = .int .i64 0 ∧ W = wr) (fun _ _ => 0)
        case atStart => exact ⟨rfl, rfl⟩
        case round =>
          obtain ⟨rfl, rfl⟩ := hrel
          go_wp2_with fail
          go_loopw [14] (fun i wr => i = .int .i64 0 ∧ W = wr) (fun _ _ => 0)
          case atStart => exact ⟨rfl, rfl⟩
          case round =>
            obtain ⟨rfl, rfl⟩ := hrel
            go_wp2_with fail
            go_ret
            exact ⟨rfl, HB.out.to_ext⟩
theorem info_sRow : (Tryz.prog.info? 123).map (fun i => (i.zero, i.size, i.bytes)) = some (some (.slice none 0 0), 1, 24) := by kernel_rfl
set_option maxRecDepth 100000 in
set_option maxHeartbeats 4000000 in
theorem flatRow_nil (w : World) : Calls Tryz.prog 54 #[.slice none 0 0] w (RetX (.bool true) w) := by
  obtain ⟨i0, hi, hz, hz1, hz2⟩ := info_parts info_sRow
  have HI0 := hide hi; have HZ := hide hz; have HZ1 := hide hz1; have HZ2 := hide hz2
  clear hi hz hz1 hz2
  go_enter Tryz.func54, Tryz.ntmps54
  go_wp2_with fail
  go_loopw [3] (fun i wr => i = .int .i64 0 ∧ w = wr) (fun _ _ => 0)
  case atStart => exact ⟨rfl, rfl⟩
  case round =>
    obtain ⟨rfl, rfl⟩ := hrel
    go_wp2_with (at_make; refine wpList_make_row _ rfl _ _ 72 rfl 123 i0 _ Tryz.underlying72 HI0.out HZ.out HZ1.out rfl _ _ 0 rfl rfl (by omega) (by omega) ?_)
    obtain ⟨W, hW⟩ : ∃ W', w.alloc (.cells (madeCells #[.slice none 0 0] 0) 123) = W' := ⟨_, rfl⟩
    have HB := hide (show Below w.heap.size w W by rw [← hW]; exact (Below.refl _ _).alloc (Nat.le_refl _) _)
    go_wp2_with fail
    have HWQ := hide hW
    clear hW
    go_loopw [6] (fun i wr => i = .int .i64 0 ∧ W = wr) (fun _ _ => 0)
    case atStart => exact ⟨rfl, HWQ.out.symm⟩
    case round =>
      obtain ⟨rfl, rfl⟩ := hrel
      go_wp2_with fail
      go_loopw [9] (fun i wr => i = .int .i64 0 ∧ W = wr) (fun _ _ => 0)
      case atStart => exact ⟨rfl, rfl⟩
      case round =>
        obtain ⟨rfl, rfl⟩ := hrel
        go_wp2_with fail
        go_loopw [11] (fun i wr => i = .int .i64 0 ∧ W = wr) (fun _ _ => 0)
        case atStart => exact ⟨rfl, rfl⟩
        case round =>
          obtain ⟨rfl, rfl⟩ := hrel
          go_wp2_with fail
          go_loopw [14] (fun i wr => i = .int .i64 0 ∧ W = wr) (fun _ _ => 0)
          case atStart => exact ⟨rfl, rfl⟩
          case round =>
            obtain ⟨rfl, rfl⟩ := hrel
            go_wp2_with fail
            go_ret
            exact ⟨rfl, HB.out.to_ext⟩
theorem info_sBlocks : (Tryz.prog.info? 129).map (fun i => (i.zero, i.size, i.bytes)) = some (some (.slice none 0 0), 1, 24) := by kernel_rfl
set_option maxRecDepth 100000 in
set_option maxHeartbeats 4000000 in
theorem flatBlocks_nil (w : World) : Calls Tryz.prog 55 #[.slice none 0 0] w (RetX (.bool true) w) := by
  obtain ⟨i0, hi, hz, hz1, hz2⟩ := info_parts info_sBlocks
  have HI0 := hide hi; have HZ := hide hz; have HZ1 := hide hz1; have HZ2 := hide hz2
  clear hi hz hz1 hz2
  go_enter Tryz.func55, Tryz.ntmps55
  go_wp2_with fail
  go_loopw [3] (fun i wr => i = .int .i64 0 ∧ w = wr) (fun _ _ => 0)
  case atStart => exact ⟨rfl, rfl⟩
  case round =>
    obtain ⟨rfl, rfl⟩ := hrel
    go_wp2_with (at_make; refine wpList_make_row _ rfl _ _ 73 rfl 129 i0 _ Tryz.underlying73 HI0.out HZ.out HZ1.out rfl _ _ 0 rfl rfl (by omega) (by omega) ?_)
    obtain ⟨W, hW⟩ : ∃ W', w.alloc (.cells (madeCells #[.slice none 0 0] 0) 129) = W' := ⟨_, rfl⟩
    have HB := hide (show Below w.heap.size w W by rw [← hW]; exact (Below.refl _ _).alloc (Nat.le_refl _) _)
    go_wp2_with fail
    have HWQ := hide hW
    clear hW
    go_loopw [6] (fun i wr => i = .int .i64 0 ∧ W = wr) (fun _ _ => 0)
    case atStart => exact ⟨rfl, HWQ.out.symm⟩
    case round =>
      obtain ⟨rfl, rfl⟩ := hrel
      go_wp2_with fail
      go_loopw [9] (fun i wr => i = .int .i64 0 ∧ W = wr) (fun _ _ => 0)
      case atStart => exact ⟨rfl, rfl⟩
      case round =>
        obtain ⟨rfl, rfl⟩ := hrel
        go_wp2_with fail
        go_loopw [11] (fun i wr => i = .int .i64 0 ∧ W = wr) (fun _ _ => 0)
        case atStart => exact ⟨rfl, rfl⟩
        case round =>
          obtain ⟨rfl, rfl⟩ := hrel
          go_wp2_with fail
          go_loopw [14] (fun i wr => i = .int .i64 0 ∧ W = wr) (fun _ _ => 0)
          case atStart => exact ⟨rfl, rfl⟩
          case round =>
            obtain ⟨rfl, rfl⟩ := hrel
            go_wp2_with fail
            go_ret
            exact ⟨rfl, HB.out.to_ext⟩
theorem info_sFuncs : (Tryz.prog.info? 138).map (fun i => (i.zero, i.size, i.bytes)) = some (some (.slice none 0 0), 1, 24) := by kernel_rfl
set_option maxRecDepth 100000 in
set_option maxHeartbeats 4000000 in
theorem flatFuncs_nil (w : World) : Calls Tryz.prog 56 #[.slice none 0 0] w (RetX (.bool true) w) := by
  obtain ⟨i0, hi, hz, hz1, hz2⟩ := info_parts info_sFuncs
  have HI0 := hide hi; have HZ := hide hz; have HZ1 := hide hz1; have HZ2 := hide hz2
  clear hi hz hz1 hz2
  go_enter Tryz.func56, Tryz.ntmps56
  go_wp2_with fail
  go_loopw [3] (fun i wr => i = .int .i64 0 ∧ w = wr) (fun _ _ => 0)
  case atStart => exact ⟨rfl, rfl⟩
  case round =>
    obtain ⟨rfl, rfl⟩ := hrel
    go_wp2_with (at_make; refine wpList_make_row _ rfl _ _ 74 rfl 138 i0 _ Tryz.underlying74 HI0.out HZ.out HZ1.out rfl _ _ 0 rfl rfl (by omega) (by omega) ?_)
    obtain ⟨W, hW⟩ : ∃ W', w.alloc (.cells (madeCells #[.slice none 0 0] 0) 138) = W' := ⟨_, rfl⟩
    have HB := hide (show Below w.heap.size w W by rw [← hW]; exact (Below.refl _ _).alloc (Nat.le_refl _) _)
    go_wp2_with fail
    have HWQ := hide hW
    clear hW
    go_loopw [6] (fun i wr => i = .int .i64 0 ∧ W = wr) (fun _ _ => 0)
    case atStart => exact ⟨rfl, HWQ.out.symm⟩
    case round =>
      obtain ⟨rfl, rfl⟩ := hrel
      go_wp2_with fail
      go_loopw [9] (fun i wr => i = .int .i64 0 ∧ W = wr) (fun _ _ => 0)
      case atStart => exact ⟨rfl, rfl⟩
      case round =>
        obtain ⟨rfl, rfl⟩ := hrel
        go_wp2_with fail
        go_loopw [11] (fun i wr => i = .int .i64 0 ∧ W = wr) (fun _ _ => 0)
        case atStart => exact ⟨rfl, rfl⟩
        case round =>
          obtain ⟨rfl, rfl⟩ := hrel
          go_wp2_with fail
          go_loopw [14] (fun i wr => i = .int .i64 0 ∧ W = wr) (fun _ _ => 0)
          case atStart => exact ⟨rfl, rfl⟩
          case round =>
            obtain ⟨rfl, rfl⟩ := hrel
            go_wp2_with fail
            go_ret
            exact ⟨rfl, HB.out.to_ext⟩
theorem info_sTargets : (Tryz.prog.info? 143).map (fun i => (i.zero, i.size, i.bytes)) = some (some (.slice none 0 0), 1, 24) := by kernel_rfl
set_option maxRecDepth 100000 in
set_option maxHeartbeats 4000000 in
theorem flatTargets_nil (w : World) : Calls Tryz.prog 57 #[.slice none 0 0] w (RetX (.bool true) w) := by
  obtain ⟨i0, hi, hz, hz1, hz2⟩ := info_parts info_sTargets
  have HI0 := hide hi; have HZ := hide hz; have HZ1 := hide hz1; have HZ2 := hide hz2
  clear hi hz hz1 hz2
  go_enter Tryz.func57, Tryz.ntmps57
  go_wp2_with fail
  go_loopw [3] (fun i wr => i = .int .i64 0 ∧ w = wr) (fun _ _ => 0)
  case atStart => exact ⟨rfl, rfl⟩
  case round =>
    obtain ⟨rfl, rfl⟩ := hrel
    go_wp2_with (at_make; refine wpList_make_row _ rfl _ _ 75 rfl 143 i0 _ Tryz.underlying75 HI0.out HZ.out HZ1.out rfl _ _ 0 rfl rfl (by omega) (by omega) ?_)
    obtain ⟨W, hW⟩ : ∃ W', w.alloc (.cells (madeCells #[.slice none 0 0] 0) 143) = W' := ⟨_, rfl⟩
    have HB := hide (show Below w.heap.size w W by rw [← hW]; exact (Below.refl _ _).alloc (Nat.le_refl _) _)
    go_wp2_with fail
    have HWQ := hide hW
    clear hW
    go_loopw [6] (fun i wr => i = .int .i64 0 ∧ W = wr) (fun _ _ => 0)
    case atStart => exact ⟨rfl, HWQ.out.symm⟩
    case round =>
      obtain ⟨rfl, rfl⟩ := hrel
      go_wp2_with fail
      go_loopw [9] (fun i wr => i = .int .i64 0 ∧ W = wr) (fun _ _ => 0)
      case atStart => exact ⟨rfl, rfl⟩
      case round =>
        obtain ⟨rfl, rfl⟩ := hrel
        go_wp2_with fail
        go_loopw [11] (fun i wr => i = .int .i64 0 ∧ W = wr) (fun _ _ => 0)
        case atStart => exact ⟨rfl, rfl⟩
        case round =>
          obtain ⟨rfl, rfl⟩ := hrel
          go_wp2_with fail
          go_loopw [14] (fun i wr => i = .int .i64 0 ∧ W = wr) (fun _ _ => 0)
          case atStart => exact ⟨rfl, rfl⟩
          case round =>
            obtain ⟨rfl, rfl⟩ := hrel
            go_wp2_with fail
            go_ret
            exact ⟨rfl, HB.out.to_ext⟩
theorem info_sMachines : (Tryz.prog.info? 148).map (fun i => (i.zero, i.size, i.bytes)) = some (some (.slice none 0 0), 1, 24) := by kernel_rfl
set_option maxRecDepth 100000 in
set_option maxHeartbeats 4000000 in
theorem flatMachines_nil (w : World) : Calls Tryz.prog 58 #[.slice none 0 0] w (RetX (.bool true) w) := by
  obtain ⟨i0, hi, hz, hz1, hz2⟩ := info_parts info_sMachines
  have HI0 := hide hi; have HZ := hide hz; have HZ1 := hide hz1; have HZ2 := hide hz2
  clear hi hz hz1 hz2
  go_enter Tryz.func58, Tryz.ntmps58
  go_wp2_with fail
  go_loopw [3] (fun i wr => i = .int .i64 0 ∧ w = wr) (fun _ _ => 0)
  case atStart => exact ⟨rfl, rfl⟩
  case round =>
    obtain ⟨rfl, rfl⟩ := hrel
    go_wp2_with (at_make; refine wpList_make_row _ rfl _ _ 76 rfl 148 i0 _ Tryz.underlying76 HI0.out HZ.out HZ1.out rfl _ _ 0 rfl rfl (by omega) (by omega) ?_)
    obtain ⟨W, hW⟩ : ∃ W', w.alloc (.cells (madeCells #[.slice none 0 0] 0) 148) = W' := ⟨_, rfl⟩
    have HB := hide (show Below w.heap.size w W by rw [← hW]; exact (Below.refl _ _).alloc (Nat.le_refl _) _)
    go_wp2_with fail
    have HWQ := hide hW
    clear hW
    go_loopw [6] (fun i wr => i = .int .i64 0 ∧ W = wr) (fun _ _ => 0)
    case atStart => exact ⟨rfl, HWQ.out.symm⟩
    case round =>
      obtain ⟨rfl, rfl⟩ := hrel
      go_wp2_with fail
      go_loopw [9] (fun i wr => i = .int .i64 0 ∧ W = wr) (fun _ _ => 0)
      case atStart => exact ⟨rfl, rfl⟩
      case round =>
        obtain ⟨rfl, rfl⟩ := hrel
        go_wp2_with fail
        go_loopw [11] (fun i wr => i = .int .i64 0 ∧ W = wr) (fun _ _ => 0)
        case atStart => exact ⟨rfl, rfl⟩
        case round =>
          obtain ⟨rfl, rfl⟩ := hrel
          go_wp2_with fail
          go_loopw [14] (fun i wr => i = .int .i64 0 ∧ W = wr) (fun _ _ => 0)
          case atStart => exact ⟨rfl, rfl⟩
          case round =>
            obtain ⟨rfl, rfl⟩ := hrel
            go_wp2_with fail
            go_ret
            exact ⟨rfl, HB.out.to_ext⟩
theorem info_sLocs : (Tryz.prog.info? 153).map (fun i => (i.zero, i.size, i.bytes)) = some (some (.slice none 0 0), 1, 24) := by kernel_rfl
set_option maxRecDepth 100000 in
set_option maxHeartbeats 4000000 in
theorem flatLocs_nil (w : World) : Calls Tryz.prog 59 #[.slice none 0 0] w (RetX (.bool true) w) := by
  obtain ⟨i0, hi, hz, hz1, hz2⟩ := info_parts info_sLocs
  have HI0 := hide hi; have HZ := hide hz; have HZ1 := hide hz1; have HZ2 := hide hz2
  clear hi hz hz1 hz2
  go_enter Tryz.func59, Tryz.ntmps59
  go_wp2_with fail
  go_loopw [3] (fun i wr => i = .int .i64 0 ∧ w = wr) (fun _ _ => 0)
  case atStart => exact ⟨rfl, rfl⟩
  case round =>
    obtain ⟨rfl, rfl⟩ := hrel
    go_wp2_with (at_make; refine wpList_make_row _ rfl _ _ 77 rfl 153 i0 _ Tryz.underlying77 HI0.out HZ.out HZ1.out rfl _ _ 0 rfl rfl (by omega) (by omega) ?_)
    obtain ⟨W, hW⟩ : ∃ W', w.alloc (.cells (madeCells #[.slice none 0 0] 0) 153) = W' := ⟨_, rfl⟩
    have HB := hide (show Below w.heap.size w W by rw [← hW]; exact (Below.refl _ _).alloc (Nat.le_refl _) _)
    go_wp2_with fail
    have HWQ := hide hW
    clear hW
    go_loopw [6] (fun i wr => i = .int .i64 0 ∧ W = wr) (fun _ _ => 0)
    case atStart => exact ⟨rfl, HWQ.out.symm⟩
    case round =>
      obtain ⟨rfl, rfl⟩ := hrel
      go_wp2_with fail
      go_loopw [9] (fun i wr => i = .int .i64 0 ∧ W = wr) (fun _ _ => 0)
      case atStart => exact ⟨rfl, rfl⟩
      case round =>
        obtain ⟨rfl, rfl⟩ := hrel
        go_wp2_with fail
        go_loopw [11] (fun i wr => i = .int .i64 0 ∧ W = wr) (fun _ _ => 0)
        case atStart => exact ⟨rfl, rfl⟩
        case round =>
          obtain ⟨rfl, rfl⟩ := hrel
          go_wp2_with fail
          go_loopw [14] (fun i wr => i = .int .i64 0 ∧ W = wr) (fun _ _ => 0)
          case atStart => exact ⟨rfl, rfl⟩
          case round =>
            obtain ⟨rfl, rfl⟩ := hrel
            go_wp2_with fail
            go_ret
            exact ⟨rfl, HB.out.to_ext⟩
theorem info_sFacts : (Tryz.prog.info? 157).map (fun i => (i.zero, i.size, i.bytes)) = some (some (.slice none 0 0), 1, 24) := by kernel_rfl
set_option maxRecDepth 100000 in
set_option maxHeartbeats 4000000 in
theorem flatFacts_nil (w : World) : Calls Tryz.prog 60 #[.slice none 0 0] w (RetX (.bool true) w) := by
  obtain ⟨i0, hi, hz, hz1, hz2⟩ := info_parts info_sFacts
  have HI0 := hide hi; have HZ := hide hz; have HZ1 := hide hz1; have HZ2 := hide hz2
  clear hi hz hz1 hz2
  go_enter Tryz.func60, Tryz.ntmps60
  go_wp2_with fail
  go_loopw [3] (fun i wr => i = .int .i64 0 ∧ w = wr) (fun _ _ => 0)
  case atStart => exact ⟨rfl, rfl⟩
  case round =>
    obtain ⟨rfl, rfl⟩ := hrel
    go_wp2_with (at_make; refine wpList_make_row _ rfl _ _ 78 rfl 157 i0 _ Tryz.underlying78 HI0.out HZ.out HZ1.out rfl _ _ 0 rfl rfl (by omega) (by omega) ?_)
    obtain ⟨W, hW⟩ : ∃ W', w.alloc (.cells (madeCells #[.slice none 0 0] 0) 157) = W' := ⟨_, rfl⟩
    have HB := hide (show Below w.heap.size w W by rw [← hW]; exact (Below.refl _ _).alloc (Nat.le_refl _) _)
    go_wp2_with fail
    have HWQ := hide hW
    clear hW
    go_loopw [6] (fun i wr => i = .int .i64 0 ∧ W = wr) (fun _ _ => 0)
    case atStart => exact ⟨rfl, HWQ.out.symm⟩
    case round =>
      obtain ⟨rfl, rfl⟩ := hrel
      go_wp2_with fail
      go_loopw [9] (fun i wr => i = .int .i64 0 ∧ W = wr) (fun _ _ => 0)
      case atStart => exact ⟨rfl, rfl⟩
      case round =>
        obtain ⟨rfl, rfl⟩ := hrel
        go_wp2_with fail
        go_loopw [11] (fun i wr => i = .int .i64 0 ∧ W = wr) (fun _ _ => 0)
        case atStart => exact ⟨rfl, rfl⟩
        case round =>
          obtain ⟨rfl, rfl⟩ := hrel
          go_wp2_with fail
          go_loopw [14] (fun i wr => i = .int .i64 0 ∧ W = wr) (fun _ _ => 0)
          case atStart => exact ⟨rfl, rfl⟩
          case round =>
            obtain ⟨rfl, rfl⟩ := hrel
            go_wp2_with fail
            go_ret
            exact ⟨rfl, HB.out.to_ext⟩
theorem info_sEdges : (Tryz.prog.info? 161).map (fun i => (i.zero, i.size, i.bytes)) = some (some (.slice none 0 0), 1, 24) := by kernel_rfl
set_option maxRecDepth 100000 in
set_option maxHeartbeats 4000000 in
theorem flatEdges_nil (w : World) : Calls Tryz.prog 61 #[.slice none 0 0] w (RetX (.bool true) w) := by
  obtain ⟨i0, hi, hz, hz1, hz2⟩ := info_parts info_sEdges
  have HI0 := hide hi; have HZ := hide hz; have HZ1 := hide hz1; have HZ2 := hide hz2
  clear hi hz hz1 hz2
  go_enter Tryz.func61, Tryz.ntmps61
  go_wp2_with fail
  go_loopw [3] (fun i wr => i = .int .i64 0 ∧ w = wr) (fun _ _ => 0)
  case atStart => exact ⟨rfl, rfl⟩
  case round =>
    obtain ⟨rfl, rfl⟩ := hrel
    go_wp2_with (at_make; refine wpList_make_row _ rfl _ _ 79 rfl 161 i0 _ Tryz.underlying79 HI0.out HZ.out HZ1.out rfl _ _ 0 rfl rfl (by omega) (by omega) ?_)
    obtain ⟨W, hW⟩ : ∃ W', w.alloc (.cells (madeCells #[.slice none 0 0] 0) 161) = W' := ⟨_, rfl⟩
    have HB := hide (show Below w.heap.size w W by rw [← hW]; exact (Below.refl _ _).alloc (Nat.le_refl _) _)
    go_wp2_with fail
    have HWQ := hide hW
    clear hW
    go_loopw [6] (fun i wr => i = .int .i64 0 ∧ W = wr) (fun _ _ => 0)
    case atStart => exact ⟨rfl, HWQ.out.symm⟩
    case round =>
      obtain ⟨rfl, rfl⟩ := hrel
      go_wp2_with fail
      go_loopw [9] (fun i wr => i = .int .i64 0 ∧ W = wr) (fun _ _ => 0)
      case atStart => exact ⟨rfl, rfl⟩
      case round =>
        obtain ⟨rfl, rfl⟩ := hrel
        go_wp2_with fail
        go_loopw [11] (fun i wr => i = .int .i64 0 ∧ W = wr) (fun _ _ => 0)
        case atStart => exact ⟨rfl, rfl⟩
        case round =>
          obtain ⟨rfl, rfl⟩ := hrel
          go_wp2_with fail
          go_loopw [14] (fun i wr => i = .int .i64 0 ∧ W = wr) (fun _ _ => 0)
          case atStart => exact ⟨rfl, rfl⟩
          case round =>
            obtain ⟨rfl, rfl⟩ := hrel
            go_wp2_with fail
            go_ret
            exact ⟨rfl, HB.out.to_ext⟩
theorem info_sTiles : (Tryz.prog.info? 165).map (fun i => (i.zero, i.size, i.bytes)) = some (some (.slice none 0 0), 1, 24) := by kernel_rfl
set_option maxRecDepth 100000 in
set_option maxHeartbeats 4000000 in
theorem flatTiles_nil (w : World) : Calls Tryz.prog 62 #[.slice none 0 0] w (RetX (.bool true) w) := by
  obtain ⟨i0, hi, hz, hz1, hz2⟩ := info_parts info_sTiles
  have HI0 := hide hi; have HZ := hide hz; have HZ1 := hide hz1; have HZ2 := hide hz2
  clear hi hz hz1 hz2
  go_enter Tryz.func62, Tryz.ntmps62
  go_wp2_with fail
  go_loopw [3] (fun i wr => i = .int .i64 0 ∧ w = wr) (fun _ _ => 0)
  case atStart => exact ⟨rfl, rfl⟩
  case round =>
    obtain ⟨rfl, rfl⟩ := hrel
    go_wp2_with (at_make; refine wpList_make_row _ rfl _ _ 80 rfl 165 i0 _ Tryz.underlying80 HI0.out HZ.out HZ1.out rfl _ _ 0 rfl rfl (by omega) (by omega) ?_)
    obtain ⟨W, hW⟩ : ∃ W', w.alloc (.cells (madeCells #[.slice none 0 0] 0) 165) = W' := ⟨_, rfl⟩
    have HB := hide (show Below w.heap.size w W by rw [← hW]; exact (Below.refl _ _).alloc (Nat.le_refl _) _)
    go_wp2_with fail
    have HWQ := hide hW
    clear hW
    go_loopw [6] (fun i wr => i = .int .i64 0 ∧ W = wr) (fun _ _ => 0)
    case atStart => exact ⟨rfl, HWQ.out.symm⟩
    case round =>
      obtain ⟨rfl, rfl⟩ := hrel
      go_wp2_with fail
      go_loopw [9] (fun i wr => i = .int .i64 0 ∧ W = wr) (fun _ _ => 0)
      case atStart => exact ⟨rfl, rfl⟩
      case round =>
        obtain ⟨rfl, rfl⟩ := hrel
        go_wp2_with fail
        go_loopw [11] (fun i wr => i = .int .i64 0 ∧ W = wr) (fun _ _ => 0)
        case atStart => exact ⟨rfl, rfl⟩
        case round =>
          obtain ⟨rfl, rfl⟩ := hrel
          go_wp2_with fail
          go_loopw [14] (fun i wr => i = .int .i64 0 ∧ W = wr) (fun _ _ => 0)
          case atStart => exact ⟨rfl, rfl⟩
          case round =>
            obtain ⟨rfl, rfl⟩ := hrel
            go_wp2_with fail
            go_ret
            exact ⟨rfl, HB.out.to_ext⟩
theorem info_sCalls : (Tryz.prog.info? 171).map (fun i => (i.zero, i.size, i.bytes)) = some (some (.slice none 0 0), 1, 24) := by kernel_rfl
set_option maxRecDepth 100000 in
set_option maxHeartbeats 4000000 in
theorem flatCalls_nil (w : World) : Calls Tryz.prog 63 #[.slice none 0 0] w (RetX (.bool true) w) := by
  obtain ⟨i0, hi, hz, hz1, hz2⟩ := info_parts info_sCalls
  have HI0 := hide hi; have HZ := hide hz; have HZ1 := hide hz1; have HZ2 := hide hz2
  clear hi hz hz1 hz2
  go_enter Tryz.func63, Tryz.ntmps63
  go_wp2_with fail
  go_loopw [3] (fun i wr => i = .int .i64 0 ∧ w = wr) (fun _ _ => 0)
  case atStart => exact ⟨rfl, rfl⟩
  case round =>
    obtain ⟨rfl, rfl⟩ := hrel
    go_wp2_with (at_make; refine wpList_make_row _ rfl _ _ 81 rfl 171 i0 _ Tryz.underlying81 HI0.out HZ.out HZ1.out rfl _ _ 0 rfl rfl (by omega) (by omega) ?_)
    obtain ⟨W, hW⟩ : ∃ W', w.alloc (.cells (madeCells #[.slice none 0 0] 0) 171) = W' := ⟨_, rfl⟩
    have HB := hide (show Below w.heap.size w W by rw [← hW]; exact (Below.refl _ _).alloc (Nat.le_refl _) _)
    go_wp2_with fail
    have HWQ := hide hW
    clear hW
    go_loopw [6] (fun i wr => i = .int .i64 0 ∧ W = wr) (fun _ _ => 0)
    case atStart => exact ⟨rfl, HWQ.out.symm⟩
    case round =>
      obtain ⟨rfl, rfl⟩ := hrel
      go_wp2_with fail
      go_loopw [9] (fun i wr => i = .int .i64 0 ∧ W = wr) (fun _ _ => 0)
      case atStart => exact ⟨rfl, rfl⟩
      case round =>
        obtain ⟨rfl, rfl⟩ := hrel
        go_wp2_with fail
        go_loopw [11] (fun i wr => i = .int .i64 0 ∧ W = wr) (fun _ _ => 0)
        case atStart => exact ⟨rfl, rfl⟩
        case round =>
          obtain ⟨rfl, rfl⟩ := hrel
          go_wp2_with fail
          go_loopw [14] (fun i wr => i = .int .i64 0 ∧ W = wr) (fun _ _ => 0)
          case atStart => exact ⟨rfl, rfl⟩
          case round =>
            obtain ⟨rfl, rfl⟩ := hrel
            go_wp2_with fail
            go_ret
            exact ⟨rfl, HB.out.to_ext⟩
end Go.Proofs.YthmglmmafgdmhaaGreat
