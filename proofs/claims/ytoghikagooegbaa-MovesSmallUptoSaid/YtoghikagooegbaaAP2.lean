/- Lists that lie apart: no list, of each kind but numbers. Printed by gen_ap2.py. -/
import Derived.Test.YtoghikagooegbaaAP1
import Derived.Deep.OwnRows
set_option linter.unusedSimpArgs false
set_option linter.unusedVariables false
namespace Go.Proofs.Ytoghikagooegbaa
open Go.RowKit

theorem info_sLimbs : (Try.prog.info? 126).map (fun i => (i.zero, i.size, i.bytes)) = some (some (.slice none 0 0), 1, 24) := by kernel_rfl
set_option maxRecDepth 100000 in
set_option maxHeartbeats 4000000 in
theorem flatLimbs_nil (w : World) : Calls Try.prog 46 #[.slice none 0 0] w (RetX (.bool true) w) := by
  obtain ⟨i0, hi, hz, hz1, hz2⟩ := info_parts info_sLimbs
  have HI0 := hide hi; have HZ := hide hz; have HZ1 := hide hz1; have HZ2 := hide hz2
  clear hi hz hz1 hz2
  go_enter Try.func46, Try.ntmps46
  go_wp2_with fail
  go_loopw [3] (fun i wr => i = .int .i64 0 ∧ w = wr) (fun _ _ => 0)
  case atStart => exact ⟨rfl, rfl⟩
  case round =>
    obtain ⟨rfl, rfl⟩ := hrel
    go_wp2_with (at_make; refine wpList_make_row _ rfl _ _ 77 rfl 126 i0 _ Try.underlying77 HI0.out HZ.out HZ1.out rfl _ _ 0 rfl rfl (by omega) (by omega) ?_)
    obtain ⟨W, hW⟩ : ∃ W', w.alloc (.cells (madeCells #[.slice none 0 0] 0) 126) = W' := ⟨_, rfl⟩
    have HB := hide (show Below w.heap.size w W by rw [← hW]; exact (Below.refl _ _).alloc (Nat.le_refl _) _)
    go_wp2_with fail
    have HWQ := hide hW
    clear hW
    go_loopw [6] (fun i wr => i = .int .i64 0 ∧ W = wr) (fun _ _ => 0)
    case atStart => exact ⟨rfl, HWQ.out.symm⟩
    case round =>
      obtain ⟨rfl, rfl⟩ := hrel
      go_wp2_with fail
      go_loopw [9] (fun i wr => i = .int .i64 0 ∧ W = wr) (fun _ _ => 0)
      case atStart => exact ⟨rfl, rfl⟩
      case round =>
        obtain ⟨rfl, rfl⟩ := hrel
        go_wp2_with fail
        go_loopw [11] (fun i wr => i = .int .i64 0 ∧ W = wr) (fun _ _ => 0)
        case atStart => exact ⟨rfl, rfl⟩
        case round =>
          obtain ⟨rfl, rfl⟩ := hrel
          go_wp2_with fail
          go_loopw [14] (fun i wr => i = .int .i64 0 ∧ W = wr) (fun _ _ => 0)
          case atStart => exact ⟨rfl, rfl⟩
          case round =>
            obtain ⟨rfl, rfl⟩ := hrel
            go_wp2_with fail
            go_ret
            exact ⟨rfl, HB.out.to_ext⟩
theorem info_sWords : (Try.prog.info? 129).map (fun i => (i.zero, i.size, i.bytes)) = some (some (.slice none 0 0), 1, 24) := by kernel_rfl
set_option maxRecDepth 100000 in
set_option maxHeartbeats 4000000 in
theorem flatWords_nil (w : World) : Calls Try.prog 47 #[.slice none 0 0] w (RetX (.bool true) w) := by
  obtain ⟨i0, hi, hz, hz1, hz2⟩ := info_parts info_sWords
  have HI0 := hide hi; have HZ := hide hz; have HZ1 := hide hz1; have HZ2 := hide hz2
  clear hi hz hz1 hz2
  go_enter Try.func47, Try.ntmps47
  go_wp2_with fail
  go_loopw [3] (fun i wr => i = .int .i64 0 ∧ w = wr) (fun _ _ => 0)
  case atStart => exact ⟨rfl, rfl⟩
  case round =>
    obtain ⟨rfl, rfl⟩ := hrel
    go_wp2_with (at_make; refine wpList_make_row _ rfl _ _ 78 rfl 129 i0 _ Try.underlying78 HI0.out HZ.out HZ1.out rfl _ _ 0 rfl rfl (by omega) (by omega) ?_)
    obtain ⟨W, hW⟩ : ∃ W', w.alloc (.cells (madeCells #[.slice none 0 0] 0) 129) = W' := ⟨_, rfl⟩
    have HB := hide (show Below w.heap.size w W by rw [← hW]; exact (Below.refl _ _).alloc (Nat.le_refl _) _)
    go_wp2_with fail
    have HWQ := hide hW
    clear hW
    go_loopw [6] (fun i wr => i = .int .i64 0 ∧ W = wr) (fun _ _ => 0)
    case atStart => exact ⟨rfl, HWQ.out.symm⟩
    case round =>
      obtain ⟨rfl, rfl⟩ := hrel
      go_wp2_with fail
      go_loopw [9] (fun i wr => i = .int .i64 0 ∧ W = wr) (fun _ _ => 0)
      case atStart => exact ⟨rfl, rfl⟩
      case round =>
        obtain ⟨rfl, rfl⟩ := hrel
        go_wp2_with fail
        go_loopw [11] (fun i wr => i = .int .i64 0 ∧ W = wr) (fun _ _ => 0)
        case atStart => exact ⟨rfl, rfl⟩
        case round =>
          obtain ⟨rfl, rfl⟩ := hrel
          go_wp2_with fail
          go_loopw [14] (fun i wr => i = .int .i64 0 ∧ W = wr) (fun _ _ => 0)
          case atStart => exact ⟨rfl, rfl⟩
          case round =>
            obtain ⟨rfl, rfl⟩ := hrel
            go_wp2_with fail
            go_ret
            exact ⟨rfl, HB.out.to_ext⟩
theorem info_sLongs : (Try.prog.info? 131).map (fun i => (i.zero, i.size, i.bytes)) = some (some (.slice none 0 0), 1, 24) := by kernel_rfl
set_option maxRecDepth 100000 in
set_option maxHeartbeats 4000000 in
theorem flatLongs_nil (w : World) : Calls Try.prog 49 #[.slice none 0 0] w (RetX (.bool true) w) := by
  obtain ⟨i0, hi, hz, hz1, hz2⟩ := info_parts info_sLongs
  have HI0 := hide hi; have HZ := hide hz; have HZ1 := hide hz1; have HZ2 := hide hz2
  clear hi hz hz1 hz2
  go_enter Try.func49, Try.ntmps49
  go_wp2_with fail
  go_loopw [3] (fun i wr => i = .int .i64 0 ∧ w = wr) (fun _ _ => 0)
  case atStart => exact ⟨rfl, rfl⟩
  case round =>
    obtain ⟨rfl, rfl⟩ := hrel
    go_wp2_with (at_make; refine wpList_make_row _ rfl _ _ 80 rfl 131 i0 _ Try.underlying80 HI0.out HZ.out HZ1.out rfl _ _ 0 rfl rfl (by omega) (by omega) ?_)
    obtain ⟨W, hW⟩ : ∃ W', w.alloc (.cells (madeCells #[.slice none 0 0] 0) 131) = W' := ⟨_, rfl⟩
    have HB := hide (show Below w.heap.size w W by rw [← hW]; exact (Below.refl _ _).alloc (Nat.le_refl _) _)
    go_wp2_with fail
    have HWQ := hide hW
    clear hW
    go_loopw [6] (fun i wr => i = .int .i64 0 ∧ W = wr) (fun _ _ => 0)
    case atStart => exact ⟨rfl, HWQ.out.symm⟩
    case round =>
      obtain ⟨rfl, rfl⟩ := hrel
      go_wp2_with fail
      go_loopw [9] (fun i wr => i = .int .i64 0 ∧ W = wr) (fun _ _ => 0)
      case atStart => exact ⟨rfl, rfl⟩
      case round =>
        obtain ⟨rfl, rfl⟩ := hrel
        go_wp2_with fail
        go_loopw [11] (fun i wr => i = .int .i64 0 ∧ W = wr) (fun _ _ => 0)
        case atStart => exact ⟨rfl, rfl⟩
        case round =>
          obtain ⟨rfl, rfl⟩ := hrel
          go_wp2_with fail
          go_loopw [14] (fun i wr => i = .int .i64 0 ∧ W = wr) (fun _ _ => 0)
          case atStart => exact ⟨rfl, rfl⟩
          case round =>
            obtain ⟨rfl, rfl⟩ := hrel
            go_wp2_with fail
            go_ret
            exact ⟨rfl, HB.out.to_ext⟩
theorem info_sTexts : (Try.prog.info? 132).map (fun i => (i.zero, i.size, i.bytes)) = some (some (.slice none 0 0), 1, 24) := by kernel_rfl
set_option maxRecDepth 100000 in
set_option maxHeartbeats 4000000 in
theorem flatTexts_nil (w : World) : Calls Try.prog 50 #[.slice none 0 0] w (RetX (.bool true) w) := by
  obtain ⟨i0, hi, hz, hz1, hz2⟩ := info_parts info_sTexts
  have HI0 := hide hi; have HZ := hide hz; have HZ1 := hide hz1; have HZ2 := hide hz2
  clear hi hz hz1 hz2
  go_enter Try.func50, Try.ntmps50
  go_wp2_with fail
  go_loopw [3] (fun i wr => i = .int .i64 0 ∧ w = wr) (fun _ _ => 0)
  case atStart => exact ⟨rfl, rfl⟩
  case round =>
    obtain ⟨rfl, rfl⟩ := hrel
    go_wp2_with (at_make; refine wpList_make_row _ rfl _ _ 81 rfl 132 i0 _ Try.underlying81 HI0.out HZ.out HZ1.out rfl _ _ 0 rfl rfl (by omega) (by omega) ?_)
    obtain ⟨W, hW⟩ : ∃ W', w.alloc (.cells (madeCells #[.slice none 0 0] 0) 132) = W' := ⟨_, rfl⟩
    have HB := hide (show Below w.heap.size w W by rw [← hW]; exact (Below.refl _ _).alloc (Nat.le_refl _) _)
    go_wp2_with fail
    have HWQ := hide hW
    clear hW
    go_loopw [6] (fun i wr => i = .int .i64 0 ∧ W = wr) (fun _ _ => 0)
    case atStart => exact ⟨rfl, HWQ.out.symm⟩
    case round =>
      obtain ⟨rfl, rfl⟩ := hrel
      go_wp2_with fail
      go_loopw [9] (fun i wr => i = .int .i64 0 ∧ W = wr) (fun _ _ => 0)
      case atStart => exact ⟨rfl, rfl⟩
      case round =>
        obtain ⟨rfl, rfl⟩ := hrel
        go_wp2_with fail
        go_loopw [11] (fun i wr => i = .int .i64 0 ∧ W = wr) (fun _ _ => 0)
        case atStart => exact ⟨rfl, rfl⟩
        case round =>
          obtain ⟨rfl, rfl⟩ := hrel
          go_wp2_with fail
          go_loopw [14] (fun i wr => i = .int .i64 0 ∧ W = wr) (fun _ _ => 0)
          case atStart => exact ⟨rfl, rfl⟩
          case round =>
            obtain ⟨rfl, rfl⟩ := hrel
            go_wp2_with fail
            go_ret
            exact ⟨rfl, HB.out.to_ext⟩
theorem info_sBytes : (Try.prog.info? 134).map (fun i => (i.zero, i.size, i.bytes)) = some (some (.slice none 0 0), 1, 24) := by kernel_rfl
set_option maxRecDepth 100000 in
set_option maxHeartbeats 4000000 in
theorem flatBytes_nil (w : World) : Calls Try.prog 51 #[.slice none 0 0] w (RetX (.bool true) w) := by
  obtain ⟨i0, hi, hz, hz1, hz2⟩ := info_parts info_sBytes
  have HI0 := hide hi; have HZ := hide hz; have HZ1 := hide hz1; have HZ2 := hide hz2
  clear hi hz hz1 hz2
  go_enter Try.func51, Try.ntmps51
  go_wp2_with fail
  go_loopw [3] (fun i wr => i = .int .i64 0 ∧ w = wr) (fun _ _ => 0)
  case atStart => exact ⟨rfl, rfl⟩
  case round =>
    obtain ⟨rfl, rfl⟩ := hrel
    go_wp2_with (at_make; refine wpList_make_row _ rfl _ _ 82 rfl 134 i0 _ Try.underlying82 HI0.out HZ.out HZ1.out rfl _ _ 0 rfl rfl (by omega) (by omega) ?_)
    obtain ⟨W, hW⟩ : ∃ W', w.alloc (.cells (madeCells #[.slice none 0 0] 0) 134) = W' := ⟨_, rfl⟩
    have HB := hide (show Below w.heap.size w W by rw [← hW]; exact (Below.refl _ _).alloc (Nat.le_refl _) _)
    go_wp2_with fail
    have HWQ := hide hW
    clear hW
    go_loopw [6] (fun i wr => i = .int .i64 0 ∧ W = wr) (fun _ _ => 0)
    case atStart => exact ⟨rfl, HWQ.out.symm⟩
    case round =>
      obtain ⟨rfl, rfl⟩ := hrel
      go_wp2_with fail
      go_loopw [9] (fun i wr => i = .int .i64 0 ∧ W = wr) (fun _ _ => 0)
      case atStart => exact ⟨rfl, rfl⟩
      case round =>
        obtain ⟨rfl, rfl⟩ := hrel
        go_wp2_with fail
        go_loopw [11] (fun i wr => i = .int .i64 0 ∧ W = wr) (fun _ _ => 0)
        case atStart => exact ⟨rfl, rfl⟩
        case round =>
          obtain ⟨rfl, rfl⟩ := hrel
          go_wp2_with fail
          go_loopw [14] (fun i wr => i = .int .i64 0 ∧ W = wr) (fun _ _ => 0)
          case atStart => exact ⟨rfl, rfl⟩
          case round =>
            obtain ⟨rfl, rfl⟩ := hrel
            go_wp2_with fail
            go_ret
            exact ⟨rfl, HB.out.to_ext⟩
theorem info_sTruths : (Try.prog.info? 136).map (fun i => (i.zero, i.size, i.bytes)) = some (some (.slice none 0 0), 1, 24) := by kernel_rfl
set_option maxRecDepth 100000 in
set_option maxHeartbeats 4000000 in
theorem flatTruths_nil (w : World) : Calls Try.prog 52 #[.slice none 0 0] w (RetX (.bool true) w) := by
  obtain ⟨i0, hi, hz, hz1, hz2⟩ := info_parts info_sTruths
  have HI0 := hide hi; have HZ := hide hz; have HZ1 := hide hz1; have HZ2 := hide hz2
  clear hi hz hz1 hz2
  go_enter Try.func52, Try.ntmps52
  go_wp2_with fail
  go_loopw [3] (fun i wr => i = .int .i64 0 ∧ w = wr) (fun _ _ => 0)
  case atStart => exact ⟨rfl, rfl⟩
  case round =>
    obtain ⟨rfl, rfl⟩ := hrel
    go_wp2_with (at_make; refine wpList_make_row _ rfl _ _ 83 rfl 136 i0 _ Try.underlying83 HI0.out HZ.out HZ1.out rfl _ _ 0 rfl rfl (by omega) (by omega) ?_)
    obtain ⟨W, hW⟩ : ∃ W', w.alloc (.cells (madeCells #[.slice none 0 0] 0) 136) = W' := ⟨_, rfl⟩
    have HB := hide (show Below w.heap.size w W by rw [← hW]; exact (Below.refl _ _).alloc (Nat.le_refl _) _)
    go_wp2_with fail
    have HWQ := hide hW
    clear hW
    go_loopw [6] (fun i wr => i = .int .i64 0 ∧ W = wr) (fun _ _ => 0)
    case atStart => exact ⟨rfl, HWQ.out.symm⟩
    case round =>
      obtain ⟨rfl, rfl⟩ := hrel
      go_wp2_with fail
      go_loopw [9] (fun i wr => i = .int .i64 0 ∧ W = wr) (fun _ _ => 0)
      case atStart => exact ⟨rfl, rfl⟩
      case round =>
        obtain ⟨rfl, rfl⟩ := hrel
        go_wp2_with fail
        go_loopw [11] (fun i wr => i = .int .i64 0 ∧ W = wr) (fun _ _ => 0)
        case atStart => exact ⟨rfl, rfl⟩
        case round =>
          obtain ⟨rfl, rfl⟩ := hrel
          go_wp2_with fail
          go_loopw [14] (fun i wr => i = .int .i64 0 ∧ W = wr) (fun _ _ => 0)
          case atStart => exact ⟨rfl, rfl⟩
          case round =>
            obtain ⟨rfl, rfl⟩ := hrel
            go_wp2_with fail
            go_ret
            exact ⟨rfl, HB.out.to_ext⟩
theorem info_sRow : (Try.prog.info? 24).map (fun i => (i.zero, i.size, i.bytes)) = some (some (.slice none 0 0), 1, 24) := by kernel_rfl
set_option maxRecDepth 100000 in
set_option maxHeartbeats 4000000 in
theorem flatRow_nil (w : World) : Calls Try.prog 53 #[.slice none 0 0] w (RetX (.bool true) w) := by
  obtain ⟨i0, hi, hz, hz1, hz2⟩ := info_parts info_sRow
  have HI0 := hide hi; have HZ := hide hz; have HZ1 := hide hz1; have HZ2 := hide hz2
  clear hi hz hz1 hz2
  go_enter Try.func53, Try.ntmps53
  go_wp2_with fail
  go_loopw [3] (fun i wr => i = .int .i64 0 ∧ w = wr) (fun _ _ => 0)
  case atStart => exact ⟨rfl, rfl⟩
  case round =>
    obtain ⟨rfl, rfl⟩ := hrel
    go_wp2_with (at_make; refine wpList_make_row _ rfl _ _ 44 rfl 24 i0 _ Try.underlying44 HI0.out HZ.out HZ1.out rfl _ _ 0 rfl rfl (by omega) (by omega) ?_)
    obtain ⟨W, hW⟩ : ∃ W', w.alloc (.cells (madeCells #[.slice none 0 0] 0) 24) = W' := ⟨_, rfl⟩
    have HB := hide (show Below w.heap.size w W by rw [← hW]; exact (Below.refl _ _).alloc (Nat.le_refl _) _)
    go_wp2_with fail
    have HWQ := hide hW
    clear hW
    go_loopw [6] (fun i wr => i = .int .i64 0 ∧ W = wr) (fun _ _ => 0)
    case atStart => exact ⟨rfl, HWQ.out.symm⟩
    case round =>
      obtain ⟨rfl, rfl⟩ := hrel
      go_wp2_with fail
      go_loopw [9] (fun i wr => i = .int .i64 0 ∧ W = wr) (fun _ _ => 0)
      case atStart => exact ⟨rfl, rfl⟩
      case round =>
        obtain ⟨rfl, rfl⟩ := hrel
        go_wp2_with fail
        go_loopw [11] (fun i wr => i = .int .i64 0 ∧ W = wr) (fun _ _ => 0)
        case atStart => exact ⟨rfl, rfl⟩
        case round =>
          obtain ⟨rfl, rfl⟩ := hrel
          go_wp2_with fail
          go_loopw [14] (fun i wr => i = .int .i64 0 ∧ W = wr) (fun _ _ => 0)
          case atStart => exact ⟨rfl, rfl⟩
          case round =>
            obtain ⟨rfl, rfl⟩ := hrel
            go_wp2_with fail
            go_ret
            exact ⟨rfl, HB.out.to_ext⟩
theorem info_sBlocks : (Try.prog.info? 138).map (fun i => (i.zero, i.size, i.bytes)) = some (some (.slice none 0 0), 1, 24) := by kernel_rfl
set_option maxRecDepth 100000 in
set_option maxHeartbeats 4000000 in
theorem flatBlocks_nil (w : World) : Calls Try.prog 54 #[.slice none 0 0] w (RetX (.bool true) w) := by
  obtain ⟨i0, hi, hz, hz1, hz2⟩ := info_parts info_sBlocks
  have HI0 := hide hi; have HZ := hide hz; have HZ1 := hide hz1; have HZ2 := hide hz2
  clear hi hz hz1 hz2
  go_enter Try.func54, Try.ntmps54
  go_wp2_with fail
  go_loopw [3] (fun i wr => i = .int .i64 0 ∧ w = wr) (fun _ _ => 0)
  case atStart => exact ⟨rfl, rfl⟩
  case round =>
    obtain ⟨rfl, rfl⟩ := hrel
    go_wp2_with (at_make; refine wpList_make_row _ rfl _ _ 84 rfl 138 i0 _ Try.underlying84 HI0.out HZ.out HZ1.out rfl _ _ 0 rfl rfl (by omega) (by omega) ?_)
    obtain ⟨W, hW⟩ : ∃ W', w.alloc (.cells (madeCells #[.slice none 0 0] 0) 138) = W' := ⟨_, rfl⟩
    have HB := hide (show Below w.heap.size w W by rw [← hW]; exact (Below.refl _ _).alloc (Nat.le_refl _) _)
    go_wp2_with fail
    have HWQ := hide hW
    clear hW
    go_loopw [6] (fun i wr => i = .int .i64 0 ∧ W = wr) (fun _ _ => 0)
    case atStart => exact ⟨rfl, HWQ.out.symm⟩
    case round =>
      obtain ⟨rfl, rfl⟩ := hrel
      go_wp2_with fail
      go_loopw [9] (fun i wr => i = .int .i64 0 ∧ W = wr) (fun _ _ => 0)
      case atStart => exact ⟨rfl, rfl⟩
      case round =>
        obtain ⟨rfl, rfl⟩ := hrel
        go_wp2_with fail
        go_loopw [11] (fun i wr => i = .int .i64 0 ∧ W = wr) (fun _ _ => 0)
        case atStart => exact ⟨rfl, rfl⟩
        case round =>
          obtain ⟨rfl, rfl⟩ := hrel
          go_wp2_with fail
          go_loopw [14] (fun i wr => i = .int .i64 0 ∧ W = wr) (fun _ _ => 0)
          case atStart => exact ⟨rfl, rfl⟩
          case round =>
            obtain ⟨rfl, rfl⟩ := hrel
            go_wp2_with fail
            go_ret
            exact ⟨rfl, HB.out.to_ext⟩
theorem info_sFuncs : (Try.prog.info? 147).map (fun i => (i.zero, i.size, i.bytes)) = some (some (.slice none 0 0), 1, 24) := by kernel_rfl
set_option maxRecDepth 100000 in
set_option maxHeartbeats 4000000 in
theorem flatFuncs_nil (w : World) : Calls Try.prog 55 #[.slice none 0 0] w (RetX (.bool true) w) := by
  obtain ⟨i0, hi, hz, hz1, hz2⟩ := info_parts info_sFuncs
  have HI0 := hide hi; have HZ := hide hz; have HZ1 := hide hz1; have HZ2 := hide hz2
  clear hi hz hz1 hz2
  go_enter Try.func55, Try.ntmps55
  go_wp2_with fail
  go_loopw [3] (fun i wr => i = .int .i64 0 ∧ w = wr) (fun _ _ => 0)
  case atStart => exact ⟨rfl, rfl⟩
  case round =>
    obtain ⟨rfl, rfl⟩ := hrel
    go_wp2_with (at_make; refine wpList_make_row _ rfl _ _ 85 rfl 147 i0 _ Try.underlying85 HI0.out HZ.out HZ1.out rfl _ _ 0 rfl rfl (by omega) (by omega) ?_)
    obtain ⟨W, hW⟩ : ∃ W', w.alloc (.cells (madeCells #[.slice none 0 0] 0) 147) = W' := ⟨_, rfl⟩
    have HB := hide (show Below w.heap.size w W by rw [← hW]; exact (Below.refl _ _).alloc (Nat.le_refl _) _)
    go_wp2_with fail
    have HWQ := hide hW
    clear hW
    go_loopw [6] (fun i wr => i = .int .i64 0 ∧ W = wr) (fun _ _ => 0)
    case atStart => exact ⟨rfl, HWQ.out.symm⟩
    case round =>
      obtain ⟨rfl, rfl⟩ := hrel
      go_wp2_with fail
      go_loopw [9] (fun i wr => i = .int .i64 0 ∧ W = wr) (fun _ _ => 0)
      case atStart => exact ⟨rfl, rfl⟩
      case round =>
        obtain ⟨rfl, rfl⟩ := hrel
        go_wp2_with fail
        go_loopw [11] (fun i wr => i = .int .i64 0 ∧ W = wr) (fun _ _ => 0)
        case atStart => exact ⟨rfl, rfl⟩
        case round =>
          obtain ⟨rfl, rfl⟩ := hrel
          go_wp2_with fail
          go_loopw [14] (fun i wr => i = .int .i64 0 ∧ W = wr) (fun _ _ => 0)
          case atStart => exact ⟨rfl, rfl⟩
          case round =>
            obtain ⟨rfl, rfl⟩ := hrel
            go_wp2_with fail
            go_ret
            exact ⟨rfl, HB.out.to_ext⟩
theorem info_sTargets : (Try.prog.info? 152).map (fun i => (i.zero, i.size, i.bytes)) = some (some (.slice none 0 0), 1, 24) := by kernel_rfl
set_option maxRecDepth 100000 in
set_option maxHeartbeats 4000000 in
theorem flatTargets_nil (w : World) : Calls Try.prog 56 #[.slice none 0 0] w (RetX (.bool true) w) := by
  obtain ⟨i0, hi, hz, hz1, hz2⟩ := info_parts info_sTargets
  have HI0 := hide hi; have HZ := hide hz; have HZ1 := hide hz1; have HZ2 := hide hz2
  clear hi hz hz1 hz2
  go_enter Try.func56, Try.ntmps56
  go_wp2_with fail
  go_loopw [3] (fun i wr => i = .int .i64 0 ∧ w = wr) (fun _ _ => 0)
  case atStart => exact ⟨rfl, rfl⟩
  case round =>
    obtain ⟨rfl, rfl⟩ := hrel
    go_wp2_with (at_make; refine wpList_make_row _ rfl _ _ 86 rfl 152 i0 _ Try.underlying86 HI0.out HZ.out HZ1.out rfl _ _ 0 rfl rfl (by omega) (by omega) ?_)
    obtain ⟨W, hW⟩ : ∃ W', w.alloc (.cells (madeCells #[.slice none 0 0] 0) 152) = W' := ⟨_, rfl⟩
    have HB := hide (show Below w.heap.size w W by rw [← hW]; exact (Below.refl _ _).alloc (Nat.le_refl _) _)
    go_wp2_with fail
    have HWQ := hide hW
    clear hW
    go_loopw [6] (fun i wr => i = .int .i64 0 ∧ W = wr) (fun _ _ => 0)
    case atStart => exact ⟨rfl, HWQ.out.symm⟩
    case round =>
      obtain ⟨rfl, rfl⟩ := hrel
      go_wp2_with fail
      go_loopw [9] (fun i wr => i = .int .i64 0 ∧ W = wr) (fun _ _ => 0)
      case atStart => exact ⟨rfl, rfl⟩
      case round =>
        obtain ⟨rfl, rfl⟩ := hrel
        go_wp2_with fail
        go_loopw [11] (fun i wr => i = .int .i64 0 ∧ W = wr) (fun _ _ => 0)
        case atStart => exact ⟨rfl, rfl⟩
        case round =>
          obtain ⟨rfl, rfl⟩ := hrel
          go_wp2_with fail
          go_loopw [14] (fun i wr => i = .int .i64 0 ∧ W = wr) (fun _ _ => 0)
          case atStart => exact ⟨rfl, rfl⟩
          case round =>
            obtain ⟨rfl, rfl⟩ := hrel
            go_wp2_with fail
            go_ret
            exact ⟨rfl, HB.out.to_ext⟩
theorem info_sMachines : (Try.prog.info? 157).map (fun i => (i.zero, i.size, i.bytes)) = some (some (.slice none 0 0), 1, 24) := by kernel_rfl
set_option maxRecDepth 100000 in
set_option maxHeartbeats 4000000 in
theorem flatMachines_nil (w : World) : Calls Try.prog 57 #[.slice none 0 0] w (RetX (.bool true) w) := by
  obtain ⟨i0, hi, hz, hz1, hz2⟩ := info_parts info_sMachines
  have HI0 := hide hi; have HZ := hide hz; have HZ1 := hide hz1; have HZ2 := hide hz2
  clear hi hz hz1 hz2
  go_enter Try.func57, Try.ntmps57
  go_wp2_with fail
  go_loopw [3] (fun i wr => i = .int .i64 0 ∧ w = wr) (fun _ _ => 0)
  case atStart => exact ⟨rfl, rfl⟩
  case round =>
    obtain ⟨rfl, rfl⟩ := hrel
    go_wp2_with (at_make; refine wpList_make_row _ rfl _ _ 87 rfl 157 i0 _ Try.underlying87 HI0.out HZ.out HZ1.out rfl _ _ 0 rfl rfl (by omega) (by omega) ?_)
    obtain ⟨W, hW⟩ : ∃ W', w.alloc (.cells (madeCells #[.slice none 0 0] 0) 157) = W' := ⟨_, rfl⟩
    have HB := hide (show Below w.heap.size w W by rw [← hW]; exact (Below.refl _ _).alloc (Nat.le_refl _) _)
    go_wp2_with fail
    have HWQ := hide hW
    clear hW
    go_loopw [6] (fun i wr => i = .int .i64 0 ∧ W = wr) (fun _ _ => 0)
    case atStart => exact ⟨rfl, HWQ.out.symm⟩
    case round =>
      obtain ⟨rfl, rfl⟩ := hrel
      go_wp2_with fail
      go_loopw [9] (fun i wr => i = .int .i64 0 ∧ W = wr) (fun _ _ => 0)
      case atStart => exact ⟨rfl, rfl⟩
      case round =>
        obtain ⟨rfl, rfl⟩ := hrel
        go_wp2_with fail
        go_loopw [11] (fun i wr => i = .int .i64 0 ∧ W = wr) (fun _ _ => 0)
        case atStart => exact ⟨rfl, rfl⟩
        case round =>
          obtain ⟨rfl, rfl⟩ := hrel
          go_wp2_with fail
          go_loopw [14] (fun i wr => i = .int .i64 0 ∧ W = wr) (fun _ _ => 0)
          case atStart => exact ⟨rfl, rfl⟩
          case round =>
            obtain ⟨rfl, rfl⟩ := hrel
            go_wp2_with fail
            go_ret
            exact ⟨rfl, HB.out.to_ext⟩
theorem info_sLocs : (Try.prog.info? 46).map (fun i => (i.zero, i.size, i.bytes)) = some (some (.slice none 0 0), 1, 24) := by kernel_rfl
set_option maxRecDepth 100000 in
set_option maxHeartbeats 4000000 in
theorem flatLocs_nil (w : World) : Calls Try.prog 58 #[.slice none 0 0] w (RetX (.bool true) w) := by
  obtain ⟨i0, hi, hz, hz1, hz2⟩ := info_parts info_sLocs
  have HI0 := hide hi; have HZ := hide hz; have HZ1 := hide hz1; have HZ2 := hide hz2
  clear hi hz hz1 hz2
  go_enter Try.func58, Try.ntmps58
  go_wp2_with fail
  go_loopw [3] (fun i wr => i = .int .i64 0 ∧ w = wr) (fun _ _ => 0)
  case atStart => exact ⟨rfl, rfl⟩
  case round =>
    obtain ⟨rfl, rfl⟩ := hrel
    go_wp2_with (at_make; refine wpList_make_row _ rfl _ _ 88 rfl 46 i0 _ Try.underlying88 HI0.out HZ.out HZ1.out rfl _ _ 0 rfl rfl (by omega) (by omega) ?_)
    obtain ⟨W, hW⟩ : ∃ W', w.alloc (.cells (madeCells #[.slice none 0 0] 0) 46) = W' := ⟨_, rfl⟩
    have HB := hide (show Below w.heap.size w W by rw [← hW]; exact (Below.refl _ _).alloc (Nat.le_refl _) _)
    go_wp2_with fail
    have HWQ := hide hW
    clear hW
    go_loopw [6] (fun i wr => i = .int .i64 0 ∧ W = wr) (fun _ _ => 0)
    case atStart => exact ⟨rfl, HWQ.out.symm⟩
    case round =>
      obtain ⟨rfl, rfl⟩ := hrel
      go_wp2_with fail
      go_loopw [9] (fun i wr => i = .int .i64 0 ∧ W = wr) (fun _ _ => 0)
      case atStart => exact ⟨rfl, rfl⟩
      case round =>
        obtain ⟨rfl, rfl⟩ := hrel
        go_wp2_with fail
        go_loopw [11] (fun i wr => i = .int .i64 0 ∧ W = wr) (fun _ _ => 0)
        case atStart => exact ⟨rfl, rfl⟩
        case round =>
          obtain ⟨rfl, rfl⟩ := hrel
          go_wp2_with fail
          go_loopw [14] (fun i wr => i = .int .i64 0 ∧ W = wr) (fun _ _ => 0)
          case atStart => exact ⟨rfl, rfl⟩
          case round =>
            obtain ⟨rfl, rfl⟩ := hrel
            go_wp2_with fail
            go_ret
            exact ⟨rfl, HB.out.to_ext⟩
theorem info_sFacts : (Try.prog.info? 163).map (fun i => (i.zero, i.size, i.bytes)) = some (some (.slice none 0 0), 1, 24) := by kernel_rfl
set_option maxRecDepth 100000 in
set_option maxHeartbeats 4000000 in
theorem flatFacts_nil (w : World) : Calls Try.prog 59 #[.slice none 0 0] w (RetX (.bool true) w) := by
  obtain ⟨i0, hi, hz, hz1, hz2⟩ := info_parts info_sFacts
  have HI0 := hide hi; have HZ := hide hz; have HZ1 := hide hz1; have HZ2 := hide hz2
  clear hi hz hz1 hz2
  go_enter Try.func59, Try.ntmps59
  go_wp2_with fail
  go_loopw [3] (fun i wr => i = .int .i64 0 ∧ w = wr) (fun _ _ => 0)
  case atStart => exact ⟨rfl, rfl⟩
  case round =>
    obtain ⟨rfl, rfl⟩ := hrel
    go_wp2_with (at_make; refine wpList_make_row _ rfl _ _ 89 rfl 163 i0 _ Try.underlying89 HI0.out HZ.out HZ1.out rfl _ _ 0 rfl rfl (by omega) (by omega) ?_)
    obtain ⟨W, hW⟩ : ∃ W', w.alloc (.cells (madeCells #[.slice none 0 0] 0) 163) = W' := ⟨_, rfl⟩
    have HB := hide (show Below w.heap.size w W by rw [← hW]; exact (Below.refl _ _).alloc (Nat.le_refl _) _)
    go_wp2_with fail
    have HWQ := hide hW
    clear hW
    go_loopw [6] (fun i wr => i = .int .i64 0 ∧ W = wr) (fun _ _ => 0)
    case atStart => exact ⟨rfl, HWQ.out.symm⟩
    case round =>
      obtain ⟨rfl, rfl⟩ := hrel
      go_wp2_with fail
      go_loopw [9] (fun i wr => i = .int .i64 0 ∧ W = wr) (fun _ _ => 0)
      case atStart => exact ⟨rfl, rfl⟩
      case round =>
        obtain ⟨rfl, rfl⟩ := hrel
        go_wp2_with fail
        go_loopw [11] (fun i wr => i = .int .i64 0 ∧ W = wr) (fun _ _ => 0)
        case atStart => exact ⟨rfl, rfl⟩
        case round =>
          obtain ⟨rfl, rfl⟩ := hrel
          go_wp2_with fail
          go_loopw [14] (fun i wr => i = .int .i64 0 ∧ W = wr) (fun _ _ => 0)
          case atStart => exact ⟨rfl, rfl⟩
          case round =>
            obtain ⟨rfl, rfl⟩ := hrel
            go_wp2_with fail
            go_ret
            exact ⟨rfl, HB.out.to_ext⟩
theorem info_sEdges : (Try.prog.info? 167).map (fun i => (i.zero, i.size, i.bytes)) = some (some (.slice none 0 0), 1, 24) := by kernel_rfl
set_option maxRecDepth 100000 in
set_option maxHeartbeats 4000000 in
theorem flatEdges_nil (w : World) : Calls Try.prog 60 #[.slice none 0 0] w (RetX (.bool true) w) := by
  obtain ⟨i0, hi, hz, hz1, hz2⟩ := info_parts info_sEdges
  have HI0 := hide hi; have HZ := hide hz; have HZ1 := hide hz1; have HZ2 := hide hz2
  clear hi hz hz1 hz2
  go_enter Try.func60, Try.ntmps60
  go_wp2_with fail
  go_loopw [3] (fun i wr => i = .int .i64 0 ∧ w = wr) (fun _ _ => 0)
  case atStart => exact ⟨rfl, rfl⟩
  case round =>
    obtain ⟨rfl, rfl⟩ := hrel
    go_wp2_with (at_make; refine wpList_make_row _ rfl _ _ 90 rfl 167 i0 _ Try.underlying90 HI0.out HZ.out HZ1.out rfl _ _ 0 rfl rfl (by omega) (by omega) ?_)
    obtain ⟨W, hW⟩ : ∃ W', w.alloc (.cells (madeCells #[.slice none 0 0] 0) 167) = W' := ⟨_, rfl⟩
    have HB := hide (show Below w.heap.size w W by rw [← hW]; exact (Below.refl _ _).alloc (Nat.le_refl _) _)
    go_wp2_with fail
    have HWQ := hide hW
    clear hW
    go_loopw [6] (fun i wr => i = .int .i64 0 ∧ W = wr) (fun _ _ => 0)
    case atStart => exact ⟨rfl, HWQ.out.symm⟩
    case round =>
      obtain ⟨rfl, rfl⟩ := hrel
      go_wp2_with fail
      go_loopw [9] (fun i wr => i = .int .i64 0 ∧ W = wr) (fun _ _ => 0)
      case atStart => exact ⟨rfl, rfl⟩
      case round =>
        obtain ⟨rfl, rfl⟩ := hrel
        go_wp2_with fail
        go_loopw [11] (fun i wr => i = .int .i64 0 ∧ W = wr) (fun _ _ => 0)
        case atStart => exact ⟨rfl, rfl⟩
        case round =>
          obtain ⟨rfl, rfl⟩ := hrel
          go_wp2_with fail
          go_loopw [14] (fun i wr => i = .int .i64 0 ∧ W = wr) (fun _ _ => 0)
          case atStart => exact ⟨rfl, rfl⟩
          case round =>
            obtain ⟨rfl, rfl⟩ := hrel
            go_wp2_with fail
            go_ret
            exact ⟨rfl, HB.out.to_ext⟩
theorem info_sTiles : (Try.prog.info? 171).map (fun i => (i.zero, i.size, i.bytes)) = some (some (.slice none 0 0), 1, 24) := by kernel_rfl
set_option maxRecDepth 100000 in
set_option maxHeartbeats 4000000 in
theorem flatTiles_nil (w : World) : Calls Try.prog 61 #[.slice none 0 0] w (RetX (.bool true) w) := by
  obtain ⟨i0, hi, hz, hz1, hz2⟩ := info_parts info_sTiles
  have HI0 := hide hi; have HZ := hide hz; have HZ1 := hide hz1; have HZ2 := hide hz2
  clear hi hz hz1 hz2
  go_enter Try.func61, Try.ntmps61
  go_wp2_with fail
  go_loopw [3] (fun i wr => i = .int .i64 0 ∧ w = wr) (fun _ _ => 0)
  case atStart => exact ⟨rfl, rfl⟩
  case round =>
    obtain ⟨rfl, rfl⟩ := hrel
    go_wp2_with (at_make; refine wpList_make_row _ rfl _ _ 91 rfl 171 i0 _ Try.underlying91 HI0.out HZ.out HZ1.out rfl _ _ 0 rfl rfl (by omega) (by omega) ?_)
    obtain ⟨W, hW⟩ : ∃ W', w.alloc (.cells (madeCells #[.slice none 0 0] 0) 171) = W' := ⟨_, rfl⟩
    have HB := hide (show Below w.heap.size w W by rw [← hW]; exact (Below.refl _ _).alloc (Nat.le_refl _) _)
    go_wp2_with fail
    have HWQ := hide hW
    clear hW
    go_loopw [6] (fun i wr => i = .int .i64 0 ∧ W = wr) (fun _ _ => 0)
    case atStart => exact ⟨rfl, HWQ.out.symm⟩
    case round =>
      obtain ⟨rfl, rfl⟩ := hrel
      go_wp2_with fail
      go_loopw [9] (fun i wr => i = .int .i64 0 ∧ W = wr) (fun _ _ => 0)
      case atStart => exact ⟨rfl, rfl⟩
      case round =>
        obtain ⟨rfl, rfl⟩ := hrel
        go_wp2_with fail
        go_loopw [11] (fun i wr => i = .int .i64 0 ∧ W = wr) (fun _ _ => 0)
        case atStart => exact ⟨rfl, rfl⟩
        case round =>
          obtain ⟨rfl, rfl⟩ := hrel
          go_wp2_with fail
          go_loopw [14] (fun i wr => i = .int .i64 0 ∧ W = wr) (fun _ _ => 0)
          case atStart => exact ⟨rfl, rfl⟩
          case round =>
            obtain ⟨rfl, rfl⟩ := hrel
            go_wp2_with fail
            go_ret
            exact ⟨rfl, HB.out.to_ext⟩
theorem info_sCalls : (Try.prog.info? 177).map (fun i => (i.zero, i.size, i.bytes)) = some (some (.slice none 0 0), 1, 24) := by kernel_rfl
set_option maxRecDepth 100000 in
set_option maxHeartbeats 4000000 in
theorem flatCalls_nil (w : World) : Calls Try.prog 62 #[.slice none 0 0] w (RetX (.bool true) w) := by
  obtain ⟨i0, hi, hz, hz1, hz2⟩ := info_parts info_sCalls
  have HI0 := hide hi; have HZ := hide hz; have HZ1 := hide hz1; have HZ2 := hide hz2
  clear hi hz hz1 hz2
  go_enter Try.func62, Try.ntmps62
  go_wp2_with fail
  go_loopw [3] (fun i wr => i = .int .i64 0 ∧ w = wr) (fun _ _ => 0)
  case atStart => exact ⟨rfl, rfl⟩
  case round =>
    obtain ⟨rfl, rfl⟩ := hrel
    go_wp2_with (at_make; refine wpList_make_row _ rfl _ _ 92 rfl 177 i0 _ Try.underlying92 HI0.out HZ.out HZ1.out rfl _ _ 0 rfl rfl (by omega) (by omega) ?_)
    obtain ⟨W, hW⟩ : ∃ W', w.alloc (.cells (madeCells #[.slice none 0 0] 0) 177) = W' := ⟨_, rfl⟩
    have HB := hide (show Below w.heap.size w W by rw [← hW]; exact (Below.refl _ _).alloc (Nat.le_refl _) _)
    go_wp2_with fail
    have HWQ := hide hW
    clear hW
    go_loopw [6] (fun i wr => i = .int .i64 0 ∧ W = wr) (fun _ _ => 0)
    case atStart => exact ⟨rfl, HWQ.out.symm⟩
    case round =>
      obtain ⟨rfl, rfl⟩ := hrel
      go_wp2_with fail
      go_loopw [9] (fun i wr => i = .int .i64 0 ∧ W = wr) (fun _ _ => 0)
      case atStart => exact ⟨rfl, rfl⟩
      case round =>
        obtain ⟨rfl, rfl⟩ := hrel
        go_wp2_with fail
        go_loopw [11] (fun i wr => i = .int .i64 0 ∧ W = wr) (fun _ _ => 0)
        case atStart => exact ⟨rfl, rfl⟩
        case round =>
          obtain ⟨rfl, rfl⟩ := hrel
          go_wp2_with fail
          go_loopw [14] (fun i wr => i = .int .i64 0 ∧ W = wr) (fun _ _ => 0)
          case atStart => exact ⟨rfl, rfl⟩
          case round =>
            obtain ⟨rfl, rfl⟩ := hrel
            go_wp2_with fail
            go_ret
            exact ⟨rfl, HB.out.to_ext⟩
end Go.Proofs.Ytoghikagooegbaa
