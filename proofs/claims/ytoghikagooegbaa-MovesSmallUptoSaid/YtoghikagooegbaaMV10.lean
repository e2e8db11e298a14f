/- Walks: law 26: places, moves, the chapter's example. -/
import Derived.Test.YtoghikagooegbaaMV9
import Derived.Test.YtoghikagooegbaaB26c
set_option linter.unusedSimpArgs false
set_option linter.unusedVariables false
namespace Go.Proofs.Ytoghikagooegbaa
open Go.RowKit Go.Maps

theorem reg26_any (w : World) (n : Int) : Calls Try.prog 20 #[.int .i64 n] w (RetX (.agg #[.bool false, .int .i64 n]) w) := by
  go_enter Try.func20, Try.ntmps20
  go_wp2_with fail
  refine bodyPost_ret (results_cell_row Try.results20 _ _ w.heap.size _ _ (0, 0) _ rfl (heap_alloc_new w _) Try.underlying40 rfl (by kernel_rfl)) rfl ?_
  exact ⟨rfl, Below.to_ext (by repeat (first | exact Below.refl _ _ | assumption | refine Below.alloc ?_ (by simp [size_ext]; try omega) _ | refine Below.ext ?_ (by simp [size_ext]; try omega) _ | refine Below.drew ?_ | refine Below.setCell ?_ (by simp [size_ext]; try omega) _))⟩
theorem slot26_any (w : World) (n : Int) : Calls Try.prog 21 #[.int .i64 n] w (RetX (.agg #[.bool true, .int .i64 n]) w) := by
  go_enter Try.func21, Try.ntmps21
  go_wp2_with fail
  refine bodyPost_ret (results_cell_row Try.results21 _ _ w.heap.size _ _ (0, 0) _ rfl (heap_alloc_new w _) Try.underlying40 rfl (by kernel_rfl)) rfl ?_
  exact ⟨rfl, Below.to_ext (by repeat (first | exact Below.refl _ _ | assumption | refine Below.alloc ?_ (by simp [size_ext]; try omega) _ | refine Below.ext ?_ (by simp [size_ext]; try omega) _ | refine Below.drew ?_ | refine Below.setCell ?_ (by simp [size_ext]; try omega) _))⟩
theorem of26_any (w : World) (s1 s2 : Bool) (n1 n2 : Int) : Calls Try.prog 22 #[.agg #[.bool s1, .int .i64 n1], .agg #[.bool s2, .int .i64 n2]] w (RetX (.agg #[.bool s1, .int .i64 n1, .bool s2, .int .i64 n2]) w) := by
  go_enter Try.func22, Try.ntmps22
  go_wp2_with fail
  refine bodyPost_ret (results_cell_row Try.results22 _ _ (w.heap.size + 2) _ _ (0, 0) _ rfl (by have h := heap_alloc_new ((w.alloc (.cells #[.bool s1, .int .i64 n1] 40)).alloc (.cells #[.bool s2, .int .i64 n2] 40)); simpa using h _) Try.underlying42 rfl (by kernel_rfl)) rfl ?_
  exact ⟨rfl, Below.to_ext (by repeat (first | exact Below.refl _ _ | assumption | refine Below.alloc ?_ (by simp [size_ext]; try omega) _ | refine Below.ext ?_ (by simp [size_ext]; try omega) _ | refine Below.drew ?_ | refine Below.setCell ?_ (by simp [size_ext]; try omega) _))⟩
def swapL : List Move := [⟨⟨false, 0⟩, ⟨false, 1⟩⟩, ⟨⟨false, 1⟩, ⟨false, 0⟩⟩]
def wantL : List Ins := [⟨16, 0, 1, 0, 5, 0, [], 0⟩, ⟨15, 1, 0, 0, 0, 0, [], 0⟩, ⟨17, 0, 0, 0, 5, 0, [], 0⟩]
theorem swap_row : rowIns swapL 5 = wantL := by decide
theorem swap_err : rowErr swapL 5 = 0 := by decide
theorem swap_rings : ringsM swapL = 1 := by decide +kernel
set_option maxRecDepth 100000 in
set_option maxHeartbeats 8000000 in
theorem awake26_any (w : World) : Calls Try.prog 7 #[] w (RetX (.bool true) w) := by
  have HR := hide (reg26_any)
  have HO := hide (of26_any)
  have HB0 := hide (Below.refl w.heap.size w)
  go_enter Try.func7, Try.ntmps7
  go_wp2_with (go_at_call 20; (with_reducible refine (HR.out _ _).mono ?_); rintro e _ ⟨rfl, u1, rfl⟩; refine Hd.out ?_)
  obtain ⟨W1, hW1⟩ : ∃ W, w.ext u1 = W := ⟨_, rfl⟩
  have HB1 := hide (show Below w.heap.size w W1 by rw [← hW1]; exact HB0.out.ext HB0.out.size u1)
  rw [hW1]
  clear hW1 HB0
  refine hide ?_
  go_wp2_with (go_at_call 20; (with_reducible refine (HR.out _ _).mono ?_); rintro e _ ⟨rfl, u2, rfl⟩; refine Hd.out ?_)
  obtain ⟨W2, hW2⟩ : ∃ W, W1.ext u2 = W := ⟨_, rfl⟩
  have HB2 := hide (show Below w.heap.size w W2 by rw [← hW2]; exact HB1.out.ext HB1.out.size u2)
  rw [hW2]
  clear hW2 HB1
  refine hide ?_
  go_wp2_with (go_at_call 22; (with_reducible refine (HO.out _ _ _ _ _).mono ?_); rintro e _ ⟨rfl, u3, rfl⟩; refine Hd.out ?_)
  obtain ⟨W3, hW3⟩ : ∃ W, W2.ext u3 = W := ⟨_, rfl⟩
  have HB3 := hide (show Below w.heap.size w W3 by rw [← hW3]; exact HB2.out.ext HB2.out.size u3)
  rw [hW3]
  clear hW3 HB2
  refine hide ?_
  go_wp2_with (go_at_call 20; (with_reducible refine (HR.out _ _).mono ?_); rintro e _ ⟨rfl, u4, rfl⟩; refine Hd.out ?_)
  obtain ⟨W4, hW4⟩ : ∃ W, W3.ext u4 = W := ⟨_, rfl⟩
  have HB4 := hide (show Below w.heap.size w W4 by rw [← hW4]; exact HB3.out.ext HB3.out.size u4)
  rw [hW4]
  clear hW4 HB3
  refine hide ?_
  go_wp2_with (go_at_call 20; (with_reducible refine (HR.out _ _).mono ?_); rintro e _ ⟨rfl, u5, rfl⟩; refine Hd.out ?_)
  obtain ⟨W5, hW5⟩ : ∃ W, W4.ext u5 = W := ⟨_, rfl⟩
  have HB5 := hide (show Below w.heap.size w W5 by rw [← hW5]; exact HB4.out.ext HB4.out.size u5)
  rw [hW5]
  clear hW5 HB4
  refine hide ?_
  go_wp2_with (go_at_call 22; (with_reducible refine (HO.out _ _ _ _ _).mono ?_); rintro e _ ⟨rfl, u6, rfl⟩; refine Hd.out ?_)
  obtain ⟨W6, hW6⟩ : ∃ W, W5.ext u6 = W := ⟨_, rfl⟩
  have HB6 := hide (show Below w.heap.size w W6 by rw [← hW6]; exact HB5.out.ext HB5.out.size u6)
  rw [hW6]
  clear hW6 HB5
  refine hide ?_
  go_wp2_with fail
  obtain ⟨g, hg⟩ : ∃ g, W6.heap.size = g := ⟨_, rfl⟩
  obtain ⟨W7, hW7⟩ : ∃ W, W6.alloc (.cells #[.bool false, .int .i64 0, .bool false, .int .i64 1, .bool false, .int .i64 1, .bool false, .int .i64 0] 42) = W := ⟨_, rfl⟩
  have HS := hide (show Sl W7 (fun _ => True) (some ⟨g, 0, none⟩) 2 2 swapL by
    rw [← hW7]
    refine Sl.lit (us := [.bool false, .int .i64 0, .bool false, .int .i64 1, .bool false, .int .i64 1, .bool false, .int .i64 0]) (S := fun _ => True) (xs := swapL) hg.symm ?_ rfl (by omega) (fun _ _ => trivial) trivial
    exact ⟨_, _, rfl, Move.mk_ (x := ⟨⟨false, 0⟩, ⟨false, 1⟩⟩) (ini_ (k := 0) (by omega)) (ini_ (k := 1) (by omega)), _, _, rfl, Move.mk_ (x := ⟨⟨false, 1⟩, ⟨false, 0⟩⟩) (ini_ (k := 1) (by omega)) (ini_ (k := 0) (by omega)), rfl⟩)
  have HB7 := hide (show Below w.heap.size w W7 by rw [← hW7]; exact HB6.out.alloc HB6.out.size _)
  rw [hW7, hg]
  clear hW7 hg HB6
  have HRW := hide (show Calls Try.prog 8 #[.slice (some ⟨g, 0, none⟩) 2 2, .int .i64 5] W7 (RetRow26 wantL 0 W7) from swap_row ▸ swap_err ▸ rowIns_any W7 _ _ 2 2 swapL HS.out (by omega) 5 (ini_ (by omega)))
  go_wp2_with (go_at_call 8; (with_reducible refine HRW.out.mono ?_); rintro e _ ⟨A, n, c, rfl, ho, u8, rfl⟩; have HOW := hide ho; clear ho; refine Hd.out ?_)
  obtain ⟨W8, hW8⟩ : ∃ W, W7.ext u8 = W := ⟨_, rfl⟩
  rw [hW8] at HOW
  have HB8 := hide (show Below w.heap.size w W8 by rw [← hW8]; exact HB7.out.ext HB7.out.size u8)
  have HS8 := hide (show Sl W8 (fun _ => True) (some ⟨g, 0, none⟩) 2 2 swapL by rw [← hW8]; exact HS.out.ext u8)
  have hn3 : n = 3 := by obtain ⟨_, _, e⟩ := HOW.out.form; injection e
  subst hn3
  have HSW := hide (show Sl W8 (fun _ => True) A 3 c wantL from HOW.out.sl fun _ _ _ => trivial)
  rw [hW8]
  clear hW8 HOW HS HB7 HRW
  refine hide ?_
  go_wp2_with fail
  obtain ⟨g2, hg2⟩ : ∃ g, W8.heap.size = g := ⟨_, rfl⟩
  obtain ⟨W9, hW9⟩ : ∃ W, W8.alloc (.cells #[.int .i64 16, .int .i64 0, .int .i64 1, .int .i64 0, .int .i64 5, .int .i64 0, .slice none 0 0, .int .i64 0, .int .i64 15, .int .i64 1, .int .i64 0, .int .i64 0, .int .i64 0, .int .i64 0, .slice none 0 0, .int .i64 0, .int .i64 17, .int .i64 0, .int .i64 0, .int .i64 0, .int .i64 5, .int .i64 0, .slice none 0 0, .int .i64 0] 54) = W := ⟨_, rfl⟩
  have HSX := hide (show Sl W9 (fun _ => True) (some ⟨g2, 0, none⟩) 3 3 wantL by
    rw [← hW9]
    refine Sl.lit (us := [.int .i64 16, .int .i64 0, .int .i64 1, .int .i64 0, .int .i64 5, .int .i64 0, .slice none 0 0, .int .i64 0, .int .i64 15, .int .i64 1, .int .i64 0, .int .i64 0, .int .i64 0, .int .i64 0, .slice none 0 0, .int .i64 0, .int .i64 17, .int .i64 0, .int .i64 0, .int .i64 0, .int .i64 5, .int .i64 0, .slice none 0 0, .int .i64 0]) (S := fun _ => True) (xs := wantL) hg2.symm ?_ rfl (by omega) (fun _ _ => trivial) trivial
    exact ⟨_, _, rfl, Ins.flat_ (a := 16) (b := 0) (c := 1) (d := 5) (ini_ (by omega)) (ini_ (by omega)) (ini_ (by omega)) (ini_ (by omega)), _, _, rfl, Ins.flat_ (a := 15) (b := 1) (c := 0) (d := 0) (ini_ (by omega)) (ini_ (by omega)) (ini_ (by omega)) (ini_ (by omega)), _, _, rfl, Ins.flat_ (a := 17) (b := 0) (c := 0) (d := 5) (ini_ (by omega)) (ini_ (by omega)) (ini_ (by omega)) (ini_ (by omega)), rfl⟩)
  have HSV := hide (show Sl W9 (fun _ => True) A 3 c wantL by rw [← hW9]; exact HSW.out.alloc _)
  have HS9 := hide (show Sl W9 (fun _ => True) (some ⟨g, 0, none⟩) 2 2 swapL by rw [← hW9]; exact HS8.out.alloc _)
  have HB9 := hide (show Below w.heap.size w W9 by rw [← hW9]; exact HB8.out.alloc HB8.out.size _)
  have HSM := hide (sameRow_any W9 _ _ A (some ⟨g2, 0, none⟩) 3 c 3 wantL HSV.out HSX.out)
  have HRG := hide (fun u : Ext => show Calls Try.prog 17 #[.slice (some ⟨g, 0, none⟩) 2 2] (W9.ext u) (RetX (.int .i64 1) (W9.ext u)) by have h := rings_any (W9.ext u) _ _ 2 2 swapL (HS9.out.ext u) (by omega); rw [swap_rings] at h; exact h)
  rw [hW9, hg2]
  clear hW9 hg2 HSW HS8 HB8 HSX HSV HS9 HR HO
  go_wp2_with (first
    | (go_at_call 14; (with_reducible refine HSM.out.mono ?_); rintro e _ ⟨rfl, u9, rfl⟩)
    | (go_at_call 17; (with_reducible refine (HRG.out _).mono ?_); rintro e _ ⟨rfl, u10, rfl⟩))
  go_ret
  exact RetX.b rfl (HB9.out.ext HB9.out.size u9 |>.ext (by rw [size_ext]; have := HB9.out.size; omega) u10)
end Go.Proofs.Ytoghikagooegbaa
