/- Walks: law 26: an instruction is done. -/
import Derived.Test.YtoghikagooegbaaMV12
set_option linter.unusedSimpArgs false
set_option linter.unusedVariables false
namespace Go.Proofs.Ytoghikagooegbaa
open Go.RowKit Go.Maps

def RetDoes (g : Nat) (f : Nat → Int) (w : World) (e : Ending) (w' : World) : Prop := e = .returned (.bool true) ∧ MachAt w' g f ∧ w.grownBy w' (some g)
theorem grown_of_ext {w : World} (u : Ext) (row : Option Nat) : w.grownBy (w.ext u) row := rowF_ext w u (World.grownBy.refl w row)
set_option maxRecDepth 100000 in
set_option maxHeartbeats 4000000 in
theorem doesMove_any (w : World) (g : Nat) (f : Nat → Int) (h : MachAt w g f) (d a : Nat) (hd : d < 64) (ha : a < 64) (A : Option Addr) (n c : Nat) :
    Calls Try.prog 24 #[.pointer (some ⟨g, 0, none⟩), .agg #[.int .i64 15, .int .i64 d, .int .i64 a, .int .i64 0, .int .i64 0, .int .i64 0, .slice A n c, .int .i64 0]] w (RetDoes g (setN f (d) (f (a))) w) := by
  have HM := hide h
  have hgl := h.lt
  clear h
  have pd1 : decide ((d : Int) < 0) = false := by simp
  have pd2 : decide ((63 : Int) < d) = false := by simp; omega
  have pd3 : (0 : Int) ≤ d := by omega
  have pd4 : (d : Int) < 64 := by omega
  have pa1 : decide ((a : Int) < 0) = false := by simp
  have pa2 : decide ((63 : Int) < a) = false := by simp; omega
  have pa3 : (0 : Int) ≤ a := by omega
  have pa4 : (a : Int) < 64 := by omega
  obtain ⟨gb, hgb⟩ : ∃ gb, w.heap.size = gb := ⟨_, rfl⟩
  go_enter Try.func24, Try.ntmps24
  go_wp2_with fail
  obtain ⟨W, hW⟩ : ∃ W, w.alloc (.cells #[.int .i64 15, .int .i64 d, .int .i64 a, .int .i64 0, .int .i64 0, .int .i64 0, .slice A n c, .int .i64 0] 54) = W := ⟨_, rfl⟩
  have HMW := hide (show MachAt W g f by rw [← hW]; exact HM.out.keep (Below.heap_alloc _ _ _ hgl))
  have hrow : W.heap[gb]? = some (.cells #[.int .i64 15, .int .i64 d, .int .i64 a, .int .i64 0, .int .i64 0, .int .i64 0, .slice A n c, .int .i64 0] 54 (0, 0)) := by rw [← hW, ← hgb]; exact heap_alloc_new w _
  have HGW := hide (show w.grownBy W (some g) by rw [← hW]; exact ⟨rfl, rfl, rfl, by simp, fun i hi _ => Below.heap_alloc w _ i hi⟩)
  have hgbW : gb < W.heap.size := (Array.getElem?_eq_some_iff.1 hrow).1
  have hgW : g < W.heap.size := by have := HGW.out.size; omega
  have x0 : W.cell? ⟨gb, 0, none⟩ = some (.int .i64 15) := cell_of_row W _ _ _ _ (0, 0) hrow
  have x1 : W.cell? ⟨gb, 1, none⟩ = some (.int .i64 d) := cell_of_row W _ _ _ _ (0, 0) hrow
  have x2 : W.cell? ⟨gb, 2, none⟩ = some (.int .i64 a) := cell_of_row W _ _ _ _ (0, 0) hrow
  have x4 : W.cell? ⟨gb, 4, none⟩ = some (.int .i64 0) := cell_of_row W _ _ _ _ (0, 0) hrow
  have y0 := HMW.out.cell (i := a) (by omega)
  rw [hW]
  clear hW hrow HM
  refine wp_region_last_ext [] [] 13 (by kernel_rfl) rfl rfl rfl (by kernel_rfl) (by kernel_rfl) ?_
  simp only [List.take_succ_cons, List.take_zero]
  repeat (refine flow_known (by kernel_rfl) (fun K hK => ?_); go_simp; (first | (refine hK _ ?_; clear hK K) | (apply Exists.intro; refine ⟨fun _ => ?_, hK _ ?_⟩; (fail); clear hK K)))
  refine flow_done [] (by kernel_rfl) ?_
  intro u
  simp only [List.nil_append, List.cons_append, endH_f, endH_t, endH_nil]
  have HM2 := hide (HMW.out.ext u)
  have HG2 := hide (HGW.out.trans (grown_of_ext u (some g)))
  obtain ⟨W2, hW2⟩ : ∃ V, W.ext u = V := ⟨_, rfl⟩
  rw [hW2] at HM2 HG2 ⊢
  clear hW2 HMW HGW x0 x1 x2 x4 y0
  have d0 := HM2.out.cell (i := d) (by omega)
  have f0 := HM2.out.frozen (d)
  go_simp
  go_wp2_with fail
  go_ret
  exact ⟨rfl, HM2.out.set (by omega) _, HG2.out.trans (grown_setCell _ _ _ _)⟩
set_option maxRecDepth 100000 in
set_option maxHeartbeats 4000000 in
theorem doesPut_any (w : World) (g : Nat) (f : Nat → Int) (h : MachAt w g f) (a m : Nat) (ha : a < 64) (hm : m < 400) (A : Option Addr) (n c : Nat) :
    Calls Try.prog 24 #[.pointer (some ⟨g, 0, none⟩), .agg #[.int .i64 16, .int .i64 0, .int .i64 a, .int .i64 0, .int .i64 m, .int .i64 0, .slice A n c, .int .i64 0]] w (RetDoes g (setN f (64 + m) (f (a))) w) := by
  have HM := hide h
  have hgl := h.lt
  clear h
  have pa1 : decide ((a : Int) < 0) = false := by simp
  have pa2 : decide ((63 : Int) < a) = false := by simp; omega
  have pa3 : (0 : Int) ≤ a := by omega
  have pa4 : (a : Int) < 64 := by omega
  have pm1 : decide ((m : Int) < 0) = false := by simp
  have pm2 : decide ((399 : Int) < m) = false := by simp; omega
  have pm3 : (0 : Int) ≤ m := by omega
  have pm4 : (m : Int) < 400 := by omega
  obtain ⟨gb, hgb⟩ : ∃ gb, w.heap.size = gb := ⟨_, rfl⟩
  go_enter Try.func24, Try.ntmps24
  go_wp2_with fail
  obtain ⟨W, hW⟩ : ∃ W, w.alloc (.cells #[.int .i64 16, .int .i64 0, .int .i64 a, .int .i64 0, .int .i64 m, .int .i64 0, .slice A n c, .int .i64 0] 54) = W := ⟨_, rfl⟩
  have HMW := hide (show MachAt W g f by rw [← hW]; exact HM.out.keep (Below.heap_alloc _ _ _ hgl))
  have hrow : W.heap[gb]? = some (.cells #[.int .i64 16, .int .i64 0, .int .i64 a, .int .i64 0, .int .i64 m, .int .i64 0, .slice A n c, .int .i64 0] 54 (0, 0)) := by rw [← hW, ← hgb]; exact heap_alloc_new w _
  have HGW := hide (show w.grownBy W (some g) by rw [← hW]; exact ⟨rfl, rfl, rfl, by simp, fun i hi _ => Below.heap_alloc w _ i hi⟩)
  have hgbW : gb < W.heap.size := (Array.getElem?_eq_some_iff.1 hrow).1
  have hgW : g < W.heap.size := by have := HGW.out.size; omega
  have x0 : W.cell? ⟨gb, 0, none⟩ = some (.int .i64 16) := cell_of_row W _ _ _ _ (0, 0) hrow
  have x1 : W.cell? ⟨gb, 1, none⟩ = some (.int .i64 0) := cell_of_row W _ _ _ _ (0, 0) hrow
  have x2 : W.cell? ⟨gb, 2, none⟩ = some (.int .i64 a) := cell_of_row W _ _ _ _ (0, 0) hrow
  have x4 : W.cell? ⟨gb, 4, none⟩ = some (.int .i64 m) := cell_of_row W _ _ _ _ (0, 0) hrow
  have y0 := HMW.out.cell (i := a) (by omega)
  rw [hW]
  clear hW hrow HM
  refine wp_region_last_ext [] [] 13 (by kernel_rfl) rfl rfl rfl (by kernel_rfl) (by kernel_rfl) ?_
  simp only [List.take_succ_cons, List.take_zero]
  repeat (refine flow_known (by kernel_rfl) (fun K hK => ?_); go_simp; (first | (refine hK _ ?_; clear hK K) | (apply Exists.intro; refine ⟨fun _ => ?_, hK _ ?_⟩; (fail); clear hK K)))
  refine flow_done [] (by kernel_rfl) ?_
  intro u
  simp only [List.nil_append, List.cons_append, endH_f, endH_t, endH_nil]
  have HM2 := hide (HMW.out.ext u)
  have HG2 := hide (HGW.out.trans (grown_of_ext u (some g)))
  obtain ⟨W2, hW2⟩ : ∃ V, W.ext u = V := ⟨_, rfl⟩
  rw [hW2] at HM2 HG2 ⊢
  clear hW2 HMW HGW x0 x1 x2 x4 y0
  have d0 := HM2.out.cell (i := 64 + m) (by omega)
  have f0 := HM2.out.frozen (64 + m)
  go_simp
  go_wp2_with fail
  go_ret
  exact ⟨rfl, HM2.out.set (by omega) _, HG2.out.trans (grown_setCell _ _ _ _)⟩
set_option maxRecDepth 100000 in
set_option maxHeartbeats 4000000 in
theorem doesGet_any (w : World) (g : Nat) (f : Nat → Int) (h : MachAt w g f) (d m : Nat) (hd : d < 64) (hm : m < 400) (A : Option Addr) (n c : Nat) :
    Calls Try.prog 24 #[.pointer (some ⟨g, 0, none⟩), .agg #[.int .i64 17, .int .i64 d, .int .i64 0, .int .i64 0, .int .i64 m, .int .i64 0, .slice A n c, .int .i64 0]] w (RetDoes g (setN f (d) (f (64 + m))) w) := by
  have HM := hide h
  have hgl := h.lt
  clear h
  have pd1 : decide ((d : Int) < 0) = false := by simp
  have pd2 : decide ((63 : Int) < d) = false := by simp; omega
  have pd3 : (0 : Int) ≤ d := by omega
  have pd4 : (d : Int) < 64 := by omega
  have pm1 : decide ((m : Int) < 0) = false := by simp
  have pm2 : decide ((399 : Int) < m) = false := by simp; omega
  have pm3 : (0 : Int) ≤ m := by omega
  have pm4 : (m : Int) < 400 := by omega
  obtain ⟨gb, hgb⟩ : ∃ gb, w.heap.size = gb := ⟨_, rfl⟩
  go_enter Try.func24, Try.ntmps24
  go_wp2_with fail
  obtain ⟨W, hW⟩ : ∃ W, w.alloc (.cells #[.int .i64 17, .int .i64 d, .int .i64 0, .int .i64 0, .int .i64 m, .int .i64 0, .slice A n c, .int .i64 0] 54) = W := ⟨_, rfl⟩
  have HMW := hide (show MachAt W g f by rw [← hW]; exact HM.out.keep (Below.heap_alloc _ _ _ hgl))
  have hrow : W.heap[gb]? = some (.cells #[.int .i64 17, .int .i64 d, .int .i64 0, .int .i64 0, .int .i64 m, .int .i64 0, .slice A n c, .int .i64 0] 54 (0, 0)) := by rw [← hW, ← hgb]; exact heap_alloc_new w _
  have HGW := hide (show w.grownBy W (some g) by rw [← hW]; exact ⟨rfl, rfl, rfl, by simp, fun i hi _ => Below.heap_alloc w _ i hi⟩)
  have hgbW : gb < W.heap.size := (Array.getElem?_eq_some_iff.1 hrow).1
  have hgW : g < W.heap.size := by have := HGW.out.size; omega
  have x0 : W.cell? ⟨gb, 0, none⟩ = some (.int .i64 17) := cell_of_row W _ _ _ _ (0, 0) hrow
  have x1 : W.cell? ⟨gb, 1, none⟩ = some (.int .i64 d) := cell_of_row W _ _ _ _ (0, 0) hrow
  have x2 : W.cell? ⟨gb, 2, none⟩ = some (.int .i64 0) := cell_of_row W _ _ _ _ (0, 0) hrow
  have x4 : W.cell? ⟨gb, 4, none⟩ = some (.int .i64 m) := cell_of_row W _ _ _ _ (0, 0) hrow
  have y0 := HMW.out.cell (i := 64 + m) (by omega)
  rw [hW]
  clear hW hrow HM
  refine wp_region_last_ext [] [] 13 (by kernel_rfl) rfl rfl rfl (by kernel_rfl) (by kernel_rfl) ?_
  simp only [List.take_succ_cons, List.take_zero]
  repeat (refine flow_known (by kernel_rfl) (fun K hK => ?_); go_simp; (first | (refine hK _ ?_; clear hK K) | (apply Exists.intro; refine ⟨fun _ => ?_, hK _ ?_⟩; (fail); clear hK K)))
  refine flow_done [] (by kernel_rfl) ?_
  intro u
  simp only [List.nil_append, List.cons_append, endH_f, endH_t, endH_nil]
  have HM2 := hide (HMW.out.ext u)
  have HG2 := hide (HGW.out.trans (grown_of_ext u (some g)))
  obtain ⟨W2, hW2⟩ : ∃ V, W.ext u = V := ⟨_, rfl⟩
  rw [hW2] at HM2 HG2 ⊢
  clear hW2 HMW HGW x0 x1 x2 x4 y0
  have d0 := HM2.out.cell (i := d) (by omega)
  have f0 := HM2.out.frozen (d)
  go_simp
  go_wp2_with fail
  go_ret
  exact ⟨rfl, HM2.out.set (by omega) _, HG2.out.trans (grown_setCell _ _ _ _)⟩
end Go.Proofs.Ytoghikagooegbaa
