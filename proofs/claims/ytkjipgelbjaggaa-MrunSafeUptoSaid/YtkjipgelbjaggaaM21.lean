/- Walk: (mir.frame).term. -/
import Derived.Test.YtkjipgelbjaggaaM09
import Derived.Test.YtkjipgelbjaggaaM15
set_option linter.unusedSimpArgs false
set_option linter.unusedVariables false
namespace Go.Proofs.Ytkjipgelbjaggaa
open Go.RowKit
theorem sl_cells {w : World} {g off n c : Nat} (xs : List Int) (hn : xs.length = n) (hc : n ≤ c) (hm : c ≤ 9223372036854775807) (hg : g < w.heap.size) (h : ∀ i x, xs[i]? = some x → InI x ∧ w.cell? ⟨g, off + i, none⟩ = some (.int .i64 x)) :
    Sl w (fun _ => True) (some ⟨g, off, none⟩) n c xs := by
  refine ⟨hn, hc, by unfold maxLen; omega, fun h => by simp at h, fun _ => ⟨g, off, rfl, hg, trivial, fun i x hx => ⟨[.int .i64 x], ⟨rfl, (h i x hx).1⟩, fun j u hj => ?_⟩⟩⟩
  cases j with
  | zero =>
    simp at hj; subst hj
    have := (h i x hx).2
    simpa [Rep.size] using this
  | succ j => simp at hj
set_option maxHeartbeats 1000000 in
set_option maxRecDepth 8000 in
theorem fterm_any (w : World) (m : Machine) (frame blocks : Int) (va vs : Value) (t : Term) (hI : InI t.a ∧ InI t.to0 ∧ InI t.to1) :
    Calls Try.prog 64 #[.agg #[.int .i64 m.regs, va, .int .i64 m.ret, vs, .int .i64 frame, .int .i64 blocks], .agg #[.int .i64 t.kind, .int .i64 t.a, .int .i64 t.to0, .int .i64 t.to1]] w (RetX (.int .i64 (termP m blocks t)) w) := by
  obtain ⟨kind, a, to0, to1⟩ := t
  obtain ⟨ha, h0, h1⟩ := hI
  simp only at ha h0 h1
  have H0 := hide h0; have H1 := hide h1; have HA := hide ha
  clear h0 h1 ha
  go_enter Try.func64, Try.ntmps64
  obtain ⟨W, hW⟩ : ∃ W, W = ((w.alloc (.cells #[.int .i64 m.regs, va, .int .i64 m.ret, vs, .int .i64 frame, .int .i64 blocks] 137)).alloc (.cells #[.int .i64 kind, .int .i64 a, .int .i64 to0, .int .i64 to1] 58)) := ⟨_, rfl⟩
  have FB := hide (show Below w.heap.size w W by subst hW; exact (by repeat (first | exact Below.refl _ _ | assumption | refine Below.alloc ?_ (by simp [size_ext]; try omega) _ | refine Below.ext ?_ (by simp [size_ext]; try omega) _ | refine Below.drew ?_ | refine Below.setCell ?_ (by simp [size_ext]; try omega) _)))
  have FS := hide (show W.heap.size = w.heap.size + 1 + 1 by subst hW; simp)
  have p0 : W.cell? ⟨w.heap.size, 0, none⟩ = some (.int .i64 m.regs) := by subst hW; go_simp
  have p1 : W.cell? ⟨w.heap.size, 1, none⟩ = some va := by subst hW; go_simp
  have p2 : W.cell? ⟨w.heap.size, 2, none⟩ = some (.int .i64 m.ret) := by subst hW; go_simp
  have p3 : W.cell? ⟨w.heap.size, 3, none⟩ = some vs := by subst hW; go_simp
  have p4 : W.cell? ⟨w.heap.size, 4, none⟩ = some (.int .i64 frame) := by subst hW; go_simp
  have p5 : W.cell? ⟨w.heap.size, 5, none⟩ = some (.int .i64 blocks) := by subst hW; go_simp
  have q0 : W.cell? ⟨w.heap.size + 1, 0, none⟩ = some (.int .i64 kind) := by subst hW; go_simp
  have q1 : W.cell? ⟨w.heap.size + 1, 1, none⟩ = some (.int .i64 a) := by subst hW; go_simp
  have q2 : W.cell? ⟨w.heap.size + 1, 2, none⟩ = some (.int .i64 to0) := by subst hW; go_simp
  have q3 : W.cell? ⟨w.heap.size + 1, 3, none⟩ = some (.int .i64 to1) := by subst hW; go_simp
  have fsz : w.heap.size < W.heap.size := by have := FS.out; omega
  have fsz1 : w.heap.size + 1 < W.heap.size := by have := FS.out; omega
  have S1 := hide (show Sl W (fun _ => True) (some ⟨w.heap.size + 1, 3, none⟩) 1 1 [to1] from sl_cells [to1] rfl (by decide) (by decide) fsz1 (fun i x hx => by cases i with | zero => simp at hx; subst hx; exact ⟨H1.out, q3⟩ | succ i => simp at hx))
  have S0 := hide (show Sl W (fun _ => True) (some ⟨w.heap.size + 1, 2, none⟩) 1 2 [to0] from sl_cells [to0] rfl (by decide) (by decide) fsz1 (fun i x hx => by cases i with | zero => simp at hx; subst hx; exact ⟨H0.out, q2⟩ | succ i => simp at hx))
  have S2 := hide (show Sl W (fun _ => True) (some ⟨w.heap.size + 1, 2, none⟩) 2 2 [to0, to1] from sl_cells [to0, to1] rfl (by decide) (by decide) fsz1 (fun i x hx => by
    match i with
    | 0 => simp at hx; subst hx; exact ⟨H0.out, q2⟩
    | 1 => simp at hx; subst hx; exact ⟨H1.out, q3⟩
    | i + 2 => simp at hx))
  have SE := hide (show ∀ o c, c ≤ 9223372036854775807 → Sl W (fun _ => True) (some ⟨w.heap.size + 1, o, none⟩) 0 c ([] : List Int) from fun o c hc => sl_cells [] rfl (by omega) hc fsz1 (fun i x hx => by simp at hx))
  have SA := hide (show Sl (W.alloc (.cells #[.int .i64 a] 3)) (fun _ => True) (some ⟨w.heap.size + 1 + 1, 0, none⟩) 1 1 [a] from Sl.lit (us := [.int .i64 a]) FS.out.symm (RepL.ints (S := fun _ => True) [a] (by intro x hx; simp at hx; subst hx; exact HA.out)) rfl (by decide) (fun _ _ => trivial) trivial)
  have H := hide hW
  clear hW
  by_cases k1 : kind = 1
  · subst k1
    by_cases ha : a = 0
    · subst ha
      go_wp2_with fail
      rw [← H.out]
      go_wp2_with (first | (go_at_call 51; refine (containsFunc_any _ _ _ 1 1 [to1] (fun r => r != 0) 86 #[] S1.out enter_term1 (fun x _ => term1_any _ x)).mono ?_; rintro e w' ⟨rfl, rfl⟩) | (go_at_call 87; refine (to_any _ _ m frame blocks va vs _ 1 2 [to0] S0.out).mono ?_; rintro e _ ⟨rfl, ux, rfl⟩))
      · rename_i e; go_ret; exact RetX.i (by simp [anyF] at e; simp [termP, e]) (by repeat (first | exact Below.refl _ _ | assumption | exact Hd.out (by assumption) | refine Below.alloc ?_ (by first | omega | (simp [size_ext]; try omega)) _ | refine Below.ext ?_ (by first | omega | (simp [size_ext]; try omega)) _ | refine Below.drew ?_ | refine Below.setCell ?_ (by first | omega | (simp [size_ext]; try omega)) _))
      · rename_i e' _ _ e; go_ret; exact RetX.i (by simp [anyF] at e e'; simp [termP, e, e']) (by repeat (first | exact Below.refl _ _ | assumption | exact Hd.out (by assumption) | refine Below.alloc ?_ (by first | omega | (simp [size_ext]; try omega)) _ | refine Below.ext ?_ (by first | omega | (simp [size_ext]; try omega)) _ | refine Below.drew ?_ | refine Below.setCell ?_ (by first | omega | (simp [size_ext]; try omega)) _))
      · rename_i e' e; go_ret; exact RetX.i (by simp [anyF] at e e'; simp [termP, e, e']) (by repeat (first | exact Below.refl _ _ | assumption | exact Hd.out (by assumption) | refine Below.alloc ?_ (by first | omega | (simp [size_ext]; try omega)) _ | refine Below.ext ?_ (by first | omega | (simp [size_ext]; try omega)) _ | refine Below.drew ?_ | refine Below.setCell ?_ (by first | omega | (simp [size_ext]; try omega)) _))
    · go_wp2_with fail
      go_ret; rw [← H.out]; exact RetX.i (by simp [termP, ha]) (by repeat (first | exact Below.refl _ _ | assumption | exact Hd.out (by assumption) | refine Below.alloc ?_ (by first | omega | (simp [size_ext]; try omega)) _ | refine Below.ext ?_ (by first | omega | (simp [size_ext]; try omega)) _ | refine Below.drew ?_ | refine Below.setCell ?_ (by first | omega | (simp [size_ext]; try omega)) _))
  by_cases k2 : kind = 2
  · subst k2
    have E4 := hide (SE.out 2 0 (by decide))
    go_wp2_with fail
    rw [← H.out]
    go_wp2_with (go_at_call 85; refine (regs_any _ _ m frame blocks va vs _ 1 1 [a] SA.out).mono ?_; rintro e _ ⟨rfl, ux, rfl⟩)
    · rename_i e; go_ret; exact RetX.i (by simp [anyF] at e; simp [termP, e]) (by repeat (first | exact Below.refl _ _ | assumption | exact Hd.out (by assumption) | refine Below.alloc ?_ (by first | omega | (simp [size_ext]; try omega)) _ | refine Below.ext ?_ (by first | omega | (simp [size_ext]; try omega)) _ | refine Below.drew ?_ | refine Below.setCell ?_ (by first | omega | (simp [size_ext]; try omega)) _))
    · rename_i e
      have e' : regBad m a = false := by simpa [anyF] using e
      have E' := hide e'
      clear e e'
      refine wp_region_ext (by kernel_rfl) (by kernel_rfl) ?_
      repeat (any_goals (first | go_big_quiet_step ((fail)) | quiet_step ((fail))))
      refine wpQuiet_nil ?_
      rintro _ ⟨uq, rfl⟩
      obtain ⟨W2, hW2⟩ : ∃ W2, W2 = ((W.alloc (Obj.cells #[.int .i64 a] 3)).ext ux).ext uq := ⟨_, rfl⟩
      have FB2 := hide (show Below w.heap.size w W2 by subst hW2; exact (by repeat (first | exact Below.refl _ _ | assumption | exact Hd.out (by assumption) | refine Below.alloc ?_ (by first | omega | (simp [size_ext]; try omega)) _ | refine Below.ext ?_ (by first | omega | (simp [size_ext]; try omega)) _ | refine Below.drew ?_ | refine Below.setCell ?_ (by first | omega | (simp [size_ext]; try omega)) _)))
      have FS2 := hide (show w.heap.size ≤ W2.heap.size by subst hW2; simp [size_ext]; omega)
      have z0 : W2.cell? ⟨w.heap.size, 0, none⟩ = some (.int .i64 m.regs) := by subst hW2; go_simp
      have z1 : W2.cell? ⟨w.heap.size, 1, none⟩ = some va := by subst hW2; go_simp
      have z2 : W2.cell? ⟨w.heap.size, 2, none⟩ = some (.int .i64 m.ret) := by subst hW2; go_simp
      have z3 : W2.cell? ⟨w.heap.size, 3, none⟩ = some vs := by subst hW2; go_simp
      have z4 : W2.cell? ⟨w.heap.size, 4, none⟩ = some (.int .i64 frame) := by subst hW2; go_simp
      have z5 : W2.cell? ⟨w.heap.size, 5, none⟩ = some (.int .i64 blocks) := by subst hW2; go_simp
      have s2 := hide (show Sl W2 (fun _ => True) (some ⟨w.heap.size + 1, 2, none⟩) 2 2 [to0, to1] by subst hW2; exact (by repeat (first | assumption | exact Hd.out (by assumption) | apply Sl.alloc | apply Sl.ext | apply Sl.drew | apply Sl.drewN)))
      have s4 := hide (show Sl W2 (fun _ => True) (some ⟨w.heap.size + 1, 2, none⟩) 0 0 ([] : List Int) by subst hW2; exact (by repeat (first | assumption | exact Hd.out (by assumption) | apply Sl.alloc | apply Sl.ext | apply Sl.drew | apply Sl.drewN)))
      rw [← hW2]
      clear hW2
      have fs2 := FS2.out
      go_wp2_with (first | (go_at_call 51; refine (containsFunc_any _ _ _ 0 0 [] (fun r => r != 0) 86 #[] s4.out enter_term1 (fun x _ => term1_any _ x)).mono ?_; rintro e w' ⟨rfl, rfl⟩) | (go_at_call 87; refine (to_any _ _ m frame blocks va vs _ 2 2 [to0, to1] s2.out).mono ?_; rintro e _ ⟨rfl, ux, rfl⟩))
      all_goals (first
        | (rename_i e; exfalso; simp [anyF] at e; done)
        | (rename_i e; go_ret; exact RetX.i (by simp [anyF] at e; simp [termP, E'.out, e]) (by repeat (first | exact Below.refl _ _ | assumption | exact Hd.out (by assumption) | refine Below.alloc ?_ (by first | omega | (simp [size_ext]; try omega)) _ | refine Below.ext ?_ (by first | omega | (simp [size_ext]; try omega)) _ | refine Below.drew ?_ | refine Below.setCell ?_ (by first | omega | (simp [size_ext]; try omega)) _))))
  by_cases k3 : kind = 3
  · subst k3
    go_wp2_with fail
    · rename_i e; go_ret; rw [← H.out]; exact RetX.i (by simp at e; rcases e with e | e <;> simp [termP, e]) (by repeat (first | exact Below.refl _ _ | assumption | exact Hd.out (by assumption) | refine Below.alloc ?_ (by first | omega | (simp [size_ext]; try omega)) _ | refine Below.ext ?_ (by first | omega | (simp [size_ext]; try omega)) _ | refine Below.drew ?_ | refine Below.setCell ?_ (by first | omega | (simp [size_ext]; try omega)) _))
    · rename_i e' e; subst e; go_ret; rw [← H.out]; exact RetX.i (by simp at e'; simp [termP, e']) (by repeat (first | exact Below.refl _ _ | assumption | exact Hd.out (by assumption) | refine Below.alloc ?_ (by first | omega | (simp [size_ext]; try omega)) _ | refine Below.ext ?_ (by first | omega | (simp [size_ext]; try omega)) _ | refine Below.drew ?_ | refine Below.setCell ?_ (by first | omega | (simp [size_ext]; try omega)) _))
    · rename_i e'' _ _ e' e; go_ret; rw [← H.out]; exact RetX.i (by simp at e'' e; simp [termP, e, e'']) (by repeat (first | exact Below.refl _ _ | assumption | exact Hd.out (by assumption) | refine Below.alloc ?_ (by first | omega | (simp [size_ext]; try omega)) _ | refine Below.ext ?_ (by first | omega | (simp [size_ext]; try omega)) _ | refine Below.drew ?_ | refine Below.setCell ?_ (by first | omega | (simp [size_ext]; try omega)) _))
    · rename_i e'' e' e; go_ret; rw [← H.out]; exact RetX.i (by simp at e'' e; simp [termP, e'', e']; omega) (by repeat (first | exact Below.refl _ _ | assumption | exact Hd.out (by assumption) | refine Below.alloc ?_ (by first | omega | (simp [size_ext]; try omega)) _ | refine Below.ext ?_ (by first | omega | (simp [size_ext]; try omega)) _ | refine Below.drew ?_ | refine Below.setCell ?_ (by first | omega | (simp [size_ext]; try omega)) _))
  by_cases k4 : kind = 4
  · subst k4
    have E2 := hide (SE.out 2 2 (by decide))
    by_cases ha : a = 0
    · subst ha
      go_wp2_with fail
      rw [← H.out]
      go_wp2_with (first | (go_at_call 51; refine (containsFunc_any _ _ _ 2 2 [to0, to1] (fun r => r != 0) 86 #[] S2.out enter_term1 (fun x _ => term1_any _ x)).mono ?_; rintro e w' ⟨rfl, rfl⟩) | (go_at_call 87; refine (to_any _ _ m frame blocks va vs _ 0 2 [] E2.out).mono ?_; rintro e _ ⟨rfl, ux, rfl⟩))
      all_goals (first
        | (rename_i e; exfalso; simp [anyF] at e; done)
        | (rename_i e e'; go_ret; exact RetX.i (by simp [anyF] at e; simp [termP, e]) (by repeat (first | exact Below.refl _ _ | assumption | exact Hd.out (by assumption) | refine Below.alloc ?_ (by first | omega | (simp [size_ext]; try omega)) _ | refine Below.ext ?_ (by first | omega | (simp [size_ext]; try omega)) _ | refine Below.drew ?_ | refine Below.setCell ?_ (by first | omega | (simp [size_ext]; try omega)) _)))
        | (rename_i e; go_ret; exact RetX.i (by simp [anyF] at e; rcases Classical.em (to0 = 0) with h | h <;> simp [termP, e, h]; omega) (by repeat (first | exact Below.refl _ _ | assumption | exact Hd.out (by assumption) | refine Below.alloc ?_ (by first | omega | (simp [size_ext]; try omega)) _ | refine Below.ext ?_ (by first | omega | (simp [size_ext]; try omega)) _ | refine Below.drew ?_ | refine Below.setCell ?_ (by first | omega | (simp [size_ext]; try omega)) _)))
        | (rename_i e; go_ret; exact RetX.i (by simp [anyF] at e; rcases Classical.em (to0 = 0) with h | h <;> simp [termP, e, h]) (by repeat (first | exact Below.refl _ _ | assumption | exact Hd.out (by assumption) | refine Below.alloc ?_ (by first | omega | (simp [size_ext]; try omega)) _ | refine Below.ext ?_ (by first | omega | (simp [size_ext]; try omega)) _ | refine Below.drew ?_ | refine Below.setCell ?_ (by first | omega | (simp [size_ext]; try omega)) _))))
    · go_wp2_with fail
      go_ret; rw [← H.out]; exact RetX.i (by simp [termP, ha]) (by repeat (first | exact Below.refl _ _ | assumption | exact Hd.out (by assumption) | refine Below.alloc ?_ (by first | omega | (simp [size_ext]; try omega)) _ | refine Below.ext ?_ (by first | omega | (simp [size_ext]; try omega)) _ | refine Below.drew ?_ | refine Below.setCell ?_ (by first | omega | (simp [size_ext]; try omega)) _))
  · go_wp2_with fail
    go_ret; rw [← H.out]; exact RetX.i (by simp [termP, k1, k2, k3, k4]) (by repeat (first | exact Below.refl _ _ | assumption | exact Hd.out (by assumption) | refine Below.alloc ?_ (by first | omega | (simp [size_ext]; try omega)) _ | refine Below.ext ?_ (by first | omega | (simp [size_ext]; try omega)) _ | refine Below.drew ?_ | refine Below.setCell ?_ (by first | omega | (simp [size_ext]; try omega)) _))
end Go.Proofs.Ytkjipgelbjaggaa
