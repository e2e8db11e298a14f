/- Walk: a run does an end. -/
import Derived.Test.YtkjipgelbjaggaaM29
set_option linter.unusedSimpArgs false
set_option linter.unusedVariables false
namespace Go.Proofs.Ytkjipgelbjaggaa
open Go.RowKit Go.Maps
section
variable (w : World) (base X K : Nat) (q : RunM) (r : RunS) (h : RunAt w base X K q r) (t : Term) (ia : InI t.a)
include h ia
set_option maxHeartbeats 4000000 in
set_option maxRecDepth 8000 in
theorem term9_any : Calls Try.prog 47 #[.pointer (some ⟨X, 0, none⟩), .agg #[.int .i64 t.kind, .int .i64 t.a, .int .i64 t.to0, .int .i64 t.to1]] w (RetX (nxtV (termR9 r t)) w) := by
  have HR := hide h
  have IA := hide ia
  obtain ⟨N, hN⟩ : ∃ N, N = (needsP t).length := ⟨_, rfl⟩
  have HN := hide hN
  clear h ia hN
  go_enter Try.func47, Try.ntmps47
  go_wp2_with fail
  obtain ⟨W, hW⟩ : ∃ W, W = (w.alloc (.cells #[.int .i64 t.kind, .int .i64 t.a, .int .i64 t.to0, .int .i64 t.to1] 58)) := ⟨_, rfl⟩
  have FB := hide (show Below w.heap.size w W by subst hW; exact (by repeat (first | exact Below.refl _ _ | assumption | refine Below.alloc ?_ (by simp [size_ext]; try omega) _ | refine Below.ext ?_ (by simp [size_ext]; try omega) _ | refine Below.drew ?_ | refine Below.setCell ?_ (by simp [size_ext]; try omega) _)))
  have fs := FB.out.size
  have c0 : W.cell? ⟨w.heap.size, 0, none⟩ = some (.int .i64 t.kind) := by subst hW; go_simp
  have c1 : W.cell? ⟨w.heap.size, 1, none⟩ = some (.int .i64 t.a) := by subst hW; go_simp
  have c2 : W.cell? ⟨w.heap.size, 2, none⟩ = some (.int .i64 t.to0) := by subst hW; go_simp
  have c3 : W.cell? ⟨w.heap.size, 3, none⟩ = some (.int .i64 t.to1) := by subst hW; go_simp
  have hw1 : w.heap.size < W.heap.size := by subst hW; simp
  have HRW := hide (HR.out.keep FB.out)
  rw [← hW]
  clear hW
  have k0 := HRW.out.k0; have hlt := HRW.out.lt
  obtain ⟨wc, hwc⟩ : ∃ wc, wholeC r.cells (needsP t) = wc := ⟨_, rfl⟩
  have HWC := hide hwc
  clear hwc
  have hq : ∀ u : Ext, (Instr.lookup 97 (.map (some q.bc)) (.agg #[.bool false, .int .i64 t.a]) false).run Try.prog (W.ext u) = .ok (.int .i64 ((r.cells ⟨false, t.a⟩).getD 0)) (W.ext u) := fun u =>
    MapP.get (K := locK) (E := cellE) (x := ⟨false, t.a⟩) (HRW.out.cells.ext u) Try.underlying97 IA.out
  have HQ := hide hq
  clear hq
  refine wp_region_flow_ext [] [5] (by kernel_rfl) rfl (by kernel_rfl) ?_
  repeat (refine flow_known (by kernel_rfl) (fun K hK => ?_); go_simp; (first | (refine hK _ ?_; clear hK K) | (apply Exists.intro; refine ⟨fun _ => ?_, hK _ ?_⟩; (fail); clear hK K)))
  refine flow_keep0 (SlB W.heap.size N (needsP t)) (by kernel_rfl) (SlB.stable_ rfl) ?_ ?_
  · intro u
    go_simp
    refine (needs_any _ t IA.out).mono ?_
    rintro e _ ⟨A', n', c', rfl, hs, x', rfl⟩
    have : n' = N := by rw [HN.out, hs.len]
    subst this
    exact ⟨_, rfl, ⟨A', c', rfl, hs.more fun b _ h => by simp [size_ext] at h; omega⟩, onW_ext ⟨_, rfl⟩ ⟨x', rfl⟩⟩
  refine flow_out [true] (.bool wc) (by kernel_rfl) ?_ ?_
  · intro u
    try simp only [List.nil_append, List.cons_append, useH_f, useH_t, useH_nil]
    rintro _ ⟨A', c', rfl, hs⟩
    go_simp
    rw [← HWC.out]
    exact whole_any _ q.bc K r.cells (HRW.out.cells.ext u) _ A' N c' (needsP t) hs
  repeat (refine flow_known (by kernel_rfl) (fun K hK => ?_); go_simp; (first | (refine hK _ ?_; clear hK K) | (apply Exists.intro; refine ⟨fun _ => ?_, hK _ ?_⟩; (fail); clear hK K)))
  refine flow_done [true] (by kernel_rfl) ?_
  intro u
  simp only [List.nil_append, List.cons_append, endH_f, endH_t, endH_nil]
  rintro v1 _
  go_simp
  cases wc
  · go_wp2_with (go_at_call 68; refine (broken9_any _).mono ?_; rintro e w' ⟨rfl, rfl⟩)
    go_ret
    have e : termR9 r t = .done 3 0 := by unfold termR9; rw [HWC.out]; rfl
    rw [e]
    exact ⟨rfl, Below.to_ext (by repeat (first | exact Below.refl _ _ | assumption | exact Hd.out (by assumption) | refine Below.alloc ?_ (by first | omega | (simp [size_ext]; try omega)) _ | refine Below.ext ?_ (by first | omega | (simp [size_ext]; try omega)) _ | refine Below.drew ?_ | refine Below.setCell ?_ (by first | omega | (simp [size_ext]; try omega)) _))⟩
  have HT := hide (show termR9 r t = (if t.kind = 4 then .done 2 0
    else if t.kind = 3 then (if keptR r then .done 1 ((r.cells ⟨false, t.a⟩).getD 0) else .done 3 0)
    else if t.kind = 2 ∧ (r.cells ⟨false, t.a⟩).getD 0 = 0 then .spot t.to1 0 else .spot t.to0 0) by unfold termR9; rw [HWC.out]; rfl)
  have HQu := hide (show ∀ v : Ext, (Instr.lookup 97 (.map (some q.bc)) (.agg #[.bool false, .int .i64 t.a]) false).run Try.prog ((W.ext u).ext v) = .ok (.int .i64 ((r.cells ⟨false, t.a⟩).getD 0)) ((W.ext u).ext v) from fun v =>
    MapP.get (K := locK) (E := cellE) (x := ⟨false, t.a⟩) ((HRW.out.cells.ext u).ext v) Try.underlying97 IA.out)
  clear HQ
  by_cases h4 : t.kind = 4
  · have e : termR9 r t = .done 2 0 := by rw [HT.out, if_pos h4]
    have HE := hide e
    rw [h4] at c0
    clear e h4
    go_wp2_with (go_at_call 70; refine (trap9_any _).mono ?_; rintro e w' ⟨rfl, rfl⟩)
    go_ret
    rw [HE.out]
    exact ⟨rfl, Below.to_ext (by repeat (first | exact Below.refl _ _ | assumption | exact Hd.out (by assumption) | refine Below.alloc ?_ (by first | omega | (simp [size_ext]; try omega)) _ | refine Below.ext ?_ (by first | omega | (simp [size_ext]; try omega)) _ | refine Below.drew ?_ | refine Below.setCell ?_ (by first | omega | (simp [size_ext]; try omega)) _))⟩
  have g4 : (t.kind == 4) = false := by rw [beq_eq_false_iff_ne]; exact h4
  by_cases h3 : t.kind = 3
  · rw [h3] at c0 g4
    clear g4
    cases hk : keptR r
    · have HE := hide (show termR9 r t = .done 3 0 by rw [HT.out, if_neg h4, if_pos h3, hk]; rfl)
      have HK := hide fun (V : World) (hV : Below w.heap.size w V) => (show Calls Try.prog 71 #[.pointer (some ⟨X, 0, none⟩)] V (RetX (.bool false) V) from hk ▸ kept9_any V base X K q r (HR.out.keep hV))
      clear hk h3 h4
      go_wp2_with (first | (go_at_call 71; refine (HK.out _ (by repeat (first | exact Below.refl _ _ | assumption | exact Hd.out (by assumption) | refine Below.alloc ?_ (by first | omega | (simp [size_ext]; try omega)) _ | refine Below.ext ?_ (by first | omega | (simp [size_ext]; try omega)) _ | refine Below.drew ?_ | refine Below.setCell ?_ (by first | omega | (simp [size_ext]; try omega)) _))).mono ?_; rintro e _ ⟨rfl, ux, rfl⟩) | (go_at_call 68; refine (broken9_any _).mono ?_; rintro e w' ⟨rfl, rfl⟩))
      go_ret
      rw [HE.out]
      exact ⟨rfl, Below.to_ext (by repeat (first | exact Below.refl _ _ | assumption | exact Hd.out (by assumption) | refine Below.alloc ?_ (by first | omega | (simp [size_ext]; try omega)) _ | refine Below.ext ?_ (by first | omega | (simp [size_ext]; try omega)) _ | refine Below.drew ?_ | refine Below.setCell ?_ (by first | omega | (simp [size_ext]; try omega)) _))⟩
    · have HE := hide (show termR9 r t = .done 1 ((r.cells ⟨false, t.a⟩).getD 0) by rw [HT.out, if_neg h4, if_pos h3, hk]; rfl)
      have HK := hide fun (V : World) (hV : Below w.heap.size w V) => (show Calls Try.prog 71 #[.pointer (some ⟨X, 0, none⟩)] V (RetX (.bool true) V) from hk ▸ kept9_any V base X K q r (HR.out.keep hV))
      clear hk h3 h4
      go_wp2_with (first | (go_at_call 71; refine (HK.out _ (by repeat (first | exact Below.refl _ _ | assumption | exact Hd.out (by assumption) | refine Below.alloc ?_ (by first | omega | (simp [size_ext]; try omega)) _ | refine Below.ext ?_ (by first | omega | (simp [size_ext]; try omega)) _ | refine Below.drew ?_ | refine Below.setCell ?_ (by first | omega | (simp [size_ext]; try omega)) _))).mono ?_; rintro e _ ⟨rfl, ux, rfl⟩))
      obtain ⟨y, hy⟩ := ext_ext W u ux
      rw [hy]
      have hq3 : ∀ v : Ext, (Instr.lookup 97 (.map (some q.bc)) (.agg #[.bool false, .int .i64 t.a]) false).run Try.prog ((W.ext y).ext v) = .ok (.int .i64 ((r.cells ⟨false, t.a⟩).getD 0)) ((W.ext y).ext v) := fun v =>
        MapP.get (K := locK) (E := cellE) (x := ⟨false, t.a⟩) ((HRW.out.cells.ext y).ext v) Try.underlying97 IA.out
      clear hy
      refine wp_region_ext (by kernel_rfl) (by kernel_rfl) ?_
      repeat (any_goals (first | go_big_quiet_step (((go_at_call 42; exact quiet_retx (reg9_any _ _)))) | quiet_step (((go_at_call 42; exact quiet_retx (reg9_any _ _))))))
      refine wpQuiet_nil ?_
      rintro _ ⟨uq, rfl⟩
      go_wp2_with fail
      go_ret
      rw [HE.out]
      exact ⟨rfl, Below.to_ext (by repeat (first | exact Below.refl _ _ | assumption | exact Hd.out (by assumption) | refine Below.alloc ?_ (by first | omega | (simp [size_ext]; try omega)) _ | refine Below.ext ?_ (by first | omega | (simp [size_ext]; try omega)) _ | refine Below.drew ?_ | refine Below.setCell ?_ (by first | omega | (simp [size_ext]; try omega)) _))⟩
  have g3 : (t.kind == 3) = false := by rw [beq_eq_false_iff_ne]; exact h3
  by_cases h2 : t.kind = 2
  · rw [h2] at c0 g3 g4
    clear g3 g4
    have hq3 := HQu.out
    obtain ⟨z, hz⟩ : ∃ z, (r.cells ⟨false, t.a⟩).getD 0 = z := ⟨_, rfl⟩
    rw [hz] at hq3
    by_cases h0 : z = 0
    · have HE := hide (show termR9 r t = .spot t.to1 0 by rw [HT.out, if_neg h4, if_neg h3, if_pos ⟨h2, by rw [hz, h0]⟩])
      rw [h0] at hq3
      clear h0 h2 h3 h4 hz
      go_wp2_with fail
      refine wp_region_ext (by kernel_rfl) (by kernel_rfl) ?_
      repeat (any_goals (first | go_big_quiet_step (((go_at_call 42; exact quiet_retx (reg9_any _ _)))) | quiet_step (((go_at_call 42; exact quiet_retx (reg9_any _ _))))))
      refine wpQuiet_nil ?_
      rintro _ ⟨uq, rfl⟩
      go_wp2_with fail
      go_ret
      rw [HE.out]
      exact ⟨rfl, Below.to_ext (by repeat (first | exact Below.refl _ _ | assumption | exact Hd.out (by assumption) | refine Below.alloc ?_ (by first | omega | (simp [size_ext]; try omega)) _ | refine Below.ext ?_ (by first | omega | (simp [size_ext]; try omega)) _ | refine Below.drew ?_ | refine Below.setCell ?_ (by first | omega | (simp [size_ext]; try omega)) _))⟩
    · have HE := hide (show termR9 r t = .spot t.to0 0 by rw [HT.out, if_neg h4, if_neg h3, if_neg (fun e => h0 (by rw [← hz]; exact e.2))])
      have g0 : (z == 0) = false := by rw [beq_eq_false_iff_ne]; exact h0
      clear h0 h2 h3 h4 hz
      go_wp2_with fail
      refine wp_region_ext (by kernel_rfl) (by kernel_rfl) ?_
      repeat (any_goals (first | go_big_quiet_step (((go_at_call 42; exact quiet_retx (reg9_any _ _)))) | quiet_step (((go_at_call 42; exact quiet_retx (reg9_any _ _))))))
      refine wpQuiet_nil ?_
      rintro _ ⟨uq, rfl⟩
      go_wp2_with fail
      go_ret
      rw [HE.out]
      exact ⟨rfl, Below.to_ext (by repeat (first | exact Below.refl _ _ | assumption | exact Hd.out (by assumption) | refine Below.alloc ?_ (by first | omega | (simp [size_ext]; try omega)) _ | refine Below.ext ?_ (by first | omega | (simp [size_ext]; try omega)) _ | refine Below.drew ?_ | refine Below.setCell ?_ (by first | omega | (simp [size_ext]; try omega)) _))⟩
  · have HE := hide (show termR9 r t = .spot t.to0 0 by rw [HT.out, if_neg h4, if_neg h3, if_neg (fun e => h2 e.1)])
    have g2 : (t.kind == 2) = false := by rw [beq_eq_false_iff_ne]; exact h2
    clear h2 h3 h4
    go_wp2_with fail
    refine wp_region_ext (by kernel_rfl) (by kernel_rfl) ?_
    repeat (any_goals (first | go_big_quiet_step (((go_at_call 42; exact quiet_retx (reg9_any _ _)))) | quiet_step (((go_at_call 42; exact quiet_retx (reg9_any _ _))))))
    refine wpQuiet_nil ?_
    rintro _ ⟨uq, rfl⟩
    go_wp2_with fail
    go_ret
    rw [HE.out]
    exact ⟨rfl, Below.to_ext (by repeat (first | exact Below.refl _ _ | assumption | exact Hd.out (by assumption) | refine Below.alloc ?_ (by first | omega | (simp [size_ext]; try omega)) _ | refine Below.ext ?_ (by first | omega | (simp [size_ext]; try omega)) _ | refine Below.drew ?_ | refine Below.setCell ?_ (by first | omega | (simp [size_ext]; try omega)) _))⟩
end
end Go.Proofs.Ytkjipgelbjaggaa
