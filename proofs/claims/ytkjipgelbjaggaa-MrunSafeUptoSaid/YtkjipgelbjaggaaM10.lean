/- Walk: (mir.frame).ins. -/
import Derived.Test.YtkjipgelbjaggaaM08
import Derived.Test.YtkjipgelbjaggaaM09
set_option linter.unusedSimpArgs false
set_option linter.unusedVariables false
namespace Go.Proofs.Ytkjipgelbjaggaa
open Go.RowKit
theorem withb_any (p x : Int) (w : World) : Calls Try.prog 45 #[.int .u8 p, .int .u8 x] w (Ret (.bool (bt p x)) w) := with_any p x w
theorem withb_eq {b : Bool} (p x : Int) (w : World) (h : bt p x = b) : Calls Try.prog 45 #[.int .u8 p, .int .u8 x] w (Ret (.bool b) w) := h ▸ with_any p x w
theorem oddb_any (b : Bool) (n : Int) (w : World) : Calls Try.prog 84 #[.bool b, .int .i64 n] w (Ret (.bool (oddB b n)) w) := odd_any b n w
section
variable {m : Machine} {frame : Int} {i : Ins} {nm : Nat}
theorem insP9_c (h : 99 < IntKind.u64.wrap i.callee) : insP9 m frame i = 2 := by unfold insP9; rw [if_pos h]
theorem insP9_m (hm : m.args.length = nm) (h : IntKind.u64.wrap i.callee ≤ 99) (h1 : IntKind.u64.wrap nm < IntKind.u64.wrap i.many) : insP9 m frame i = 2 := by unfold insP9; rw [if_neg (by omega), if_pos (by rw [hm]; exact h1)]
theorem insP9_r (hm : m.args.length = nm) (h : IntKind.u64.wrap i.callee ≤ 99) (h1 : IntKind.u64.wrap i.many ≤ IntKind.u64.wrap nm) (h2 : anyF (regBad m) [i.dst, i.a, i.b] = true) : insP9 m frame i = 10 := by
  unfold insP9; rw [if_neg (by omega), if_neg (by rw [hm]; omega), if_pos h2]
theorem insP9_s (hm : m.args.length = nm) (h : IntKind.u64.wrap i.callee ≤ 99) (h1 : IntKind.u64.wrap i.many ≤ IntKind.u64.wrap nm) (h2 : anyF (regBad m) [i.dst, i.a, i.b] = false) (h3 : bt (hasP i.op) 16 = true) (h4 : IntKind.u64.wrap frame ≤ IntKind.u64.wrap i.imm) : insP9 m frame i = 11 := by
  unfold insP9; rw [if_neg (by omega), if_neg (by rw [hm]; omega), if_neg (by rw [h2]; simp), if_pos (by rw [h3]; simpa using h4)]
theorem insP9_n (hm : m.args.length = nm) (h : IntKind.u64.wrap i.callee ≤ 99) (h1 : IntKind.u64.wrap i.many ≤ IntKind.u64.wrap nm) (h2 : anyF (regBad m) [i.dst, i.a, i.b] = false) (h4 : IntKind.u64.wrap i.imm < IntKind.u64.wrap frame) : insP9 m frame i = 0 := by
  unfold insP9; rw [if_neg (by omega), if_neg (by rw [hm]; omega), if_neg (by rw [h2]; simp), if_neg (by simp; intro _; omega)]
theorem insP9_t (hm : m.args.length = nm) (h : IntKind.u64.wrap i.callee ≤ 99) (h1 : IntKind.u64.wrap i.many ≤ IntKind.u64.wrap nm) (h2 : anyF (regBad m) [i.dst, i.a, i.b] = false) (h4 : bt (hasP i.op) 16 = false) : insP9 m frame i = 0 := by
  unfold insP9; rw [if_neg (by omega), if_neg (by rw [hm]; omega), if_neg (by rw [h2]; simp), if_neg (by rw [h4]; simp)]
end
set_option maxHeartbeats 4000000 in
set_option maxRecDepth 8000 in
theorem fins_any (w : World) (S : Nat → Prop) (m : Machine) (frame blocks : Int) (Am : Option Addr) (nm cm : Nat) (vs : Value) (i : Ins) (A : Option Addr) (n c : Nat) (h : Sl w S A n c i.args) (hm : m.args.length = nm) (hI : InI i.dst ∧ InI i.a ∧ InI i.b) :
    Calls Try.prog 63 #[.agg #[.int .i64 m.regs, .slice Am nm cm, .int .i64 m.ret, vs, .int .i64 frame, .int .i64 blocks],
      .agg #[.int .i64 i.op, .int .i64 i.dst, .int .i64 i.a, .int .i64 i.b, .int .i64 i.imm, .int .i64 i.callee, .slice A n c, .int .i64 i.many]] w (RetX (.int .i64 (insP m frame i)) w) := by
  have HL := hide h.len
  have HM := hide hm
  have HS := hide h; clear h hm
  go_enter Try.func63, Try.ntmps63
  go_wp2_with fail
  obtain ⟨W, hW⟩ : ∃ W, W = ((w.alloc (.cells #[.int .i64 m.regs, .slice Am nm cm, .int .i64 m.ret, vs, .int .i64 frame, .int .i64 blocks] 137)).alloc (.cells #[.int .i64 i.op, .int .i64 i.dst, .int .i64 i.a, .int .i64 i.b, .int .i64 i.imm, .int .i64 i.callee, .slice A n c, .int .i64 i.many] 66)) := ⟨_, rfl⟩
  have FB := hide (show Below w.heap.size w W by subst hW; exact (by repeat (first | exact Below.refl _ _ | assumption | exact Hd.out (by assumption) | refine Below.alloc ?_ (by first | omega | (simp [size_ext]; try omega)) _ | refine Below.ext ?_ (by first | omega | (simp [size_ext]; try omega)) _ | refine Below.drew ?_ | refine Below.setCell ?_ (by first | omega | (simp [size_ext]; try omega)) _)))
  have FS := hide (show W.heap.size = w.heap.size + 1 + 1 by subst hW; simp)
  have p0 : W.cell? ⟨w.heap.size, 0, none⟩ = some (.int .i64 m.regs) := by subst hW; go_simp
  have p1 : W.cell? ⟨w.heap.size, 1, none⟩ = some (.slice Am nm cm) := by subst hW; go_simp
  have p2 : W.cell? ⟨w.heap.size, 2, none⟩ = some (.int .i64 m.ret) := by subst hW; go_simp
  have p3 : W.cell? ⟨w.heap.size, 3, none⟩ = some vs := by subst hW; go_simp
  have p4 : W.cell? ⟨w.heap.size, 4, none⟩ = some (.int .i64 frame) := by subst hW; go_simp
  have p5 : W.cell? ⟨w.heap.size, 5, none⟩ = some (.int .i64 blocks) := by subst hW; go_simp
  have q0 : W.cell? ⟨w.heap.size + 1, 0, none⟩ = some (.int .i64 i.op) := by subst hW; go_simp
  have q1 : W.cell? ⟨w.heap.size + 1, 1, none⟩ = some (.int .i64 i.dst) := by subst hW; go_simp
  have q2 : W.cell? ⟨w.heap.size + 1, 2, none⟩ = some (.int .i64 i.a) := by subst hW; go_simp
  have q3 : W.cell? ⟨w.heap.size + 1, 3, none⟩ = some (.int .i64 i.b) := by subst hW; go_simp
  have q4 : W.cell? ⟨w.heap.size + 1, 4, none⟩ = some (.int .i64 i.imm) := by subst hW; go_simp
  have q5 : W.cell? ⟨w.heap.size + 1, 5, none⟩ = some (.int .i64 i.callee) := by subst hW; go_simp
  have q6 : W.cell? ⟨w.heap.size + 1, 6, none⟩ = some (.slice A n c) := by subst hW; go_simp
  have q7 : W.cell? ⟨w.heap.size + 1, 7, none⟩ = some (.int .i64 i.many) := by subst hW; go_simp
  have fsz : w.heap.size < W.heap.size := by have := FS.out; omega
  have fsz1 : w.heap.size + 1 < W.heap.size := by have := FS.out; omega
  rw [← hW]
  clear hW
  go_wp2_with (go_at_call 44; refine (has_any _ _).mono ?_; rintro e _ ⟨rfl, ux, rfl⟩)
  · rename_i e; go_ret; exact RetX.i (by unfold insP; rw [if_pos e]) (Below.ext FB.out (by omega) _)
  · rename_i e1 _ e; go_ret; exact RetX.i (by unfold insP; rw [if_neg (by rw [e1]; simp), if_pos (by rw [HL.out]; omega)]) (Below.ext FB.out (by omega) _)
  have e1 : (hasP i.op == 0) = false := by assumption
  have e2 : ¬0 < n := by assumption
  have X := hide (show insP m frame i = insP2 m frame i by unfold insP; rw [if_neg (by rw [e1]; simp), if_neg (by rw [HL.out]; omega)])
  refine wp_region_ext (by kernel_rfl) (by kernel_rfl) ?_
  repeat (any_goals (first | go_big_quiet_step ((first | (go_at_call 45; exact quiet_ret (withb_any _ _ _)) | (go_at_call 84; exact quiet_ret (oddb_any _ _ _)))) | quiet_step ((first | (go_at_call 45; exact quiet_ret (withb_any _ _ _)) | (go_at_call 84; exact quiet_ret (oddb_any _ _ _))))))
  refine wpQuiet_nil ?_
  rintro _ ⟨uq, rfl⟩
  obtain ⟨x1, hx⟩ := ext_ext W ux uq
  rw [hx]
  clear hx uq ux
  obtain ⟨ux, hux⟩ : ∃ ux, ux = x1 := ⟨_, rfl⟩
  rw [← hux]
  clear hux x1
  by_cases e : oddB (bt (hasP i.op) 1) i.dst = true
  · rw [e]; go_wp2; go_ret; exact RetX.i (by rw [X.out]; unfold insP2; rw [if_pos e]) (Below.ext FB.out (by omega) _)
  have X := hide (show insP m frame i = insP3 m frame i by rw [X.out]; unfold insP2; rw [if_neg e])
  rw [show oddB (bt (hasP i.op) 1) i.dst = false by simpa using e]
  clear e
  go_wp2
  refine wp_region_ext (by kernel_rfl) (by kernel_rfl) ?_
  repeat (any_goals (first | go_big_quiet_step ((first | (go_at_call 45; exact quiet_ret (withb_any _ _ _)) | (go_at_call 84; exact quiet_ret (oddb_any _ _ _)))) | quiet_step ((first | (go_at_call 45; exact quiet_ret (withb_any _ _ _)) | (go_at_call 84; exact quiet_ret (oddb_any _ _ _))))))
  refine wpQuiet_nil ?_
  rintro _ ⟨uq, rfl⟩
  obtain ⟨x1, hx⟩ := ext_ext W ux uq
  rw [hx]
  clear hx uq ux
  obtain ⟨ux, hux⟩ : ∃ ux, ux = x1 := ⟨_, rfl⟩
  rw [← hux]
  clear hux x1
  by_cases e : oddB (bt (hasP i.op) 2) i.a = true
  · rw [e]; go_wp2; go_ret; exact RetX.i (by rw [X.out]; unfold insP3; rw [if_pos e]) (Below.ext FB.out (by omega) _)
  have X := hide (show insP m frame i = insP4 m frame i by rw [X.out]; unfold insP3; rw [if_neg e])
  rw [show oddB (bt (hasP i.op) 2) i.a = false by simpa using e]
  clear e
  go_wp2
  refine wp_region_ext (by kernel_rfl) (by kernel_rfl) ?_
  repeat (any_goals (first | go_big_quiet_step ((first | (go_at_call 45; exact quiet_ret (withb_any _ _ _)) | (go_at_call 84; exact quiet_ret (oddb_any _ _ _)))) | quiet_step ((first | (go_at_call 45; exact quiet_ret (withb_any _ _ _)) | (go_at_call 84; exact quiet_ret (oddb_any _ _ _))))))
  refine wpQuiet_nil ?_
  rintro _ ⟨uq, rfl⟩
  obtain ⟨x1, hx⟩ := ext_ext W ux uq
  rw [hx]
  clear hx uq ux
  obtain ⟨ux, hux⟩ : ∃ ux, ux = x1 := ⟨_, rfl⟩
  rw [← hux]
  clear hux x1
  by_cases e : oddB (bt (hasP i.op) 4) i.b = true
  · rw [e]; go_wp2; go_ret; exact RetX.i (by rw [X.out]; unfold insP4; rw [if_pos e]) (Below.ext FB.out (by omega) _)
  have X := hide (show insP m frame i = insP5 m frame i by rw [X.out]; unfold insP4; rw [if_neg e])
  rw [show oddB (bt (hasP i.op) 4) i.b = false by simpa using e]
  clear e
  go_wp2
  refine wp_region_ext (by kernel_rfl) (by kernel_rfl) ?_
  repeat (any_goals (first | go_big_quiet_step ((first | (go_at_call 45; exact quiet_ret (withb_any _ _ _)) | (go_at_call 84; exact quiet_ret (oddb_any _ _ _)))) | quiet_step ((first | (go_at_call 45; exact quiet_ret (withb_any _ _ _)) | (go_at_call 84; exact quiet_ret (oddb_any _ _ _))))))
  refine wpQuiet_nil ?_
  rintro _ ⟨uq, rfl⟩
  obtain ⟨x1, hx⟩ := ext_ext W ux uq
  rw [hx]
  clear hx uq ux
  obtain ⟨ux, hux⟩ : ∃ ux, ux = x1 := ⟨_, rfl⟩
  rw [← hux]
  clear hux x1
  by_cases e : oddB (bt (hasP i.op) 24) i.imm = true
  · rw [e]; go_wp2; go_ret; exact RetX.i (by rw [X.out]; unfold insP5; rw [if_pos e]) (Below.ext FB.out (by omega) _)
  have X := hide (show insP m frame i = insP6 m frame i by rw [X.out]; unfold insP5; rw [if_neg e])
  rw [show oddB (bt (hasP i.op) 24) i.imm = false by simpa using e]
  clear e
  go_wp2
  refine wp_region_ext (by kernel_rfl) (by kernel_rfl) ?_
  repeat (any_goals (first | go_big_quiet_step ((first | (go_at_call 45; exact quiet_ret (withb_any _ _ _)) | (go_at_call 84; exact quiet_ret (oddb_any _ _ _)))) | quiet_step ((first | (go_at_call 45; exact quiet_ret (withb_any _ _ _)) | (go_at_call 84; exact quiet_ret (oddb_any _ _ _))))))
  refine wpQuiet_nil ?_
  rintro _ ⟨uq, rfl⟩
  obtain ⟨x1, hx⟩ := ext_ext W ux uq
  rw [hx]
  clear hx uq ux
  obtain ⟨ux, hux⟩ : ∃ ux, ux = x1 := ⟨_, rfl⟩
  rw [← hux]
  clear hux x1
  by_cases e : oddB (bt (hasP i.op) 32) i.callee = true
  · rw [e]; go_wp2; go_ret; exact RetX.i (by rw [X.out]; unfold insP6; rw [if_pos e]) (Below.ext FB.out (by omega) _)
  have X := hide (show insP m frame i = insP7 m frame i by rw [X.out]; unfold insP6; rw [if_neg e])
  rw [show oddB (bt (hasP i.op) 32) i.callee = false by simpa using e]
  clear e
  go_wp2
  refine wp_region_ext (by kernel_rfl) (by kernel_rfl) ?_
  repeat (any_goals (first | go_big_quiet_step ((first | (go_at_call 45; exact quiet_ret (withb_any _ _ _)) | (go_at_call 84; exact quiet_ret (oddb_any _ _ _)))) | quiet_step ((first | (go_at_call 45; exact quiet_ret (withb_any _ _ _)) | (go_at_call 84; exact quiet_ret (oddb_any _ _ _))))))
  refine wpQuiet_nil ?_
  rintro _ ⟨uq, rfl⟩
  obtain ⟨x1, hx⟩ := ext_ext W ux uq
  rw [hx]
  clear hx uq ux
  obtain ⟨ux, hux⟩ : ∃ ux, ux = x1 := ⟨_, rfl⟩
  rw [← hux]
  clear hux x1
  by_cases e : oddB (bt (hasP i.op) 32) i.many = true
  · rw [e]; go_wp2; go_ret; exact RetX.i (by rw [X.out]; unfold insP7; rw [if_pos e]) (Below.ext FB.out (by omega) _)
  have X := hide (show insP m frame i = insP8 m frame i by rw [X.out]; unfold insP7; rw [if_neg e])
  rw [show oddB (bt (hasP i.op) 32) i.many = false by simpa using e]
  clear e
  have h3 : Sl ((W.ext ux).alloc (.cells #[.int .i64 i.dst, .int .i64 i.a, .int .i64 i.b] 3)) (fun _ => True) (some ⟨W.heap.size + ux.blocks.size, 0, none⟩) 3 3 [i.dst, i.a, i.b] :=
    Sl.lit (us := [.int .i64 i.dst, .int .i64 i.a, .int .i64 i.b]) (by rw [size_ext]) (RepL.ints (S := fun _ => True) [i.dst, i.a, i.b] (by intro x hx; simp at hx; rcases hx with rfl | rfl | rfl <;> first | exact hI.1 | exact hI.2.1 | exact hI.2.2)) rfl (by decide) (fun _ _ => trivial) trivial
  have H3 := hide h3
  clear h3 hI
  have ok8 : bt (hasP i.op) 8 = false ∨ (bt (hasP i.op) 8 = true ∧ decide (i.imm < -1099511627776) = false ∧ decide (i.imm > 1099511627776) = false) → insP m frame i = insP9 m frame i := by
    intro h
    rw [X.out]
    unfold insP8
    rcases h with h | ⟨h, h1, h2⟩
    · rw [h]; simp
    · rw [h, h1, h2]; simp
  have no8 : bt (hasP i.op) 8 = true → decide (i.imm < -1099511627776) = true ∨ decide (i.imm > 1099511627776) = true → insP m frame i = 2 := by
    intro h h'
    rw [X.out]
    unfold insP8
    rw [h, if_pos]
    simpa using h'
  have OK8 := hide ok8; have NO8 := hide no8
  clear ok8 no8
  have fin : insP m frame i = insP9 m frame i → bt (hasP i.op) 16 = true ∨ bt (hasP i.op) 16 = false → True := fun _ _ => trivial
  clear fin
  by_cases h8 : bt (hasP i.op) 8 = true
  · by_cases hlo : i.imm < -1099511627776
    · go_wp2_with (go_at_call 45; refine (withb_eq _ 8 _ h8).mono ?_; rintro e w' ⟨rfl, rfl⟩)
      all_goals (go_ret; exact RetX.i (NO8.out h8 (.inl (by simpa using hlo))).symm (Below.ext FB.out (by omega) _))
    have dlo : decide (i.imm < -1099511627776) = false := by simpa using hlo
    by_cases hhi : i.imm > 1099511627776
    · go_wp2_with (go_at_call 45; refine (withb_eq _ 8 _ h8).mono ?_; rintro e w' ⟨rfl, rfl⟩)
      all_goals (go_ret; exact RetX.i (NO8.out h8 (.inr (by simpa using hhi))).symm (Below.ext FB.out (by omega) _))
    have dhi : decide (i.imm > 1099511627776) = false := by simpa using hhi
    have Y := hide (OK8.out (.inr ⟨h8, dlo, dhi⟩))
    have fb := FB.out
    by_cases h16 : bt (hasP i.op) 16 = true
    · go_wp2_with (first | (go_at_call 45; refine (withb_eq _ 8 _ h8).mono ?_; rintro e w' ⟨rfl, rfl⟩) | (go_at_call 45; refine (withb_eq _ 16 _ h16).mono ?_; rintro e w' ⟨rfl, rfl⟩) | (go_at_call 85; refine (regs_any _ _ m frame blocks _ _ _ 3 3 [i.dst, i.a, i.b] H3.out).mono ?_; rintro e _ ⟨rfl, ux, rfl⟩))
      all_goals (go_ret; exact RetX.i (by rw [Y.out]; first | exact (insP9_c (by assumption)).symm | exact (insP9_m HM.out (by assumption) (by assumption)).symm | exact (insP9_r HM.out (by assumption) (by assumption) (by assumption)).symm | exact (insP9_s HM.out (by assumption) (by assumption) (by assumption) (by assumption) (by assumption)).symm | exact (insP9_n HM.out (by assumption) (by assumption) (by assumption) (by assumption)).symm | exact (insP9_t HM.out (by assumption) (by assumption) (by assumption) (by assumption)).symm) (by repeat (first | exact Below.refl _ _ | assumption | exact Hd.out (by assumption) | refine Below.alloc ?_ (by first | omega | (simp [size_ext]; try omega)) _ | refine Below.ext ?_ (by first | omega | (simp [size_ext]; try omega)) _ | refine Below.drew ?_ | refine Below.setCell ?_ (by first | omega | (simp [size_ext]; try omega)) _)))
    · have h16' : bt (hasP i.op) 16 = false := by simpa using h16
      go_wp2_with (first | (go_at_call 45; refine (withb_eq _ 8 _ h8).mono ?_; rintro e w' ⟨rfl, rfl⟩) | (go_at_call 45; refine (withb_eq _ 16 _ h16').mono ?_; rintro e w' ⟨rfl, rfl⟩) | (go_at_call 85; refine (regs_any _ _ m frame blocks _ _ _ 3 3 [i.dst, i.a, i.b] H3.out).mono ?_; rintro e _ ⟨rfl, ux, rfl⟩))
      all_goals (go_ret; exact RetX.i (by rw [Y.out]; first | exact (insP9_c (by assumption)).symm | exact (insP9_m HM.out (by assumption) (by assumption)).symm | exact (insP9_r HM.out (by assumption) (by assumption) (by assumption)).symm | exact (insP9_s HM.out (by assumption) (by assumption) (by assumption) (by assumption) (by assumption)).symm | exact (insP9_n HM.out (by assumption) (by assumption) (by assumption) (by assumption)).symm | exact (insP9_t HM.out (by assumption) (by assumption) (by assumption) (by assumption)).symm) (by repeat (first | exact Below.refl _ _ | assumption | exact Hd.out (by assumption) | refine Below.alloc ?_ (by first | omega | (simp [size_ext]; try omega)) _ | refine Below.ext ?_ (by first | omega | (simp [size_ext]; try omega)) _ | refine Below.drew ?_ | refine Below.setCell ?_ (by first | omega | (simp [size_ext]; try omega)) _)))
  · have h8' : bt (hasP i.op) 8 = false := by simpa using h8
    have Y := hide (OK8.out (.inl h8'))
    have fb := FB.out
    by_cases h16 : bt (hasP i.op) 16 = true
    · go_wp2_with (first | (go_at_call 45; refine (withb_eq _ 8 _ h8').mono ?_; rintro e w' ⟨rfl, rfl⟩) | (go_at_call 45; refine (withb_eq _ 16 _ h16).mono ?_; rintro e w' ⟨rfl, rfl⟩) | (go_at_call 85; refine (regs_any _ _ m frame blocks _ _ _ 3 3 [i.dst, i.a, i.b] H3.out).mono ?_; rintro e _ ⟨rfl, ux, rfl⟩))
      all_goals (go_ret; exact RetX.i (by rw [Y.out]; first | exact (insP9_c (by assumption)).symm | exact (insP9_m HM.out (by assumption) (by assumption)).symm | exact (insP9_r HM.out (by assumption) (by assumption) (by assumption)).symm | exact (insP9_s HM.out (by assumption) (by assumption) (by assumption) (by assumption) (by assumption)).symm | exact (insP9_n HM.out (by assumption) (by assumption) (by assumption) (by assumption)).symm | exact (insP9_t HM.out (by assumption) (by assumption) (by assumption) (by assumption)).symm) (by repeat (first | exact Below.refl _ _ | assumption | exact Hd.out (by assumption) | refine Below.alloc ?_ (by first | omega | (simp [size_ext]; try omega)) _ | refine Below.ext ?_ (by first | omega | (simp [size_ext]; try omega)) _ | refine Below.drew ?_ | refine Below.setCell ?_ (by first | omega | (simp [size_ext]; try omega)) _)))
    · have h16' : bt (hasP i.op) 16 = false := by simpa using h16
      go_wp2_with (first | (go_at_call 45; refine (withb_eq _ 8 _ h8').mono ?_; rintro e w' ⟨rfl, rfl⟩) | (go_at_call 45; refine (withb_eq _ 16 _ h16').mono ?_; rintro e w' ⟨rfl, rfl⟩) | (go_at_call 85; refine (regs_any _ _ m frame blocks _ _ _ 3 3 [i.dst, i.a, i.b] H3.out).mono ?_; rintro e _ ⟨rfl, ux, rfl⟩))
      all_goals (go_ret; exact RetX.i (by rw [Y.out]; first | exact (insP9_c (by assumption)).symm | exact (insP9_m HM.out (by assumption) (by assumption)).symm | exact (insP9_r HM.out (by assumption) (by assumption) (by assumption)).symm | exact (insP9_s HM.out (by assumption) (by assumption) (by assumption) (by assumption) (by assumption)).symm | exact (insP9_n HM.out (by assumption) (by assumption) (by assumption) (by assumption)).symm | exact (insP9_t HM.out (by assumption) (by assumption) (by assumption) (by assumption)).symm) (by repeat (first | exact Below.refl _ _ | assumption | exact Hd.out (by assumption) | refine Below.alloc ?_ (by first | omega | (simp [size_ext]; try omega)) _ | refine Below.ext ?_ (by first | omega | (simp [size_ext]; try omega)) _ | refine Below.drew ?_ | refine Below.setCell ?_ (by first | omega | (simp [size_ext]; try omega)) _)))
end Go.Proofs.Ytkjipgelbjaggaa
