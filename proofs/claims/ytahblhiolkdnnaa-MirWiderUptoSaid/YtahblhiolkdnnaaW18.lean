/- Walk: MirTells. -/
import Derived.Test.YtahblhiolkdnnaaK4
import Derived.Test.YtahblhiolkdnnaaPL6
import Derived.Test.YtahblhiolkdnnaaW17
set_option linter.unusedSimpArgs false
set_option linter.unusedVariables false
namespace Go.Proofs.Ytahblhiolkdnnaa
open Go.RowKit
theorem blocksOf_le (most : Int) (h0 : 0 ≤ most) : ∀ (l : List Block) (n : Int), (∀ b ∈ l, SmallB 1048576 b) → 0 ≤ n → n ≤ most + 3000000 → 0 ≤ blocksOf most n l ∧ blocksOf most n l ≤ most + 3000000
  | [], n, _, h1, h2 => ⟨h1, h2⟩
  | b :: l, n, hb, h1, h2 => by
    simp only [blocksOf]
    split
    · have hs := hb b List.mem_cons_self
      have hl := hs.1
      have ha := argsOf_le most 1048576 b.ins (n + 1 + b.ins.length) hs.2
      exact blocksOf_le most h0 l _ (fun y hy => hb y (List.mem_cons_of_mem _ hy)) (by omega) (by omega)
    · exact ⟨h1, h2⟩
/-- A row that has been lent. -/
def LentP {α : Type} [Rep α] [Lend α] (xs : List α) : Post := fun v w => ∃ S A n c, v = .slice A n c ∧ xs.length = n ∧ Sl w S A (n + 12) c (row xs)
theorem LentP.stable_ {α : Type} [Rep α] [Lend α] {xs : List α} {F : World → Prop} {mem : Bool} (hm : mem = true) : stable F mem (LentP xs) :=
  stable_mem hm fun _ _ u ⟨S, A, n, c, h, h1, h2⟩ => ⟨S, A, n, c, h, h1, h2.ext u⟩
set_option maxHeartbeats 1000000 in
set_option maxRecDepth 8000 in
theorem tells_any (w : World) (S S1 S2 : Nat → Prop) (m : Machine) (A1 A2 : Option Addr) (n1 c1 n2 c2 : Nat) (h1 : Sl w S1 A1 n1 c1 m.args) (h2 : Sl w S2 A2 n2 c2 m.saved) (hi : InI m.ret)
    (t : Target) (A : Option Addr) (n c : Nat) (h : Sl w S A n c t.blocks) (hfr : InI t.frame) (hm : SmallT 1048576 t.blocks) (hb : n1 ≤ 1048576 ∧ n2 ≤ 1048576) :
    Calls Try.prog 4 #[.agg #[.int .i64 m.regs, .slice A1 n1 c1, .int .i64 m.ret, .slice A2 n2 c2], .agg #[.int .i64 t.frame, .slice A n c]] w (RetX (.bool true) w) := by
  have hbl := blocksOf_le 1500 (by omega) t.blocks 0 hm.2 (by omega) (by omega)
  obtain ⟨T, hT⟩ : ∃ T, T = blocksOf 1500 0 t.blocks := ⟨_, rfl⟩
  rw [← hT] at hbl
  have HT := hide hT.symm
  clear hT
  have L1 := hide h1.len; have L2 := hide h2.len
  have H1 := hide h1; have H2 := hide h2; have HI := hide hi; have HS := hide h; have HM := hide hm; have HF := hide hfr
  have GOOD := hide (right_eq hfr (by rw [h1.len]; omega) (good_of h))
  clear h1 h2 hi h hm hfr
  have hw : IntKind.i64.wrap (T + ((n1 : Int) + n2)) = T + ((n1 : Int) + n2) := IntWalk.i64_in _ (by omega)
  have tgt : ∀ (w : World) (S : Nat → Prop), Sl w S A n c t.blocks → Calls Try.prog 9 #[.agg #[.int .i64 t.frame, .slice A n c], .int .i64 1500] w (RetX (.int .i64 T) w) := fun w S h => HT.out ▸ targetOf_any w S t 1500 A n c h HM.out (by omega)
  have TGT := hide tgt
  clear tgt
  go_enter Try.func4, Try.ntmps4
  go_wp2_with fail
  obtain ⟨W, hW⟩ : ∃ W, W = ((w.alloc (.cells #[.int .i64 m.regs, .slice A1 n1 c1, .int .i64 m.ret, .slice A2 n2 c2] 24)).alloc (.cells #[.int .i64 t.frame, .slice A n c] 27)) := ⟨_, rfl⟩
  have FB := hide (show Below w.heap.size w W by subst hW; exact (by repeat (first | exact Below.refl _ _ | assumption | refine Below.alloc ?_ (by simp [size_ext]; try omega) _ | refine Below.ext ?_ (by simp [size_ext]; try omega) _ | refine Below.drew ?_ | refine Below.setCell ?_ (by simp [size_ext]; try omega) _)))
  have FS := hide (show W.heap.size = w.heap.size + 1 + 1 by subst hW; simp)
  have p0 : W.cell? ⟨w.heap.size, 0, none⟩ = some (.int .i64 m.regs) := by subst hW; go_simp
  have p1 : W.cell? ⟨w.heap.size, 1, none⟩ = some (.slice A1 n1 c1) := by subst hW; go_simp
  have p2 : W.cell? ⟨w.heap.size, 2, none⟩ = some (.int .i64 m.ret) := by subst hW; go_simp
  have p3 : W.cell? ⟨w.heap.size, 3, none⟩ = some (.slice A2 n2 c2) := by subst hW; go_simp
  have q0 : W.cell? ⟨w.heap.size + 1, 0, none⟩ = some (.int .i64 t.frame) := by subst hW; go_simp
  have q1 : W.cell? ⟨w.heap.size + 1, 1, none⟩ = some (.slice A n c) := by subst hW; go_simp
  have fsz : w.heap.size < W.heap.size := by have := FS.out; omega
  have fsz1 : w.heap.size + 1 < W.heap.size := by have := FS.out; omega
  have fle : w.heap.size ≤ W.heap.size := by omega
  have K1 : Hd (Sl W S1 A1 n1 c1 m.args) := hide (by subst hW; exact (by repeat (first | assumption | exact Hd.out (by assumption) | apply Sl.alloc | apply Sl.ext | apply Sl.drew | apply Sl.drewN)))
  have K2 : Hd (Sl W S2 A2 n2 c2 m.saved) := hide (by subst hW; exact (by repeat (first | assumption | exact Hd.out (by assumption) | apply Sl.alloc | apply Sl.ext | apply Sl.drew | apply Sl.drewN)))
  have KB : Hd (Sl W S A n c t.blocks) := hide (by subst hW; exact (by repeat (first | assumption | exact Hd.out (by assumption) | apply Sl.alloc | apply Sl.ext | apply Sl.drew | apply Sl.drewN)))
  rw [← hW]
  clear hW H1 H2 HS
  refine wp_region_ext (by kernel_rfl) (by kernel_rfl) ?_
  repeat (any_goals (first | go_big_quiet_step ((first | (go_at_call 9; exact quiet_retx (TGT.out _ S (KB.out.ext _))) | (go_at_call 10; exact quiet_retx (machineOf_any _ (fun _ => True) m A1 A2 n1 c1 n2 c2 ((K1.out.more fun _ _ _ => trivial).ext _) ((K2.out.more fun _ _ _ => trivial).ext _) hb)))) | quiet_step ((first | (go_at_call 9; exact quiet_retx (TGT.out _ S (KB.out.ext _))) | (go_at_call 10; exact quiet_retx (machineOf_any _ (fun _ => True) m A1 A2 n1 c1 n2 c2 ((K1.out.more fun _ _ _ => trivial).ext _) ((K2.out.more fun _ _ _ => trivial).ext _) hb))))))
  refine wpQuiet_nil ?_
  rintro _ ⟨uq, rfl⟩
  by_cases g : T + ((n1 : Int) + n2) > 1500
  · have gd : decide (T + ((n1 : Int) + n2) > 1500) = true := by simpa using g
    go_wp2_with (go_at_call 8; refine (awake_any _).mono ?_; rintro e _ ⟨rfl, ux, rfl⟩)
    go_ret; exact RetX.b rfl (by repeat (first | exact Below.refl _ _ | assumption | exact Hd.out (by assumption) | refine Below.alloc ?_ (by first | omega | (simp [size_ext]; try omega)) _ | refine Below.ext ?_ (by first | omega | (simp [size_ext]; try omega)) _ | refine Below.drew ?_ | refine Below.setCell ?_ (by first | omega | (simp [size_ext]; try omega)) _))
  have gd : decide (T + ((n1 : Int) + n2) > 1500) = false := by simpa using g
  go_wp2_with (go_at_call 14; refine (lentTarget_any _ S A n c t (KB.out.ext _) HM.out HF.out).mono ?_; rintro e _ ⟨vs, rfl, hv, u1, rfl⟩; obtain ⟨B, nB, cB, rfl, i0, l0, s0⟩ := LTarget.open_ hv; have LB := hide l0; have SB := hide s0; clear hv l0 s0 i0)
  obtain ⟨g5, hg5⟩ : ∃ g5, g5 = W.heap.size + uq.blocks.size + u1.blocks.size := ⟨_, rfl⟩
  obtain ⟨W5, hW5⟩ : ∃ W5, W5 = ((W.ext uq).ext u1).alloc (.cells #[.int .i64 t.frame, .slice B nB cB] 27) := ⟨_, rfl⟩
  have FB5 := hide (show Below w.heap.size w W5 by subst hW5; exact (by repeat (first | exact Below.refl _ _ | assumption | exact Hd.out (by assumption) | refine Below.alloc ?_ (by first | omega | (simp [size_ext]; try omega)) _ | refine Below.ext ?_ (by first | omega | (simp [size_ext]; try omega)) _ | refine Below.drew ?_ | refine Below.setCell ?_ (by first | omega | (simp [size_ext]; try omega)) _)))
  have fle5 : w.heap.size ≤ W5.heap.size := by subst hW5; simp [size_ext]; omega
  have fz5 : w.heap.size < W5.heap.size := by subst hW5; simp [size_ext]; omega
  have fz51 : w.heap.size + 1 < W5.heap.size := by subst hW5; simp [size_ext]; omega
  have fg5 : g5 < W5.heap.size := by subst hW5 hg5; simp [size_ext]
  have r0 : W5.cell? ⟨w.heap.size, 0, none⟩ = some (.int .i64 m.regs) := by subst hW5; go_simp
  have r1 : W5.cell? ⟨w.heap.size, 1, none⟩ = some (.slice A1 n1 c1) := by subst hW5; go_simp
  have r2 : W5.cell? ⟨w.heap.size, 2, none⟩ = some (.int .i64 m.ret) := by subst hW5; go_simp
  have r3 : W5.cell? ⟨w.heap.size, 3, none⟩ = some (.slice A2 n2 c2) := by subst hW5; go_simp
  have t0 : W5.cell? ⟨w.heap.size + 1, 0, none⟩ = some (.int .i64 t.frame) := by subst hW5; go_simp
  have t1 : W5.cell? ⟨w.heap.size + 1, 1, none⟩ = some (.slice A n c) := by subst hW5; go_simp
  have y0 : W5.cell? ⟨g5, 0, none⟩ = some (.int .i64 t.frame) := by subst hW5 hg5; go_simp
  have y1 : W5.cell? ⟨g5, 1, none⟩ = some (.slice B nB cB) := by subst hW5 hg5; go_simp
  have J1 : Hd (Sl W5 S1 A1 n1 c1 m.args) := hide (by subst hW5; exact (by repeat (first | assumption | exact Hd.out (by assumption) | apply Sl.alloc | apply Sl.ext | apply Sl.drew | apply Sl.drewN)))
  have J2 : Hd (Sl W5 S2 A2 n2 c2 m.saved) := hide (by subst hW5; exact (by repeat (first | assumption | exact Hd.out (by assumption) | apply Sl.alloc | apply Sl.ext | apply Sl.drew | apply Sl.drewN)))
  have JB : Hd (Sl W5 S A n c t.blocks) := hide (by subst hW5; exact (by repeat (first | assumption | exact Hd.out (by assumption) | apply Sl.alloc | apply Sl.ext | apply Sl.drew | apply Sl.drewN)))
  have JL : Hd (Sl W5 (fun b => (W.ext uq).heap.size ≤ b) B (nB + 12) cB (row t.blocks)) := hide (by subst hW5; exact (by repeat (first | assumption | exact Hd.out (by assumption) | apply Sl.alloc | apply Sl.ext | apply Sl.drew | apply Sl.drewN)))
  have hnB : nB = n := by rw [← LB.out]; exact KB.out.len
  rw [← hW5]
  simp only [← hg5]
  clear hW5 hg5 p0 p1 p2 p3 q0 q1 K1 K2 KB fsz fsz1 FB FS SB LB
  subst hnB
  refine wp_region_flow_ext [] [2, 5, 6, 7] (by kernel_rfl) rfl (by kernel_rfl) ?_
  repeat (refine flow_known (by kernel_rfl) (fun K hK => ?_); go_simp; (first | (refine hK _ ?_; clear hK K) | (apply Exists.intro; refine ⟨fun _ => ?_, hK _ ?_⟩; (fail); clear hK K)))
  refine flow_keep0 (LentP m.args) (by kernel_rfl) (LentP.stable_ rfl) ?_ ?_
  · intro u
    go_simp
    refine (lentInts_any _ S1 A1 n1 c1 m.args (J1.out.ext u) (by rw [L1.out]; omega)).mono ?_
    rintro e _ ⟨A', n', c', rfl, hl, hs, x, rfl⟩
    exact ⟨_, rfl, ⟨_, A', n', c', rfl, hl, hs⟩, onW_ext ⟨_, rfl⟩ ⟨x, rfl⟩⟩
  repeat (refine flow_known (by kernel_rfl) (fun K hK => ?_); go_simp; (first | (refine hK _ ?_; clear hK K) | (apply Exists.intro; refine ⟨fun _ => ?_, hK _ ?_⟩; (fail); clear hK K)))
  refine flow_keep0 (LentP m.saved) (by kernel_rfl) (LentP.stable_ rfl) ?_ ?_
  · intro u
    go_simp
    refine (lentInts_any _ S2 A2 n2 c2 m.saved (J2.out.ext u) (by rw [L2.out]; omega)).mono ?_
    rintro e _ ⟨A', n', c', rfl, hl, hs, x, rfl⟩
    exact ⟨_, rfl, ⟨_, A', n', c', rfl, hl, hs⟩, onW_ext ⟨_, rfl⟩ ⟨x, rfl⟩⟩
  refine flow_keep [true, false] (LentP m.args) (by kernel_rfl) (LentP.stable_ rfl) ?_ ?_
  · intro u
    try simp only [List.nil_append, List.cons_append, useH_f, useH_t, useH_nil]
    rintro v hv
    try simp only [List.nil_append, List.cons_append, useH_f, useH_t, useH_nil]
    go_simp
    exact onW_same ⟨_, rfl⟩
  refine flow_keep [false, true, false] (LentP m.saved) (by kernel_rfl) (LentP.stable_ rfl) ?_ ?_
  · intro u
    try simp only [List.nil_append, List.cons_append, useH_f, useH_t, useH_nil]
    rintro v hv
    try simp only [List.nil_append, List.cons_append, useH_f, useH_t, useH_nil]
    go_simp
    exact onW_same ⟨_, rfl⟩
  refine flow_done [true, true, true, true] (by kernel_rfl) ?_
  intro ua
  simp only [List.nil_append, List.cons_append, endH_f, endH_t, endH_nil]
  rintro v1 _ v2 _ _ ⟨S3, A3, n3, c3, rfl, l3, s3⟩ _ ⟨S4, A4, n4, c4, rfl, l4, s4⟩
  have Z3 := hide s3; have Z4 := hide s4
  obtain rfl : n3 = n1 := by rw [← l3]; exact L1.out
  obtain rfl : n4 = n2 := by rw [← l4]; exact L2.out
  clear s3 s4 l3 l4
  go_wp2
  obtain ⟨g6, hg6⟩ : ∃ g6, g6 = W5.heap.size + ua.blocks.size := ⟨_, rfl⟩
  obtain ⟨W6, hW6⟩ : ∃ W6, W6 = (W5.ext ua).alloc (.cells #[.int .i64 m.regs, .slice A3 n3 c3, .int .i64 m.ret, .slice A4 n4 c4] 24) := ⟨_, rfl⟩
  have FB6 := hide (show Below w.heap.size w W6 by subst hW6; exact (by repeat (first | exact Below.refl _ _ | assumption | exact Hd.out (by assumption) | refine Below.alloc ?_ (by first | omega | (simp [size_ext]; try omega)) _ | refine Below.ext ?_ (by first | omega | (simp [size_ext]; try omega)) _ | refine Below.drew ?_ | refine Below.setCell ?_ (by first | omega | (simp [size_ext]; try omega)) _)))
  have fle6 : w.heap.size ≤ W6.heap.size := by subst hW6; simp [size_ext]; omega
  have fz6 : w.heap.size < W6.heap.size := by subst hW6; simp [size_ext]; omega
  have fz61 : w.heap.size + 1 < W6.heap.size := by subst hW6; simp [size_ext]; omega
  have fg65 : g5 < W6.heap.size := by subst hW6; simp [size_ext]; omega
  have fg6 : g6 < W6.heap.size := by subst hW6 hg6; simp [size_ext]
  have a0 : W6.cell? ⟨w.heap.size, 0, none⟩ = some (.int .i64 m.regs) := by subst hW6; go_simp
  have a1 : W6.cell? ⟨w.heap.size, 1, none⟩ = some (.slice A1 n3 c1) := by subst hW6; go_simp
  have a2 : W6.cell? ⟨w.heap.size, 2, none⟩ = some (.int .i64 m.ret) := by subst hW6; go_simp
  have a3 : W6.cell? ⟨w.heap.size, 3, none⟩ = some (.slice A2 n4 c2) := by subst hW6; go_simp
  have d0 : W6.cell? ⟨w.heap.size + 1, 0, none⟩ = some (.int .i64 t.frame) := by subst hW6; go_simp
  have d1 : W6.cell? ⟨w.heap.size + 1, 1, none⟩ = some (.slice A nB c) := by subst hW6; go_simp
  have x0 : W6.cell? ⟨g5, 0, none⟩ = some (.int .i64 t.frame) := by subst hW6; go_simp
  have x1 : W6.cell? ⟨g5, 1, none⟩ = some (.slice B nB cB) := by subst hW6; go_simp
  have z0 : W6.cell? ⟨g6, 0, none⟩ = some (.int .i64 m.regs) := by subst hW6 hg6; go_simp
  have z1 : W6.cell? ⟨g6, 1, none⟩ = some (.slice A3 n3 c3) := by subst hW6 hg6; go_simp
  have z2 : W6.cell? ⟨g6, 2, none⟩ = some (.int .i64 m.ret) := by subst hW6 hg6; go_simp
  have z3 : W6.cell? ⟨g6, 3, none⟩ = some (.slice A4 n4 c4) := by subst hW6 hg6; go_simp
  have V1 : Hd (Sl W6 S1 A1 n3 c1 m.args) := hide (by subst hW6; exact (by repeat (first | assumption | exact Hd.out (by assumption) | apply Sl.alloc | apply Sl.ext | apply Sl.drew | apply Sl.drewN)))
  have V2 : Hd (Sl W6 S2 A2 n4 c2 m.saved) := hide (by subst hW6; exact (by repeat (first | assumption | exact Hd.out (by assumption) | apply Sl.alloc | apply Sl.ext | apply Sl.drew | apply Sl.drewN)))
  have VB : Hd (Sl W6 S A nB c t.blocks) := hide (by subst hW6; exact (by repeat (first | assumption | exact Hd.out (by assumption) | apply Sl.alloc | apply Sl.ext | apply Sl.drew | apply Sl.drewN)))
  have VL : Hd (Sl W6 (fun b => (W.ext uq).heap.size ≤ b) B (nB + 12) cB (row t.blocks)) := hide (by subst hW6; exact (by repeat (first | assumption | exact Hd.out (by assumption) | apply Sl.alloc | apply Sl.ext | apply Sl.drew | apply Sl.drewN)))
  have V3 : Hd (Sl W6 S3 A3 (n3 + 12) c3 (row m.args)) := hide (by subst hW6; exact Z3.out.alloc _)
  have V4 : Hd (Sl W6 S4 A4 (n4 + 12) c4 (row m.saved)) := hide (by subst hW6; exact Z4.out.alloc _)
  have hB := VB.out.len
  have HB := hide hB
  have X3 := hide (V3.out.forget L1.out); have X4 := hide (V4.out.forget L2.out); have XL := hide (VL.out.forget hB)
  rw [← hW6]
  simp only [← hg6]
  clear hW6 hg6 hB r0 r1 r2 r3 t0 t1 y0 y1 fz5 fz51 fg5 J1 J2 JB JL Z3 Z4
  have rr : ∀ w : World, Sl w S1 A1 n3 c1 m.args → Sl w S2 A2 n4 c2 m.saved → Sl w S A nB c t.blocks → Calls Try.prog 16 #[.agg #[.int .i64 m.regs, .slice A1 n3 c1, .int .i64 m.ret, .slice A2 n4 c2], .agg #[.int .i64 t.frame, .slice A nB c]] w (RetX (.int .i64 (rightT m t)) w) := fun w h1 h2 h => GOOD.out ▸ right6_any w S S1 S2 m A1 A2 n3 c1 n4 c2 h1 h2 t A nB c h
  have RR := hide rr
  clear rr
  have hm1 : m.args.length ≤ 1048576 := by rw [L1.out]; omega
  have hm2 : m.saved.length ≤ 1048576 := by rw [L2.out]; omega
  have HM1 := hide hm1; have HM2 := hide hm2
  clear hm1 hm2
  obtain ⟨R, hR⟩ : ∃ R, rightT m t = R := ⟨_, rfl⟩
  obtain ⟨Z, hZ⟩ : ∃ Z, sizeT nB t.blocks = Z := ⟨_, rfl⟩
  have k1 := hide (fun u : Ext => hR ▸ right_any (W6.ext u) _ S3 S4 m A3 A4 n3 c3 n4 c4 (X3.out.ext u) (X4.out.ext u) HI.out t B nB cB (XL.out.ext u))
  have k2 := hide (fun u : Ext => hR ▸ RR.out (W6.ext u) (V1.out.ext u) (V2.out.ext u) (VB.out.ext u))
  have k3 := hide (fun u : Ext => hZ ▸ size_any (W6.ext u) _ t B nB cB (XL.out.ext u) HM.out)
  have k4 := hide (fun u : Ext => hZ ▸ size6_any (W6.ext u) S t A nB c (VB.out.ext u) HM.out)
  have k5 := hide (fun u : Ext => keptTarget_any (W6.ext u) _ S B A nB cB c t (VL.out.ext u) (VB.out.ext u) HM.out)
  have k6 := hide (fun u : Ext => keptInts_any (W6.ext u) S3 S1 A3 A1 n3 c3 c1 m.args (V3.out.ext u) (V1.out.ext u) HM1.out)
  have k7 := hide (fun u : Ext => keptInts_any (W6.ext u) S4 S2 A4 A2 n4 c4 c2 m.saved (V4.out.ext u) (V2.out.ext u) HM2.out)
  clear hR hZ
  refine wp_region_ext (by kernel_rfl) (by kernel_rfl) ?_
  repeat (any_goals (first | go_big_quiet_step ((first | (go_at_call 11; with_reducible exact quiet_retx (k1.out _)) | (go_at_call 16; with_reducible exact quiet_retx (k2.out _)) | (go_at_call 17; with_reducible exact quiet_retx (k3.out _)) | (go_at_call 18; with_reducible exact quiet_retx (k4.out _)) | (go_at_call 19; with_reducible exact quiet_retx (k5.out _)) | (go_at_call 20; with_reducible exact quiet_retx (k6.out _)) | (go_at_call 20; with_reducible exact quiet_retx (k7.out _)) | (go_at_call 8; with_reducible exact quiet_retx (awake_any _)))) | quiet_step ((first | (go_at_call 11; with_reducible exact quiet_retx (k1.out _)) | (go_at_call 16; with_reducible exact quiet_retx (k2.out _)) | (go_at_call 17; with_reducible exact quiet_retx (k3.out _)) | (go_at_call 18; with_reducible exact quiet_retx (k4.out _)) | (go_at_call 19; with_reducible exact quiet_retx (k5.out _)) | (go_at_call 20; with_reducible exact quiet_retx (k6.out _)) | (go_at_call 20; with_reducible exact quiet_retx (k7.out _)) | (go_at_call 8; with_reducible exact quiet_retx (awake_any _))))))
  refine wpQuiet_nil ?_
  rintro _ ⟨uq, rfl⟩
  go_wp2
  go_ret
  exact RetX.b rfl (by repeat (first | exact Below.refl _ _ | assumption | exact Hd.out (by assumption) | refine Below.alloc ?_ (by first | omega | (simp [size_ext]; try omega)) _ | refine Below.ext ?_ (by first | omega | (simp [size_ext]; try omega)) _ | refine Below.drew ?_ | refine Below.setCell ?_ (by first | omega | (simp [size_ext]; try omega)) _))
end Go.Proofs.Ytahblhiolkdnnaa
