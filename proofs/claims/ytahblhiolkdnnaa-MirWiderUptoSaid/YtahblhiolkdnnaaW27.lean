/- Walk: MirWider. -/
import Derived.Test.YtahblhiolkdnnaaW23
import Derived.Test.YtahblhiolkdnnaaW25a
import Derived.Test.YtahblhiolkdnnaaW26b
import Derived.Test.YtahblhiolkdnnaaPL6d
import Derived.Deep.RegionLaw
import Derived.Deep.AppendLies
import Derived.Deep.DeepCutAuto
import Derived.Test.YtahblhiolkdnnaaFlow3
import Derived.Test.YtahblhiolkdnnaaName2
set_option linter.unusedSimpArgs false
set_option linter.unusedVariables false
namespace Go.Proofs.Ytahblhiolkdnnaa
open Go.RowKit
theorem args_ge (most : Int) : ∀ (l : List Ins) (n : Int), n ≤ argsOf most n l
  | [], n => Int.le_refl _
  | i :: l, n => by
    unfold argsOf; split
    · have := args_ge most l (n + i.args.length); omega
    · exact Int.le_refl _
theorem blocks_ge (most : Int) : ∀ (l : List Block) (n : Int), n ≤ blocksOf most n l
  | [], n => Int.le_refl _
  | b :: l, n => by
    unfold blocksOf; split
    · have := blocks_ge most l (argsOf most (n + 1 + b.ins.length) b.ins); have := args_ge most b.ins (n + 1 + b.ins.length); omega
    · exact Int.le_refl _
theorem blocks_mem (most : Int) : ∀ (l : List Block) (n : Int), blocksOf most n l ≤ most → 0 ≤ n → ∀ b ∈ l, (b.ins.length : Int) ≤ most
  | [], _, _, _, b, hb => by simp at hb
  | c :: l, n, h, hn, b, hb => by
    unfold blocksOf at h
    split at h
    · have h1 := args_ge most c.ins (n + 1 + c.ins.length)
      rcases List.mem_cons.1 hb with rfl | hb
      · have := blocks_ge most l (argsOf most (n + 1 + b.ins.length) b.ins); omega
      · exact blocks_mem most l _ h (by omega) b hb
    · omega
theorem blocks_small {most T : Int} {l : List Block} (hT : blocksOf most 0 l = T) (h : T ≤ 1500) (hm : most = 1500 := by rfl) {b : Block} (hb : b ∈ l) : b.ins.length ≤ 1500 := by
  subst hm; have := blocks_mem 1500 l 0 (by omega) (by omega) b hb; omega
set_option maxHeartbeats 8000000 in
set_option maxRecDepth 100000 in
theorem widerL_any (w : World) (S S1 S2 S3 : Nat → Prop) (m : Machine) (A1 A2 : Option Addr) (n1 c1 n2 c2 : Nat) (h1 : Sl w S1 A1 n1 c1 m.args) (h2 : Sl w S2 A2 n2 c2 m.saved) (hi : InI m.ret)
    (t : Target) (A : Option Addr) (n c : Nat) (h : Sl w S A n c t.blocks) (hfr : InI t.frame) (hm : SmallT 1048576 t.blocks) (i : Ins) (A3 : Option Addr) (n3 c3 : Nat) (h3 : Sl w S3 A3 n3 c3 i.args)
    (i0 : InI i.op) (i1 : InI i.dst) (i2 : InI i.a) (i3 : InI i.b) (i4 : InI i.imm) (i5 : InI i.callee) (i7 : InI i.many) (at_ : Int) (hat : InI at_) (hb : n1 ≤ 1048576 ∧ n2 ≤ 1048576) (hb3 : n3 ≤ 1048576) :
    Calls Try.prog 3 #[.agg #[.int .i64 m.regs, .slice A1 n1 c1, .int .i64 m.ret, .slice A2 n2 c2], .agg #[.int .i64 t.frame, .slice A n c], .agg #[.int .i64 i.op, .int .i64 i.dst, .int .i64 i.a, .int .i64 i.b, .int .i64 i.imm, .int .i64 i.callee, .slice A3 n3 c3, .int .i64 i.many], .int .i64 at_] w (RetX (.bool true) w) := by
  have hbl := blocksOf_le 1500 (by omega) t.blocks 0 hm.2 (by omega) (by omega)
  obtain ⟨T, hT⟩ : ∃ T, T = blocksOf 1500 0 t.blocks := ⟨_, rfl⟩
  rw [← hT] at hbl
  have HT := hide hT.symm
  clear hT
  have hnn : n ≤ 1048576 := by rw [← h.len]; exact hm.1
  have HN := hide h.len
  have H1 := hide h1; have H2 := hide h2; have H3 := hide h3; have HI := hide hi; have HS := hide h; have HM := hide hm; have HF := hide hfr; have HAT := hide hat
  have I0 := hide i0; have I1 := hide i1; have I2 := hide i2; have I3 := hide i3; have I4 := hide i4; have I5 := hide i5; have I7 := hide i7
  have HW3 := hide (H3.out.more (S' := fun b => b < w.heap.size) fun b hb _ => hb)
  clear h1 h2 h3 hi h hm hfr hat i0 i1 i2 i3 i4 i5 i7
  have hw : IntKind.i64.wrap (T + ((n1 : Int) + n2)) = T + ((n1 : Int) + n2) := IntWalk.i64_in _ (by omega)
  have hw2 : IntKind.i64.wrap (T + ((n1 : Int) + n2) + n3) = T + ((n1 : Int) + n2) + n3 := IntWalk.i64_in _ (by omega)
  have TGT := hide (show ∀ (w : World) (S : Nat → Prop), Sl w S A n c t.blocks → Calls Try.prog 9 #[.agg #[.int .i64 t.frame, .slice A n c], .int .i64 1500] w (RetX (.int .i64 T) w) from fun w S h => HT.out ▸ targetOf_any w S t 1500 A n c h HM.out (by omega))
  obtain ⟨R, hR⟩ : ∃ R, rightT m t = R := ⟨_, rfl⟩
  have HR := hide hR
  have RT := hide (show ∀ (w : World) (S1 S2 S : Nat → Prop), Sl w S1 A1 n1 c1 m.args → Sl w S2 A2 n2 c2 m.saved → Sl w S A n c t.blocks → Calls Try.prog 11 #[.agg #[.int .i64 m.regs, .slice A1 n1 c1, .int .i64 m.ret, .slice A2 n2 c2], .agg #[.int .i64 t.frame, .slice A n c]] w (RetX (.int .i64 R) w) from
    fun w S1 S2 S h1 h2 h => hR ▸ right_any w S S1 S2 m A1 A2 n1 c1 n2 c2 h1 h2 HI.out t A n c h)
  clear hR
  go_enter Try.func3, Try.ntmps3
  go_wp2_with (go_at_call 8; (with_reducible refine (awake_any _).mono ?_); rintro e _ ⟨rfl, ux, rfl⟩)
  obtain ⟨W, hW⟩ : ∃ W, W = (((w.alloc (.cells #[.int .i64 m.regs, .slice A1 n1 c1, .int .i64 m.ret, .slice A2 n2 c2] 24)).alloc (.cells #[.int .i64 t.frame, .slice A n c] 27)).alloc (.cells #[.int .i64 i.op, .int .i64 i.dst, .int .i64 i.a, .int .i64 i.b, .int .i64 i.imm, .int .i64 i.callee, .slice A3 n3 c3, .int .i64 i.many] 30)).ext ux := ⟨_, rfl⟩
  have FB := hide (show Below w.heap.size w W by subst hW; exact (by repeat (first | exact Below.refl _ _ | assumption | exact Hd.out (by assumption) | refine Below.alloc ?_ (by first | omega | (simp [size_ext]; try omega)) _ | refine Below.ext ?_ (by first | omega | (simp [size_ext]; try omega)) _ | refine Below.drew ?_ | refine Below.setCell ?_ (by first | omega | (simp [size_ext]; try omega)) _)))
  have fle : w.heap.size ≤ W.heap.size := by subst hW; simp [size_ext]; omega
  have fz0 : w.heap.size < W.heap.size := by subst hW; simp [size_ext]; omega
  have fz1 : w.heap.size + 1 < W.heap.size := by subst hW; simp [size_ext]; omega
  have fz2 : w.heap.size + 1 + 1 < W.heap.size := by subst hW; simp [size_ext]; omega
  have p0 : W.cell? ⟨w.heap.size, 0, none⟩ = some (.int .i64 m.regs) := by subst hW; go_simp
  have p1 : W.cell? ⟨w.heap.size, 1, none⟩ = some (.slice A1 n1 c1) := by subst hW; go_simp
  have p2 : W.cell? ⟨w.heap.size, 2, none⟩ = some (.int .i64 m.ret) := by subst hW; go_simp
  have p3 : W.cell? ⟨w.heap.size, 3, none⟩ = some (.slice A2 n2 c2) := by subst hW; go_simp
  have q0 : W.cell? ⟨w.heap.size + 1, 0, none⟩ = some (.int .i64 t.frame) := by subst hW; go_simp
  have q1 : W.cell? ⟨w.heap.size + 1, 1, none⟩ = some (.slice A n c) := by subst hW; go_simp
  have r0 : W.cell? ⟨w.heap.size + 1 + 1, 0, none⟩ = some (.int .i64 i.op) := by subst hW; go_simp
  have r1 : W.cell? ⟨w.heap.size + 1 + 1, 1, none⟩ = some (.int .i64 i.dst) := by subst hW; go_simp
  have r2 : W.cell? ⟨w.heap.size + 1 + 1, 2, none⟩ = some (.int .i64 i.a) := by subst hW; go_simp
  have r3 : W.cell? ⟨w.heap.size + 1 + 1, 3, none⟩ = some (.int .i64 i.b) := by subst hW; go_simp
  have r4 : W.cell? ⟨w.heap.size + 1 + 1, 4, none⟩ = some (.int .i64 i.imm) := by subst hW; go_simp
  have r5 : W.cell? ⟨w.heap.size + 1 + 1, 5, none⟩ = some (.int .i64 i.callee) := by subst hW; go_simp
  have r6 : W.cell? ⟨w.heap.size + 1 + 1, 6, none⟩ = some (.slice A3 n3 c3) := by subst hW; go_simp
  have r7 : W.cell? ⟨w.heap.size + 1 + 1, 7, none⟩ = some (.int .i64 i.many) := by subst hW; go_simp
  have K1 : Hd (Sl W S1 A1 n1 c1 m.args) := hide (by subst hW; exact (by repeat (first | assumption | exact Hd.out (by assumption) | apply Sl.alloc | apply Sl.ext | apply Sl.drew | apply Sl.drewN)))
  have K2 : Hd (Sl W S2 A2 n2 c2 m.saved) := hide (by subst hW; exact (by repeat (first | assumption | exact Hd.out (by assumption) | apply Sl.alloc | apply Sl.ext | apply Sl.drew | apply Sl.drewN)))
  have K3 : Hd (Sl W S3 A3 n3 c3 i.args) := hide (by subst hW; exact (by repeat (first | assumption | exact Hd.out (by assumption) | apply Sl.alloc | apply Sl.ext | apply Sl.drew | apply Sl.drewN)))
  have KB : Hd (Sl W S A n c t.blocks) := hide (by subst hW; exact (by repeat (first | assumption | exact Hd.out (by assumption) | apply Sl.alloc | apply Sl.ext | apply Sl.drew | apply Sl.drewN)))
  rw [← hW]
  clear hW H1 H2 H3 HS ux
  by_cases g : T + ((n1 : Int) + n2) + n3 > 1500
  · have gd : decide (T + ((n1 : Int) + n2) + n3 > 1500) = true := by simpa using g
    refine wp_region_ext (by kernel_rfl) (by kernel_rfl) ?_
    repeat (any_goals (first | go_big_quiet_step ((first | (go_at_call 9; with_reducible exact quiet_retx (TGT.out _ S (KB.out.ext _))) | (go_at_call 10; with_reducible exact quiet_retx (machineOf_any _ (fun _ => True) m A1 A2 n1 c1 n2 c2 ((K1.out.more fun _ _ _ => trivial).ext _) ((K2.out.more fun _ _ _ => trivial).ext _) hb)))) | quiet_step ((first | (go_at_call 9; with_reducible exact quiet_retx (TGT.out _ S (KB.out.ext _))) | (go_at_call 10; with_reducible exact quiet_retx (machineOf_any _ (fun _ => True) m A1 A2 n1 c1 n2 c2 ((K1.out.more fun _ _ _ => trivial).ext _) ((K2.out.more fun _ _ _ => trivial).ext _) hb))))))
    refine wpQuiet_nil ?_
    rintro _ ⟨uq, rfl⟩
    go_wp2
    go_ret; exact RetX.b rfl (by repeat (first | exact Below.refl _ _ | assumption | exact Hd.out (by assumption) | refine Below.alloc ?_ (by first | omega | (simp [size_ext]; try omega)) _ | refine Below.ext ?_ (by first | omega | (simp [size_ext]; try omega)) _ | refine Below.drew ?_ | refine Below.setCell ?_ (by first | omega | (simp [size_ext]; try omega)) _))
  have gd : decide (T + ((n1 : Int) + n2) + n3 > 1500) = false := by simpa using g
  by_cases hr0 : R = 0
  case neg =>
    have gr : (R != 0) = true := by simpa using hr0
    refine wp_region_ext (by kernel_rfl) (by kernel_rfl) ?_
    repeat (any_goals (first | go_big_quiet_step ((first | (go_at_call 9; with_reducible exact quiet_retx (TGT.out _ S (KB.out.ext _))) | (go_at_call 10; with_reducible exact quiet_retx (machineOf_any _ (fun _ => True) m A1 A2 n1 c1 n2 c2 ((K1.out.more fun _ _ _ => trivial).ext _) ((K2.out.more fun _ _ _ => trivial).ext _) hb)) | (go_at_call 11; with_reducible exact quiet_retx (RT.out _ S1 S2 S (K1.out.ext _) (K2.out.ext _) (KB.out.ext _))))) | quiet_step ((first | (go_at_call 9; with_reducible exact quiet_retx (TGT.out _ S (KB.out.ext _))) | (go_at_call 10; with_reducible exact quiet_retx (machineOf_any _ (fun _ => True) m A1 A2 n1 c1 n2 c2 ((K1.out.more fun _ _ _ => trivial).ext _) ((K2.out.more fun _ _ _ => trivial).ext _) hb)) | (go_at_call 11; with_reducible exact quiet_retx (RT.out _ S1 S2 S (K1.out.ext _) (K2.out.ext _) (KB.out.ext _)))))))
    refine wpQuiet_nil ?_
    rintro _ ⟨uq, rfl⟩
    go_wp2
    go_ret; exact RetX.b rfl (by repeat (first | exact Below.refl _ _ | assumption | exact Hd.out (by assumption) | refine Below.alloc ?_ (by first | omega | (simp [size_ext]; try omega)) _ | refine Below.ext ?_ (by first | omega | (simp [size_ext]; try omega)) _ | refine Below.drew ?_ | refine Below.setCell ?_ (by first | omega | (simp [size_ext]; try omega)) _))
  have gr : (R != 0) = false := by simpa using hr0
  have hz := HR.out.trans hr0
  have hT1 : T ≤ 1500 := by omega
  have WIDE := hide (wide_all hz)
  have ONE := hide (right_one (i := i) hz)
  have MORE := hide (fun k x hx hl => right_more (i := i) (k := k) (x := x) hz hx hl)
  have HZ := hide hz
  clear hr0 hz
  refine wp_region_ext (by kernel_rfl) (by kernel_rfl) ?_
  repeat (any_goals (first | go_big_quiet_step ((first | (go_at_call 9; with_reducible exact quiet_retx (TGT.out _ S (KB.out.ext _))) | (go_at_call 10; with_reducible exact quiet_retx (machineOf_any _ (fun _ => True) m A1 A2 n1 c1 n2 c2 ((K1.out.more fun _ _ _ => trivial).ext _) ((K2.out.more fun _ _ _ => trivial).ext _) hb)) | (go_at_call 11; with_reducible exact quiet_retx (RT.out _ S1 S2 S (K1.out.ext _) (K2.out.ext _) (KB.out.ext _))))) | quiet_step ((first | (go_at_call 9; with_reducible exact quiet_retx (TGT.out _ S (KB.out.ext _))) | (go_at_call 10; with_reducible exact quiet_retx (machineOf_any _ (fun _ => True) m A1 A2 n1 c1 n2 c2 ((K1.out.more fun _ _ _ => trivial).ext _) ((K2.out.more fun _ _ _ => trivial).ext _) hb)) | (go_at_call 11; with_reducible exact quiet_retx (RT.out _ S1 S2 S (K1.out.ext _) (K2.out.ext _) (KB.out.ext _)))))))
  refine wpQuiet_nil ?_
  rintro _ ⟨uq, rfl⟩
  clear gd gr g hw hw2 TGT RT
  go_wp2_with fail
  refine name_calls fun W2 hW2 => ?_
  have F2 := hide (show Below W.heap.size W W2 by subst hW2; exact (by repeat (first | exact Below.refl _ _ | assumption | exact Hd.out (by assumption) | refine Below.alloc ?_ (by first | omega | (simp [size_ext]; try omega)) _ | refine Below.ext ?_ (by first | omega | (simp [size_ext]; try omega)) _ | refine Below.drew ?_ | refine Below.setCell ?_ (by first | omega | (simp [size_ext]; try omega)) _)))
  obtain ⟨Z, hZ⟩ : ∃ Z, Z = W.heap.size + uq.blocks.size := ⟨_, rfl⟩
  have hZ2 : W2.heap.size = Z + 1 + 1 + 1 + 1 + 1 := by subst hW2 hZ; simp [size_ext]
  have hZ0 : W.heap.size ≤ Z := by omega
  have SI : Sl W2 (fun _ => True) (some ⟨Z + 1 + 1 + 1, 0, none⟩) 1 1 [(⟨[i], trapT⟩ : Block)] := by
    subst hW2 hZ
    refine (Sl.lit (S := fun _ => True) (w := (((W.ext uq).alloc _).alloc _).alloc _) (n := 1) (by simp [size_ext]) (RepL.single (blk_trap (A := some ⟨W.heap.size + uq.blocks.size + 1 + 1, 0, none⟩) (n := 1) (c := 1) ?_)) rfl (by decide) (fun _ _ => trivial) trivial).alloc _
    exact Sl.lit (S := fun _ => True) (w := ((W.ext uq).alloc _).alloc _) (n := 1) (by simp [size_ext]) (RepL.single (Ins.mk_ I0.out I1.out I2.out I3.out I4.out I5.out (((((K3.out.more (S' := fun _ => True) fun _ _ _ => trivial).ext uq).alloc _).alloc _)) I7.out)) rfl (by decide) (fun _ _ => trivial) trivial
  have n0 : W2.cell? ⟨Z, 0, none⟩ = some (.int .i64 64) := by subst hW2 hZ; go_simp
  have n1' : W2.cell? ⟨Z, 1, none⟩ = some (.slice A1 n1 c1) := by subst hW2 hZ; go_simp
  have n2' : W2.cell? ⟨Z, 2, none⟩ = some (.int .i64 m.ret) := by subst hW2 hZ; go_simp
  have n3' : W2.cell? ⟨Z, 3, none⟩ = some (.slice A2 n2 c2) := by subst hW2 hZ; go_simp
  have u0 : W2.cell? ⟨Z + 1, 0, none⟩ = some (.int .i64 400) := by subst hW2 hZ; go_simp
  have u1 : W2.cell? ⟨Z + 1, 1, none⟩ = some (.slice A n c) := by subst hW2 hZ; go_simp
  simp only [← hZ]
  have F2Z : Z + 1 < W2.heap.size := by omega
  have F2Y : Z < W2.heap.size := by omega
  have KA1 := hide (K1.out.belowAll F2.out); have KA2 := hide (K2.out.belowAll F2.out); have KAB := hide (KB.out.belowAll F2.out)
  have gz0 : w.heap.size < W2.heap.size := by omega
  have gz1 : w.heap.size + 1 < W2.heap.size := by omega
  have gz2 : w.heap.size + 1 + 1 < W2.heap.size := by omega
  have P0 := (F2.out.cell (p := ⟨w.heap.size, 0, none⟩) fz0).trans p0
  have P1 := (F2.out.cell (p := ⟨w.heap.size, 1, none⟩) fz0).trans p1
  have P2 := (F2.out.cell (p := ⟨w.heap.size, 2, none⟩) fz0).trans p2
  have P3 := (F2.out.cell (p := ⟨w.heap.size, 3, none⟩) fz0).trans p3
  have Q0 := (F2.out.cell (p := ⟨w.heap.size + 1, 0, none⟩) fz1).trans q0
  have Q1 := (F2.out.cell (p := ⟨w.heap.size + 1, 1, none⟩) fz1).trans q1
  have R0 := (F2.out.cell (p := ⟨w.heap.size + 1 + 1, 0, none⟩) fz2).trans r0
  have R1 := (F2.out.cell (p := ⟨w.heap.size + 1 + 1, 1, none⟩) fz2).trans r1
  have R2 := (F2.out.cell (p := ⟨w.heap.size + 1 + 1, 2, none⟩) fz2).trans r2
  have R3 := (F2.out.cell (p := ⟨w.heap.size + 1 + 1, 3, none⟩) fz2).trans r3
  have R4 := (F2.out.cell (p := ⟨w.heap.size + 1 + 1, 4, none⟩) fz2).trans r4
  have R5 := (F2.out.cell (p := ⟨w.heap.size + 1 + 1, 5, none⟩) fz2).trans r5
  have R6 := (F2.out.cell (p := ⟨w.heap.size + 1 + 1, 6, none⟩) fz2).trans r6
  have R7 := (F2.out.cell (p := ⟨w.heap.size + 1 + 1, 7, none⟩) fz2).trans r7
  have K3A := hide (K3.out.belowAll F2.out)
  have FW := hide (show Below w.heap.size w W2 from FB.out.trans (F2.out.mono fle))
  have fle2 : w.heap.size ≤ W2.heap.size := by omega
  obtain ⟨E, hE⟩ : ∃ E, insP m t.frame i = E := ⟨_, rfl⟩
  have hE1 := hide (ONE.out.trans hE)
  have HE := hide hE
  clear hW2 hZ hE hZ2 hZ0 p0 p1 p2 p3 q0 q1 r0 r1 r2 r3 r4 r5 r6 r7 fz0 fz1 fz2
  refine (right_val W2 (fun _ => True) S1 S2 m A1 A2 n1 c1 n2 c2 KA1.out KA2.out HI.out ⟨t.frame, [⟨[i], trapT⟩]⟩ (some ⟨Z + 1 + 1 + 1, 0, none⟩) 1 1 SI hE1.out).mono ?_
  rintro e' _ ⟨rfl, ux, rfl⟩
  clear SI
  go_wp2_with fail
  refine (copyTarget_r (W2.ext ux) S A n c t (KAB.out.ext ux) ⟨HM.out.1, HM.out.2⟩).mono ?_
  rintro e' _ ⟨B0, m0, e0, So, ys, rfl, ho, hys, hpw, hso, uy, rfl⟩
  have hyl : ys.length = n := by have := congrArg List.length hys; rw [List.length_map, HN.out] at this; exact this
  have hmn : m0 = n := by
    obtain ⟨A', c', h'⟩ := ho.form
    simp only [Value.slice.injEq] at h'
    rw [h'.2.1, hyl]
  obtain rfl : n = m0 := hmn.symm
  have HO := hide ho; have HSO := hide hso; have HYS := hide hys; have HPW := hide hpw; have HYL := hide hyl
  clear ho hso hmn hys hpw hyl
  have hnI : InI (n : Int) := by unfold InI; omega
  have hn0 : 0 < n := by
    have := (rightT_zero.1 HZ.out).n0
    rw [HN.out] at this; omega
  obtain ⟨pk, hpk⟩ : ∃ pk, pickI at_ n = pk := ⟨_, rfl⟩
  have hpr := pick_in (x := at_) hn0
  rw [hpk] at hpr
  obtain ⟨k, rfl⟩ := Int.eq_ofNat_of_zero_le hpr.1
  have hkn : k < n := by omega
  have HPK := hide (show ∀ w, Calls Try.prog 13 #[.int .i64 at_, .int .i64 n] w (Ret (.int .i64 (k : Int)) w) from fun w => hpk ▸ pick_any at_ n w HAT.out hnI)
  clear hpk hpr hnI
  go_wp2_with fail
  refine (HPK.out _).mono ?_
  rintro e' w' ⟨rfl, rfl⟩
  go_upto_region 13 with (fail)
  refine name_world fun W4 hW4 => ?_
  obtain ⟨V, hV⟩ : ∃ V, V = W2.heap.size + ux.blocks.size + uy.blocks.size := ⟨_, rfl⟩
  have hVm : ((W2.ext ux).ext uy).heap.size = V := by rw [size_ext, size_ext]; exact hV.symm
  have hV4 : V < W4.heap.size := by subst hW4; simp [size_ext, hV]
  have F4 := hide (show Below W2.heap.size W2 W4 by subst hW4; exact (by repeat (first | exact Below.refl _ _ | assumption | exact Hd.out (by assumption) | refine Below.alloc ?_ (by first | omega | (simp [size_ext]; try omega)) _ | refine Below.ext ?_ (by first | omega | (simp [size_ext]; try omega)) _ | refine Below.drew ?_ | refine Below.setCell ?_ (by first | omega | (simp [size_ext]; try omega)) _)))
  have F4u := hide (show Below ((W2.ext ux).ext uy).heap.size ((W2.ext ux).ext uy) W4 by subst hW4; exact (by repeat (first | exact Below.refl _ _ | assumption | exact Hd.out (by assumption) | refine Below.alloc ?_ (by first | omega | (simp [size_ext]; try omega)) _ | refine Below.ext ?_ (by first | omega | (simp [size_ext]; try omega)) _ | refine Below.drew ?_ | refine Below.setCell ?_ (by first | omega | (simp [size_ext]; try omega)) _)))
  have v0 : W4.cell? ⟨V, 0, none⟩ = some (.int .i64 t.frame) := by subst hW4 hV; go_simp
  have v1 : W4.cell? ⟨V, 1, none⟩ = some (.slice B0 n e0) := by subst hW4 hV; go_simp
  have HO4 := hide (HO.out.keep F4u.out.size (fun b hb hl => F4u.out.block b hl) (fun g hg => F4u.out.block g (HO.out.below_ g hg).2))
  simp only [← hV]
  have ZL : W2.heap.size ≤ W4.heap.size := F4.out.size
  have S0 := (F4.out.cell (p := ⟨w.heap.size + 1 + 1, 0, none⟩) gz2).trans R0
  have S1' := (F4.out.cell (p := ⟨w.heap.size + 1 + 1, 1, none⟩) gz2).trans R1
  have S2' := (F4.out.cell (p := ⟨w.heap.size + 1 + 1, 2, none⟩) gz2).trans R2
  have S3' := (F4.out.cell (p := ⟨w.heap.size + 1 + 1, 3, none⟩) gz2).trans R3
  have S4' := (F4.out.cell (p := ⟨w.heap.size + 1 + 1, 4, none⟩) gz2).trans R4
  have S5' := (F4.out.cell (p := ⟨w.heap.size + 1 + 1, 5, none⟩) gz2).trans R5
  have S6' := (F4.out.cell (p := ⟨w.heap.size + 1 + 1, 6, none⟩) gz2).trans R6
  have S7' := (F4.out.cell (p := ⟨w.heap.size + 1 + 1, 7, none⟩) gz2).trans R7
  have hbase : (W2.ext ux).heap.size = W2.heap.size + ux.blocks.size := size_ext _ _
  obtain ⟨y, hy⟩ : ∃ y, ys[k]? = some y := ⟨_, List.getElem?_eq_getElem (by rw [HYL.out]; exact hkn)⟩
  have hxk : t.blocks[k]? = some y.blk := by rw [← HYS.out, List.getElem?_map, hy]; rfl
  obtain ⟨g, e1, hB0, hne1, hem⟩ := HO4.out.form_pos HYL.out hn0
  injection hB0 with hb1 hb2 hb3
  subst hb1 hb3
  obtain ⟨us, hus, hcs, hfz⟩ := HO4.out.cell_at hy
  have hgr : W2.heap.size + ux.blocks.size ≤ g ∧ g < V := by
    have h1 := HO.out.below_ g rfl
    rw [hVm, hbase] at h1; exact h1
  obtain ⟨A', c', rfl, hor, j1, j2, j3, j4⟩ := BlockR.open_ hus
  obtain ⟨n', hn'⟩ : ∃ n', n' = y.blk.r.ins.l.length := ⟨_, rfl⟩
  have k0 : W4.cell? ⟨g, k * 5, none⟩ = some (.slice A' n' c') := by rw [hn']; exact hcs 0 _ rfl
  have kf : W4.frozen? ⟨g, k * 5, none⟩ = false := hfz _
  rw [← hn'] at hor
  obtain ⟨So2, ⟨vals, hrow, hrl, hno⟩, hown, hso2⟩ := hor
  obtain ⟨it, hit, hzt, hz1t, hz2t⟩ := info_parts info_Ins
  have hlenb : y.blk.ins.length ≤ 1048576 := (HM.out.2 _ (List.mem_of_getElem? hxk)).1
  have hgI : ∀ b, (Value.slice A' n' c').ownBlock = some b → b ≠ g ∧ W2.heap.size ≤ b ∧ b < V := fun b hb => by
    have h1 := hown b hb
    have h2 := HSO.out b h1.1
    rw [hVm, hbase] at h2
    refine ⟨fun h => ?_, by omega, h2.2⟩
    obtain ⟨_, _, _, h3⟩ := HO4.out
    exact h3 g rfl (h ▸ h1.1)
  have nF : (W4.alloc (.cells #[.int .i64 i.op, .int .i64 i.dst, .int .i64 i.a, .int .i64 i.b, .int .i64 i.imm, .int .i64 i.callee, .slice A3 n3 c3, .int .i64 i.many] 30)).drew.frozen? ⟨g, k * 5, none⟩ = false := (World.frozen?_of_block (Below.heap_alloc W4 _ g (by show g < _; omega))).trans kf
  have KEEP := hide (show ∀ w', (W4.alloc (.cells #[.int .i64 i.op, .int .i64 i.dst, .int .i64 i.a, .int .i64 i.b, .int .i64 i.imm, .int .i64 i.callee, .slice A3 n3 c3, .int .i64 i.many] 30)).grownBy w' (Value.slice A' n' c').ownBlock → w'.cell? ⟨V, 1, none⟩ = some (.slice (some ⟨g, 0, none⟩) n e0) ∧ w'.cell? ⟨g, k * 5, none⟩ = some (.slice A' n' c') ∧ w'.frozen? ⟨g, k * 5, none⟩ = false from fun w' hg => by
    have hc : ∀ b j, b < W4.heap.size → (∀ q, (Value.slice A' n' c').ownBlock = some q → q ≠ b) → w'.cell? ⟨b, j, none⟩ = W4.cell? ⟨b, j, none⟩ := fun b j hb hq =>
      (hg.cell_far ⟨b, j, none⟩ (by simp; omega) (fun h => hq b h.symm rfl)).trans (World.cell?_of_block (Below.heap_alloc W4 _ b hb))
    refine ⟨(hc _ _ hV4 fun q hq => by have := hgI q hq; omega).trans v1, (hc _ _ (by omega) fun q hq => (hgI q hq).1).trans k0, ?_⟩
    exact (hg.frozen_far ⟨g, k * 5, none⟩ (by simp; omega) (fun h => (hgI g h.symm).1 rfl)).trans ((World.frozen?_of_block (Below.heap_alloc W4 _ g (by show g < _; omega))).trans kf))
  have SL3 := hide (show Sl w (fun b => b < w.heap.size) A3 n3 c3 i.args from HW3.out)
  have F4w := hide (show Below w.heap.size w W4 from FW.out.trans (F4.out.mono fle2))
  have HROW := hide hrow; have HRL := hide hrl; have HNO := hide hno; have HOWN := hide hown; have HSO2 := hide hso2; have HGI := hide hgI; have HN' := hide hn'; have HXK := hide hxk; have HY := hide hy
  have HIT := hide hit; have HZT := hide hzt; have HZ1 := hide hz1t; have HZ2 := hide hz2t
  have hk5 : (k : Int) < n := by omega
  have hk0 : (0 : Int) ≤ k := by omega
  have hn5 : (n : Int) ≤ e0 := by have := HO4.out.form_at; omega
  have hg4 : g < W4.heap.size := by omega
  have nV := World.new_ne W4 ⟨V, 1, none⟩ v1
  have nG := World.new_ne W4 ⟨g, k * 5, none⟩ k0
  have nI := World.new_ne W4 ⟨w.heap.size + 1 + 1, 0, none⟩ S0
  clear hrow hrl hno hown hso2 hgI hn' hxk hy hit hzt hz1t hz2t hW4 hV hVm hbase hus hcs hfz HYL
  go_cut [68] (fun s68 wc => ∃ (gg cap : Nat) (w1 : World) (o : Obj), wc = w1.setCell ⟨g, k * 5, none⟩ (.slice (some ⟨gg, 0, none⟩) (y.blk.r.ins.l.length + 1) cap) ∧ w1.ownsRow 0 30 8 (.slice (some ⟨gg, 0, none⟩) (y.blk.r.ins.l.length + 1) cap) (y.blk.r.ins.l.length + 1) (vals ++ [.int .i64 i.op, .int .i64 i.dst, .int .i64 i.a, .int .i64 i.b, .int .i64 i.imm, .int .i64 i.callee, .slice A3 n3 c3, .int .i64 i.many]) ∧ (W4.alloc o).grownBy w1 (Value.slice A' n' c').ownBlock ∧ ((Value.slice A' n' c').ownBlock = some gg ∨ gg = W4.heap.size + 1))
  case first =>
    go_region_law ((refine step_append_lies _ (by rfl) (.tmp 63) (.tmp 65) 36 (by rfl) 0 30 it _ 8 80 Try.underlying36 HIT.out HZT.out HZ1.out HZ2.out (by rfl) (by decide) (.slice A' n' c') y.blk.r.ins.l.length vals (by rfl) (by exact HROW.out.alloc _) ⟨W4.heap.size, 0, none⟩ 1 1 [.int .i64 i.op, .int .i64 i.dst, .int .i64 i.a, .int .i64 i.b, .int .i64 i.imm, .int .i64 i.callee, .slice A3 n3 c3, .int .i64 i.many] (by rfl) (by rfl) (by exact World.news_of_block (heap_alloc_new _ _)) (by simp [Value.oneCell']) (by decide) (by simp [maxLen, Block.r]; omega) (by simp [Block.r]; omega) (Nat.zero_le _) (W4.heap.size + 1) (by simp) ?_; intro gg cap w1 hown1 hgrow hat hlt; obtain ⟨q1, q2, q3⟩ := KEEP.out _ ⟨hgrow.os, hgrow.tape, hgrow.output, hgrow.size, hgrow.block⟩))
    all_goals go_wp2_with fail
    all_goals go_meet
    all_goals exact ⟨gg, cap, w1, _, rfl, hown1, ⟨hgrow.os, hgrow.tape, hgrow.output, hgrow.size, hgrow.block⟩, hat⟩
  case rest =>
    obtain ⟨gg, cap, w1, o, hwc, hown1, hgrow, hat⟩ := hcut
    subst hwc
    have hsz1 := hgrow.size
    simp only [World.size_alloc] at hsz1
    have hgI' := HGI.out
    have hkeep : ∀ b, b < W4.heap.size → (∀ q, (Value.slice A' n' c').ownBlock = some q → q ≠ b) → w1.heap[b]? = W4.heap[b]? := fun b hb hq =>
      (hgrow.block b (by simp; omega) (fun h => hq b h.symm rfl)).trans (Below.heap_alloc W4 o b hb)
    have B1 : Below W2.heap.size W4 w1 := ⟨hgrow.os, hgrow.tape, hgrow.output, by omega, fun b hb => hkeep b (by omega) fun q hq => by have := hgI' q hq; omega⟩
    have B2 : Below W2.heap.size W2 (w1.setCell ⟨g, k * 5, none⟩ (.slice (some ⟨gg, 0, none⟩) (y.blk.r.ins.l.length + 1) cap)) := (F4.out.trans B1).setCell (p := ⟨g, k * 5, none⟩) (by show W2.heap.size ≤ g; omega) _
    have hV5 : ∀ j, (w1.setCell ⟨g, k * 5, none⟩ (.slice (some ⟨gg, 0, none⟩) (y.blk.r.ins.l.length + 1) cap)).cell? ⟨V, j, none⟩ = W4.cell? ⟨V, j, none⟩ := fun j =>
      World.cell?_of_block ((Below.heap_setCell w1 ⟨g, k * 5, none⟩ _ V (by show V ≠ g; omega)).trans (hkeep V hV4 fun q hq => by have := hgI' q hq; omega))
    have SV := more_sl (own := (Value.slice A' n' c').ownBlock) (S3 := fun b => b < w.heap.size) HO4.out HY.out HPW.out HRL.out rfl HNO.out (fun b hb => HOWN.out b hb) (fun b hb => ⟨(HSO2.out b hb).1.1, (HSO2.out b hb).2⟩) hown1
      (Ins.mk_ I0.out I1.out I2.out I3.out I4.out I5.out (SL3.out.belowAll F4w.out) I7.out) (fun b hb => ⟨fun h => by have := hgI' b h.symm; omega, by omega, by omega⟩)
      (fun b hb hne => hkeep b hb fun q hq h => hne (h ▸ hq.symm)) (by omega) (by rcases hat with h | h; exact .inl h; exact .inr (by omega))
    rw [HYS.out] at SV
    refine name_k fun W5 hW5 => ?_
    have F5 := hide (show Below W2.heap.size W2 W5 by subst hW5; exact B2)
    have SV5 := hide (show Sl W5 (fun _ => True) (some ⟨g, 0, none⟩) n e0 (t.blocks.set k ⟨y.blk.ins ++ [i], y.blk.term⟩) by subst hW5; exact SV)
    have y0 : W5.cell? ⟨V, 0, none⟩ = some (.int .i64 t.frame) := by subst hW5; exact (hV5 0).trans v0
    have y1 : W5.cell? ⟨V, 1, none⟩ = some (.slice (some ⟨g, 0, none⟩) n e0) := by subst hW5; exact (hV5 1).trans v1
    have hV5' : V < W5.heap.size := by subst hW5; simp; omega
    have hge5 : W2.heap.size ≤ W5.heap.size := F5.out.size
    have XP0 := (F5.out.cell (p := ⟨w.heap.size, 0, none⟩) gz0).trans P0
    have XP1 := (F5.out.cell (p := ⟨w.heap.size, 1, none⟩) gz0).trans P1
    have XP2 := (F5.out.cell (p := ⟨w.heap.size, 2, none⟩) gz0).trans P2
    have XP3 := (F5.out.cell (p := ⟨w.heap.size, 3, none⟩) gz0).trans P3
    have XQ0 := (F5.out.cell (p := ⟨w.heap.size + 1, 0, none⟩) gz1).trans Q0
    have XQ1 := (F5.out.cell (p := ⟨w.heap.size + 1, 1, none⟩) gz1).trans Q1
    have Xn0 := (F5.out.cell (p := ⟨Z, 0, none⟩) F2Y).trans n0
    have Xn1 := (F5.out.cell (p := ⟨Z, 1, none⟩) F2Y).trans n1'
    have Xn2 := (F5.out.cell (p := ⟨Z, 2, none⟩) F2Y).trans n2'
    have Xn3 := (F5.out.cell (p := ⟨Z, 3, none⟩) F2Y).trans n3'
    have Xu0 := (F5.out.cell (p := ⟨Z + 1, 0, none⟩) F2Z).trans u0
    have Xu1 := (F5.out.cell (p := ⟨Z + 1, 1, none⟩) F2Z).trans u1
    have D1 := hide (KA1.out.belowAll F5.out); have D2 := hide (KA2.out.belowAll F5.out); have DB := hide (KAB.out.belowAll F5.out)
    have FW5 := hide (show Below w.heap.size w W5 from FW.out.trans (F5.out.mono fle2))
    have hz5 : w.heap.size < W5.heap.size := by omega
    have hz6 : w.heap.size + 1 < W5.heap.size := by omega
    have hz7 : Z < W5.heap.size := by omega
    have hz8 : Z + 1 < W5.heap.size := by omega
    have hwd := WIDE.out
    have G1 := hide (fun (w' : World) (hw' : Below W5.heap.size W5 w') => show Calls Try.prog 11 #[.agg #[.int .i64 64, .slice A1 n1 c1, .int .i64 m.ret, .slice A2 n2 c2], .agg #[.int .i64 t.frame, .slice A n c]] w' (RetX (.int .i64 0) w') from right_val w' S S1 S2 (wideM m) A1 A2 n1 c1 n2 c2 (D1.out.belowAll hw') (D2.out.belowAll hw') HI.out t A n c (DB.out.belowAll hw') hwd.1)
    have G2 := hide (fun (w' : World) (hw' : Below W5.heap.size W5 w') => show Calls Try.prog 11 #[.agg #[.int .i64 m.regs, .slice A1 n1 c1, .int .i64 m.ret, .slice A2 n2 c2], .agg #[.int .i64 400, .slice A n c]] w' (RetX (.int .i64 0) w') from right_val w' S S1 S2 m A1 A2 n1 c1 n2 c2 (D1.out.belowAll hw') (D2.out.belowAll hw') HI.out ⟨400, t.blocks⟩ A n c (DB.out.belowAll hw') hwd.2.1)
    have G3 := hide (fun (w' : World) (hw' : Below W5.heap.size W5 w') => show Calls Try.prog 11 #[.agg #[.int .i64 64, .slice A1 n1 c1, .int .i64 m.ret, .slice A2 n2 c2], .agg #[.int .i64 400, .slice A n c]] w' (RetX (.int .i64 0) w') from right_val w' S S1 S2 (wideM m) A1 A2 n1 c1 n2 c2 (D1.out.belowAll hw') (D2.out.belowAll hw') HI.out ⟨400, t.blocks⟩ A n c (DB.out.belowAll hw') hwd.2.2)
    have hmore : rightT m ⟨t.frame, t.blocks.set k ⟨y.blk.ins ++ [i], y.blk.term⟩⟩ = E := (MORE.out k y.blk HXK.out (by have := blocks_small (most := 1500) HT.out hT1 rfl (List.mem_of_getElem? HXK.out); omega)).trans HE.out
    have G4 := hide (fun (w' : World) (hw' : Below W5.heap.size W5 w') => show Calls Try.prog 11 #[.agg #[.int .i64 m.regs, .slice A1 n1 c1, .int .i64 m.ret, .slice A2 n2 c2], .agg #[.int .i64 t.frame, .slice (some ⟨g, 0, none⟩) n e0]] w' (RetX (.int .i64 E) w') from right_val w' (fun _ => True) S1 S2 m A1 A2 n1 c1 n2 c2 (D1.out.belowAll hw') (D2.out.belowAll hw') HI.out ⟨t.frame, t.blocks.set k ⟨y.blk.ins ++ [i], y.blk.term⟩⟩ (some ⟨g, 0, none⟩) n e0 (SV5.out.belowAll hw') hmore)
    clear hW5 SV hV5 B1 B2 hkeep hsz1 hgrow hown1 hat hmore hwd hgI' P0 P1 P2 P3 Q0 Q1 R0 R1 R2 R3 R4 R5 R6 R7 n0 n1' n2' n3' u0 u1 v0 v1 S0 S1' S2' S3' S4' S5' S6' S7' k0 kf nF nV nG nI
    go_upto_region 14 with (fail)
    go_wp2_with (first | (go_at_call 11; (with_reducible refine (G1.out _ (by repeat (first | exact Below.refl _ _ | assumption | exact Hd.out (by assumption) | refine Below.alloc ?_ (by first | omega | (simp [size_ext]; try omega)) _ | refine Below.ext ?_ (by first | omega | (simp [size_ext]; try omega)) _ | refine Below.drew ?_ | refine Below.setCell ?_ (by first | omega | (simp [size_ext]; try omega)) _))).mono ?_); rintro e _ ⟨rfl, ux, rfl⟩) | (go_at_call 11; (with_reducible refine (G2.out _ (by repeat (first | exact Below.refl _ _ | assumption | exact Hd.out (by assumption) | refine Below.alloc ?_ (by first | omega | (simp [size_ext]; try omega)) _ | refine Below.ext ?_ (by first | omega | (simp [size_ext]; try omega)) _ | refine Below.drew ?_ | refine Below.setCell ?_ (by first | omega | (simp [size_ext]; try omega)) _))).mono ?_); rintro e _ ⟨rfl, ux, rfl⟩) | (go_at_call 11; (with_reducible refine (G3.out _ (by repeat (first | exact Below.refl _ _ | assumption | exact Hd.out (by assumption) | refine Below.alloc ?_ (by first | omega | (simp [size_ext]; try omega)) _ | refine Below.ext ?_ (by first | omega | (simp [size_ext]; try omega)) _ | refine Below.drew ?_ | refine Below.setCell ?_ (by first | omega | (simp [size_ext]; try omega)) _))).mono ?_); rintro e _ ⟨rfl, ux, rfl⟩) | (go_at_call 11; (with_reducible refine (G4.out _ (by repeat (first | exact Below.refl _ _ | assumption | exact Hd.out (by assumption) | refine Below.alloc ?_ (by first | omega | (simp [size_ext]; try omega)) _ | refine Below.ext ?_ (by first | omega | (simp [size_ext]; try omega)) _ | refine Below.drew ?_ | refine Below.setCell ?_ (by first | omega | (simp [size_ext]; try omega)) _))).mono ?_); rintro e _ ⟨rfl, ux, rfl⟩))
    go_ret
    exact RetX.b rfl (by repeat (first | exact Below.refl _ _ | assumption | exact Hd.out (by assumption) | refine Below.alloc ?_ (by first | omega | (simp [size_ext]; try omega)) _ | refine Below.ext ?_ (by first | omega | (simp [size_ext]; try omega)) _ | refine Below.drew ?_ | refine Below.setCell ?_ (by first | omega | (simp [size_ext]; try omega)) _))
end Go.Proofs.Ytahblhiolkdnnaa
