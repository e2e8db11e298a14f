/- Walk: MrunAgain. -/
import Derived.Test.YtkjipgelbjaggaaM46
import Derived.Test.YtkjipgelbjaggaaM48
import Derived.Test.YtkjipgelbjaggaaM49
set_option linter.unusedSimpArgs false
set_option linter.unusedVariables false
namespace Go.Proofs.Ytkjipgelbjaggaa
open Go.RowKit Go.Maps
theorem size9_any (w : World) (A3 A4 A5 A6 : Option Addr) (n3 c3 n4 c4 n5 c5 n6 c6 : Nat) (hb : n3 ≤ 1048576 ∧ n4 ≤ 1048576 ∧ n5 ≤ 1048576 ∧ n6 ≤ 1048576) :
    Calls Try.prog 10 #[.agg #[.slice A3 n3 c3, .slice A4 n4 c4, .slice A5 n5 c5, .slice A6 n6 c6]] w (RetX (.int .i64 ((n3 : Int) + n4 + n5 + n6)) w) := by
  obtain ⟨b1, b2, b3, b4⟩ := hb
  go_enter Try.func10, Try.ntmps10
  go_wp2; go_ret; exact RetX.i rfl (by repeat (first | exact Below.refl _ _ | assumption | refine Below.alloc ?_ (by simp [size_ext]; try omega) _ | refine Below.ext ?_ (by simp [size_ext]; try omega) _ | refine Below.drew ?_ | refine Below.setCell ?_ (by simp [size_ext]; try omega) _))
theorem pickI_in (x n : Int) (h : 1 ≤ n) : 0 ≤ pickI x n ∧ pickI x n < n := by
  have h1 := Int.tmod_lt_of_pos x (show 0 < n by omega)
  have h2 := Int.lt_tmod_of_pos x (show 0 < n by omega)
  unfold pickI
  rw [if_neg (by omega)]
  split <;> omega
section
variable (w : World) (S1 S2 S3 S4 S5 S6 S7 : Nat → Prop) (m : Machine) (A1 A2 : Option Addr) (n1 c1 n2 c2 : Nat) (h1 : Sl w S1 A1 n1 c1 m.args) (h2 : Sl w S2 A2 n2 c2 m.saved) (hi : InI m.ret) (t : Target) (A : Option Addr) (n c : Nat) (h : Sl w S3 A n c t.blocks)
    (A3 A4 A5 A6 : Option Addr) (n3 c3 n4 c4 n5 c5 n6 c6 : Nat) (args mem answers first : List Int) (h3 : Sl w S4 A3 n3 c3 args) (h4 : Sl w S5 A4 n4 c4 mem) (h5 : Sl w S6 A5 n5 c5 answers) (h6 : Sl w S7 A6 n6 c6 first)
    (hm : SmallT 1048576 t.blocks) (hb : n1 ≤ 1048576 ∧ n2 ≤ 1048576) (hb2 : n3 ≤ 1048576 ∧ n4 ≤ 1048576 ∧ n5 ≤ 1048576 ∧ n6 ≤ 1048576) (fuel less : Int) (hf : InI fuel) (hl : InI less)
include h1 h2 hi h h3 h4 h5 h6 hm hb hb2 hf hl
set_option maxHeartbeats 8000000 in
set_option maxRecDepth 100000 in
theorem mrunAgain_any : Calls Try.prog 3 #[.agg #[.int .i64 m.regs, .slice A1 n1 c1, .int .i64 m.ret, .slice A2 n2 c2], .agg #[.int .i64 t.frame, .slice A n c], .agg #[.slice A3 n3 c3, .slice A4 n4 c4, .slice A5 n5 c5, .slice A6 n6 c6], .int .i64 fuel, .int .i64 less] w (RetX (.bool true) w) := by
  have hbl := blocksOf_le 700 (by omega) t.blocks 0 hm.2 (by omega) (by omega)
  obtain ⟨T, hT⟩ : ∃ T, T = blocksOf 700 0 t.blocks := ⟨_, rfl⟩
  rw [← hT] at hbl
  have HT := hide hT.symm
  clear hT
  have hnn : n ≤ 1048576 := by rw [← h.len]; exact hm.1
  have H1 := hide h1; have H2 := hide h2; have HI := hide hi; have HS := hide h; have HM := hide hm
  have H3 := hide h3; have H4 := hide h4; have H5 := hide h5; have H6 := hide h6; have HF := hide hf; have HLs := hide hl
  have HB := hide hb; have HB2 := hide hb2
  have HMS := hide (show ∀ b ∈ t.blocks, b.ins.length ≤ 1048576 from by
    intro b hb; exact (hm.2 b hb).1)
  clear h1 h2 hi h hm h3 h4 h5 h6 hf hl
  obtain ⟨b1, b2⟩ := hb
  obtain ⟨b3, b4, b5, b6⟩ := hb2
  have TGT := hide (show ∀ (w : World) (S : Nat → Prop), Sl w S A n c t.blocks → Calls Try.prog 8 #[.agg #[.int .i64 t.frame, .slice A n c], .int .i64 700] w (RetX (.int .i64 T) w) from fun w S h => HT.out ▸ targetOf_any w S t 700 A n c h HM.out (by omega))
  go_enter Try.func3, Try.ntmps3
  go_wp2_with (go_at_call 7; (with_reducible refine (awake9_any _).mono ?_); rintro e _ ⟨rfl, ux, rfl⟩)
  obtain ⟨W, hW⟩ : ∃ W, W = (((w.alloc (.cells #[.int .i64 m.regs, .slice A1 n1 c1, .int .i64 m.ret, .slice A2 n2 c2] 24)).alloc (.cells #[.int .i64 t.frame, .slice A n c] 27)).alloc (.cells #[.slice A3 n3 c3, .slice A4 n4 c4, .slice A5 n5 c5, .slice A6 n6 c6] 29)).ext ux := ⟨_, rfl⟩
  have FB := hide (show Below w.heap.size w W by subst hW; exact (by repeat (first | exact Below.refl _ _ | assumption | exact Hd.out (by assumption) | refine Below.alloc ?_ (by first | omega | (simp [size_ext]; try omega)) _ | refine Below.ext ?_ (by first | omega | (simp [size_ext]; try omega)) _ | refine Below.drew ?_ | refine Below.setCell ?_ (by first | omega | (simp [size_ext]; try omega)) _)))
  have fle : w.heap.size ≤ W.heap.size := by subst hW; simp [size_ext]; omega
  have f0 : w.heap.size < W.heap.size := by subst hW; simp [size_ext]; omega
  have f1 : w.heap.size + 1 < W.heap.size := by subst hW; simp [size_ext]; omega
  have f2 : w.heap.size + 1 + 1 < W.heap.size := by subst hW; simp [size_ext]; omega
  have p0 : W.cell? ⟨w.heap.size, 0, none⟩ = some (.int .i64 m.regs) := by subst hW; go_simp
  have p1 : W.cell? ⟨w.heap.size, 1, none⟩ = some (.slice A1 n1 c1) := by subst hW; go_simp
  have p2 : W.cell? ⟨w.heap.size, 2, none⟩ = some (.int .i64 m.ret) := by subst hW; go_simp
  have p3 : W.cell? ⟨w.heap.size, 3, none⟩ = some (.slice A2 n2 c2) := by subst hW; go_simp
  have q0 : W.cell? ⟨w.heap.size + 1, 0, none⟩ = some (.int .i64 t.frame) := by subst hW; go_simp
  have q1 : W.cell? ⟨w.heap.size + 1, 1, none⟩ = some (.slice A n c) := by subst hW; go_simp
  have s0 : W.cell? ⟨w.heap.size + 1 + 1, 0, none⟩ = some (.slice A3 n3 c3) := by subst hW; go_simp
  have s1 : W.cell? ⟨w.heap.size + 1 + 1, 1, none⟩ = some (.slice A4 n4 c4) := by subst hW; go_simp
  have s2 : W.cell? ⟨w.heap.size + 1 + 1, 2, none⟩ = some (.slice A5 n5 c5) := by subst hW; go_simp
  have s3 : W.cell? ⟨w.heap.size + 1 + 1, 3, none⟩ = some (.slice A6 n6 c6) := by subst hW; go_simp
  have K1 := hide (H1.out.belowAll FB.out); have K2 := hide (H2.out.belowAll FB.out); have KB := hide (HS.out.belowAll FB.out)
  have K3 := hide (H3.out.belowAll FB.out); have K4 := hide (H4.out.belowAll FB.out); have K5 := hide (H5.out.belowAll FB.out); have K6 := hide (H6.out.belowAll FB.out)
  rw [← hW]
  clear hW H1 H2 HS H3 H4 H5 H6 ux
  have hw1 : IntKind.i64.wrap (T + ((n1 : Int) + n2)) = T + ((n1 : Int) + n2) := IntWalk.i64_in _ (by omega)
  have hw2 : IntKind.i64.wrap (T + ((n1 : Int) + n2) + ((n3 : Int) + n4 + n5 + n6)) = T + ((n1 : Int) + n2) + ((n3 : Int) + n4 + n5 + n6) := IntWalk.i64_in _ (by omega)
  obtain ⟨g1, hg1⟩ : ∃ g1 : Bool, decide (T + ((n1 : Int) + n2) + ((n3 : Int) + n4 + n5 + n6) > 700) = g1 := ⟨_, rfl⟩
  by_cases hg : g1 = true ∨ fuel > 2000 ∨ fuel < 0
  · obtain ⟨g2, hg2⟩ : ∃ g2 : Bool, decide (fuel > 2000) = g2 := ⟨_, rfl⟩
    obtain ⟨g3, hg3⟩ : ∃ g3 : Bool, decide (fuel < 0) = g3 := ⟨_, rfl⟩
    have hgg : g1 = true ∨ g2 = true ∨ g3 = true := by
      rcases hg with h | h | h
      · exact .inl h
      · exact .inr (.inl (by rw [← hg2]; simpa using h))
      · exact .inr (.inr (by rw [← hg3]; simpa using h))
    have HGG := hide hgg
    clear hg hgg
    cases g1
    · cases g2
      · cases g3
        · exact absurd HGG.out (by simp)
        · refine wp_region_ext (by kernel_rfl) (by kernel_rfl) ?_
          repeat (any_goals (first | go_big_quiet_step ((first | (go_at_call 8; with_reducible exact quiet_retx (TGT.out _ S3 (KB.out.ext _))) | (go_at_call 9; with_reducible exact quiet_retx (machineOf_any _ (fun _ => True) m A1 A2 n1 c1 n2 c2 ((K1.out.more fun _ _ _ => trivial).ext _) ((K2.out.more fun _ _ _ => trivial).ext _) HB.out)) | (go_at_call 10; with_reducible exact quiet_retx (size9_any _ A3 A4 A5 A6 n3 c3 n4 c4 n5 c5 n6 c6 HB2.out)))) | quiet_step ((first | (go_at_call 8; with_reducible exact quiet_retx (TGT.out _ S3 (KB.out.ext _))) | (go_at_call 9; with_reducible exact quiet_retx (machineOf_any _ (fun _ => True) m A1 A2 n1 c1 n2 c2 ((K1.out.more fun _ _ _ => trivial).ext _) ((K2.out.more fun _ _ _ => trivial).ext _) HB.out)) | (go_at_call 10; with_reducible exact quiet_retx (size9_any _ A3 A4 A5 A6 n3 c3 n4 c4 n5 c5 n6 c6 HB2.out))))))
          refine wpQuiet_nil ?_
          rintro _ ⟨uq, rfl⟩
          go_wp2
          go_ret; exact RetX.b rfl (by repeat (first | exact Below.refl _ _ | assumption | exact Hd.out (by assumption) | refine Below.alloc ?_ (by first | omega | (simp [size_ext]; try omega)) _ | refine Below.ext ?_ (by first | omega | (simp [size_ext]; try omega)) _ | refine Below.drew ?_ | refine Below.setCell ?_ (by first | omega | (simp [size_ext]; try omega)) _))
      · refine wp_region_ext (by kernel_rfl) (by kernel_rfl) ?_
        repeat (any_goals (first | go_big_quiet_step ((first | (go_at_call 8; with_reducible exact quiet_retx (TGT.out _ S3 (KB.out.ext _))) | (go_at_call 9; with_reducible exact quiet_retx (machineOf_any _ (fun _ => True) m A1 A2 n1 c1 n2 c2 ((K1.out.more fun _ _ _ => trivial).ext _) ((K2.out.more fun _ _ _ => trivial).ext _) HB.out)) | (go_at_call 10; with_reducible exact quiet_retx (size9_any _ A3 A4 A5 A6 n3 c3 n4 c4 n5 c5 n6 c6 HB2.out)))) | quiet_step ((first | (go_at_call 8; with_reducible exact quiet_retx (TGT.out _ S3 (KB.out.ext _))) | (go_at_call 9; with_reducible exact quiet_retx (machineOf_any _ (fun _ => True) m A1 A2 n1 c1 n2 c2 ((K1.out.more fun _ _ _ => trivial).ext _) ((K2.out.more fun _ _ _ => trivial).ext _) HB.out)) | (go_at_call 10; with_reducible exact quiet_retx (size9_any _ A3 A4 A5 A6 n3 c3 n4 c4 n5 c5 n6 c6 HB2.out))))))
        refine wpQuiet_nil ?_
        rintro _ ⟨uq, rfl⟩
        go_wp2
        go_ret; exact RetX.b rfl (by repeat (first | exact Below.refl _ _ | assumption | exact Hd.out (by assumption) | refine Below.alloc ?_ (by first | omega | (simp [size_ext]; try omega)) _ | refine Below.ext ?_ (by first | omega | (simp [size_ext]; try omega)) _ | refine Below.drew ?_ | refine Below.setCell ?_ (by first | omega | (simp [size_ext]; try omega)) _))
    · refine wp_region_ext (by kernel_rfl) (by kernel_rfl) ?_
      repeat (any_goals (first | go_big_quiet_step ((first | (go_at_call 8; with_reducible exact quiet_retx (TGT.out _ S3 (KB.out.ext _))) | (go_at_call 9; with_reducible exact quiet_retx (machineOf_any _ (fun _ => True) m A1 A2 n1 c1 n2 c2 ((K1.out.more fun _ _ _ => trivial).ext _) ((K2.out.more fun _ _ _ => trivial).ext _) HB.out)) | (go_at_call 10; with_reducible exact quiet_retx (size9_any _ A3 A4 A5 A6 n3 c3 n4 c4 n5 c5 n6 c6 HB2.out)))) | quiet_step ((first | (go_at_call 8; with_reducible exact quiet_retx (TGT.out _ S3 (KB.out.ext _))) | (go_at_call 9; with_reducible exact quiet_retx (machineOf_any _ (fun _ => True) m A1 A2 n1 c1 n2 c2 ((K1.out.more fun _ _ _ => trivial).ext _) ((K2.out.more fun _ _ _ => trivial).ext _) HB.out)) | (go_at_call 10; with_reducible exact quiet_retx (size9_any _ A3 A4 A5 A6 n3 c3 n4 c4 n5 c5 n6 c6 HB2.out))))))
      refine wpQuiet_nil ?_
      rintro _ ⟨uq, rfl⟩
      go_wp2
      go_ret; exact RetX.b rfl (by repeat (first | exact Below.refl _ _ | assumption | exact Hd.out (by assumption) | refine Below.alloc ?_ (by first | omega | (simp [size_ext]; try omega)) _ | refine Below.ext ?_ (by first | omega | (simp [size_ext]; try omega)) _ | refine Below.drew ?_ | refine Below.setCell ?_ (by first | omega | (simp [size_ext]; try omega)) _))
  have g1f : g1 = false := by cases g1 <;> simp_all
  subst g1f
  have hF2 : fuel ≤ 2000 := by omega
  have hF0 : 0 ≤ fuel := by omega
  have hg2 : decide (fuel > 2000) = false := by simp; omega
  have hg3 : decide (fuel < 0) = false := by simp; omega
  clear hg
  refine wp_region_ext (by kernel_rfl) (by kernel_rfl) ?_
  repeat (any_goals (first | go_big_quiet_step ((first | (go_at_call 8; with_reducible exact quiet_retx (TGT.out _ S3 (KB.out.ext _))) | (go_at_call 9; with_reducible exact quiet_retx (machineOf_any _ (fun _ => True) m A1 A2 n1 c1 n2 c2 ((K1.out.more fun _ _ _ => trivial).ext _) ((K2.out.more fun _ _ _ => trivial).ext _) HB.out)) | (go_at_call 10; with_reducible exact quiet_retx (size9_any _ A3 A4 A5 A6 n3 c3 n4 c4 n5 c5 n6 c6 HB2.out)))) | quiet_step ((first | (go_at_call 8; with_reducible exact quiet_retx (TGT.out _ S3 (KB.out.ext _))) | (go_at_call 9; with_reducible exact quiet_retx (machineOf_any _ (fun _ => True) m A1 A2 n1 c1 n2 c2 ((K1.out.more fun _ _ _ => trivial).ext _) ((K2.out.more fun _ _ _ => trivial).ext _) HB.out)) | (go_at_call 10; with_reducible exact quiet_retx (size9_any _ A3 A4 A5 A6 n3 c3 n4 c4 n5 c5 n6 c6 HB2.out))))))
  refine wpQuiet_nil ?_
  rintro _ ⟨uq, rfl⟩
  clear hg1 hg2 hg3 hw1 hw2 TGT HT hbl
  obtain ⟨E, hE⟩ : ∃ E, E = errR m t args mem := ⟨_, rfl⟩
  obtain ⟨k, hk⟩ : ∃ k, k = pickI less (fuel + 1) := ⟨_, rfl⟩
  have hkb := pickI_in less (fuel + 1) (by omega)
  rw [← hk] at hkb
  have HKb := hide hkb
  have HPK := hide (show ∀ V, Calls Try.prog 12 #[.int .i64 less, .int .i64 (fuel + 1)] V (Ret (.int .i64 k) V) from fun V => hk ▸ pick_any less (fuel + 1) V HLs.out (by unfold InI; omega))
  have hw1 : IntKind.i64.wrap (fuel + 1) = fuel + 1 := IntWalk.i64_in _ (by omega)
  have hEk : ∀ k, k ≤ 20000 → goE m t args mem k = E := fun k hk => by
    rw [hE]; unfold goE
    split
    · rfl
    · rw [if_neg (by omega)]; omega
  have HGO := hide (fun (V : World) (hV : Below W.heap.size W V) (k : Int) (hk : InI k) (hk2 : k ≤ 20000) => hEk k hk2 ▸ go9_any V S1 S2 S3 S4 S5 S6 S7 m A1 A2 n1 c1 n2 c2 (K1.out.belowAll hV) (K2.out.belowAll hV) HI.out t A n c (KB.out.belowAll hV) A3 A4 A5 A6 n3 c3 n4 c4 n5 c5 n6 c6 args mem answers first (K3.out.belowAll hV) (K4.out.belowAll hV) (K5.out.belowAll hV) (K6.out.belowAll hV) b1 b2 hnn HMS.out b4 b5 k hk)
  have HGO4 := hide (fun (V : World) (hV : Below W.heap.size W V) (g : Nat) (hg : Sl V (fun _ => True) (some ⟨g, 0, none⟩) 3 3 ([5, 6, 7] : List Int)) => hEk fuel (by omega) ▸ go9_any V S1 S2 S3 S4 S5 S6 (fun _ => True) m A1 A2 n1 c1 n2 c2 (K1.out.belowAll hV) (K2.out.belowAll hV) HI.out t A n c (KB.out.belowAll hV) A3 A4 A5 (some ⟨g, 0, none⟩) n3 c3 n4 c4 n5 c5 3 3 args mem answers [5, 6, 7] (K3.out.belowAll hV) (K4.out.belowAll hV) (K5.out.belowAll hV) hg b1 b2 hnn HMS.out b4 b5 fuel HF.out)
  have HRD := hide (fun (V : World) (hV : Below W.heap.size W V) => reads9_any V S1 S2 S3 m A1 A2 n1 c1 n2 c2 (K1.out.belowAll hV) (K2.out.belowAll hV) HI.out t A n c (KB.out.belowAll hV) b1 hnn HMS.out)
  obtain ⟨xa, hxa⟩ : ∃ x, x = goX m t args mem answers first fuel := ⟨_, rfl⟩
  obtain ⟨xb, hxb⟩ : ∃ x, x = goX m t args mem answers first k := ⟨_, rfl⟩
  have HXa := hide hxa; have HXb := hide hxb; have HE := hide hE
  clear hxa hxb hE hEk hk hkb
  go_wp2_with fail
  refine (HGO.out _ (Below.of_ext _ _ (Nat.le_refl _)) fuel HF.out (by omega)).mono ?_
  rintro e _ ⟨Ca, cca, Ma, cma, Sca, rfl, hc, hmm, _, ua, rfl⟩
  rw [← HXa.out] at hc hmm ⊢
  have HCa := hide (hc.slo (S' := fun _ => True) fun _ _ _ => trivial); have HMa := hide (hmm.slo (S' := fun _ => True) fun _ _ _ => trivial)
  obtain ⟨nca, hnca⟩ : ∃ z, z = xa.calls.length := ⟨_, rfl⟩
  obtain ⟨nma, hnma⟩ : ∃ z, z = xa.mem.length := ⟨_, rfl⟩
  rw [← hnca] at HCa ⊢
  rw [← hnma] at HMa ⊢
  have HNCa := hide hnca; have HNMa := hide hnma
  clear hc hmm hnca hnma
  obtain ⟨Va, hV⟩ : ∃ V, V = (W.ext uq).ext ua := ⟨_, rfl⟩
  have HFVa := hide (show Below W.heap.size W Va by rw [hV]; exact ((Below.of_ext _ _ (Nat.le_refl _))).trans ((Below.of_ext _ _ (Nat.le_refl _)).mono (by simp only [size_ext, World.size_alloc]; omega)))
  have hsVa : W.heap.size ≤ Va.heap.size := by rw [hV]; simp only [size_ext, World.size_alloc]; omega
  rw [← hV] at HCa HMa ⊢
  have p0_Va : Va.cell? ⟨w.heap.size, 0, none⟩ = some (.int .i64 m.regs) := by rw [HFVa.out.cell f0]; exact p0
  have p1_Va : Va.cell? ⟨w.heap.size, 1, none⟩ = some (.slice A1 n1 c1) := by rw [HFVa.out.cell f0]; exact p1
  have p2_Va : Va.cell? ⟨w.heap.size, 2, none⟩ = some (.int .i64 m.ret) := by rw [HFVa.out.cell f0]; exact p2
  have p3_Va : Va.cell? ⟨w.heap.size, 3, none⟩ = some (.slice A2 n2 c2) := by rw [HFVa.out.cell f0]; exact p3
  have q0_Va : Va.cell? ⟨w.heap.size + 1, 0, none⟩ = some (.int .i64 t.frame) := by rw [HFVa.out.cell f1]; exact q0
  have q1_Va : Va.cell? ⟨w.heap.size + 1, 1, none⟩ = some (.slice A n c) := by rw [HFVa.out.cell f1]; exact q1
  have s0_Va : Va.cell? ⟨w.heap.size + 1 + 1, 0, none⟩ = some (.slice A3 n3 c3) := by rw [HFVa.out.cell f2]; exact s0
  have s1_Va : Va.cell? ⟨w.heap.size + 1 + 1, 1, none⟩ = some (.slice A4 n4 c4) := by rw [HFVa.out.cell f2]; exact s1
  have s2_Va : Va.cell? ⟨w.heap.size + 1 + 1, 2, none⟩ = some (.slice A5 n5 c5) := by rw [HFVa.out.cell f2]; exact s2
  have s3_Va : Va.cell? ⟨w.heap.size + 1 + 1, 3, none⟩ = some (.slice A6 n6 c6) := by rw [HFVa.out.cell f2]; exact s3
  have f0_Va : w.heap.size < Va.heap.size := by omega
  have f1_Va : w.heap.size + 1 < Va.heap.size := by omega
  have f2_Va : w.heap.size + 1 + 1 < Va.heap.size := by omega
  clear hV
  go_wp2_with (go_at_call 12; (with_reducible refine (HPK.out _).mono ?_); rintro e w' ⟨rfl, rfl⟩)
  refine (HGO.out _ (HFVa.out.alloc hsVa _) k (by unfold InI; have := HKb.out; omega) (by have := HKb.out; omega)).mono ?_
  rintro e _ ⟨Cb, ccb, Mb, cmb, Scb, rfl, hc, hmm, _, ub, rfl⟩
  rw [← HXb.out] at hc hmm ⊢
  have HCb := hide (hc.slo (S' := fun _ => True) fun _ _ _ => trivial); have HMb := hide (hmm.slo (S' := fun _ => True) fun _ _ _ => trivial)
  obtain ⟨ncb, hncb⟩ : ∃ z, z = xb.calls.length := ⟨_, rfl⟩
  obtain ⟨nmb, hnmb⟩ : ∃ z, z = xb.mem.length := ⟨_, rfl⟩
  rw [← hncb] at HCb ⊢
  rw [← hnmb] at HMb ⊢
  have HNCb := hide hncb; have HNMb := hide hnmb
  clear hc hmm hncb hnmb
  obtain ⟨Vb, hV⟩ : ∃ V, V = (Va.alloc (.cells #[.int .i64 xa.fin, .int .i64 xa.value, .slice Ca nca cca, .slice Ma nma cma, .int .i64 xa.steps] 37)).ext ub := ⟨_, rfl⟩
  have HFVb := hide (show Below W.heap.size W Vb by rw [hV]; exact ((HFVa.out.alloc hsVa _)).trans ((Below.of_ext _ _ (Nat.le_refl _)).mono (by simp only [size_ext, World.size_alloc]; omega)))
  have hsVb : W.heap.size ≤ Vb.heap.size := by rw [hV]; simp only [size_ext, World.size_alloc]; omega
  rw [← hV] at HCb HMb ⊢
  have p0_Vb : Vb.cell? ⟨w.heap.size, 0, none⟩ = some (.int .i64 m.regs) := by rw [HFVb.out.cell f0]; exact p0
  have p1_Vb : Vb.cell? ⟨w.heap.size, 1, none⟩ = some (.slice A1 n1 c1) := by rw [HFVb.out.cell f0]; exact p1
  have p2_Vb : Vb.cell? ⟨w.heap.size, 2, none⟩ = some (.int .i64 m.ret) := by rw [HFVb.out.cell f0]; exact p2
  have p3_Vb : Vb.cell? ⟨w.heap.size, 3, none⟩ = some (.slice A2 n2 c2) := by rw [HFVb.out.cell f0]; exact p3
  have q0_Vb : Vb.cell? ⟨w.heap.size + 1, 0, none⟩ = some (.int .i64 t.frame) := by rw [HFVb.out.cell f1]; exact q0
  have q1_Vb : Vb.cell? ⟨w.heap.size + 1, 1, none⟩ = some (.slice A n c) := by rw [HFVb.out.cell f1]; exact q1
  have s0_Vb : Vb.cell? ⟨w.heap.size + 1 + 1, 0, none⟩ = some (.slice A3 n3 c3) := by rw [HFVb.out.cell f2]; exact s0
  have s1_Vb : Vb.cell? ⟨w.heap.size + 1 + 1, 1, none⟩ = some (.slice A4 n4 c4) := by rw [HFVb.out.cell f2]; exact s1
  have s2_Vb : Vb.cell? ⟨w.heap.size + 1 + 1, 2, none⟩ = some (.slice A5 n5 c5) := by rw [HFVb.out.cell f2]; exact s2
  have s3_Vb : Vb.cell? ⟨w.heap.size + 1 + 1, 3, none⟩ = some (.slice A6 n6 c6) := by rw [HFVb.out.cell f2]; exact s3
  have f0_Vb : w.heap.size < Vb.heap.size := by omega
  have f1_Vb : w.heap.size + 1 < Vb.heap.size := by omega
  have f2_Vb : w.heap.size + 1 + 1 < Vb.heap.size := by omega
  have hdVb : Va.heap.size < Vb.heap.size := by rw [hV]; simp only [size_ext, World.size_alloc]; omega
  have HDVb := hide (show Below Va.heap.size Va Vb by rw [hV]; exact ((Below.refl _ _).alloc (Nat.le_refl _) _).ext (by simp only [World.size_alloc]; omega) _)
  have Ra_Vb := hide (show Vb.heap[Va.heap.size]? = some (.cells #[.int .i64 xa.fin, .int .i64 xa.value, .slice Ca nca cca, .slice Ma nma cma, .int .i64 xa.steps] 37 (0, 0)) by rw [hV, ext_block _ _ _ (by simp only [World.size_alloc]; omega)]; exact heap_alloc_new Va _)
  have a0_Vb : Vb.cell? ⟨Va.heap.size, 0, none⟩ = some (.int .i64 xa.fin) := cell_of_row Vb _ _ _ _ (0, 0) Ra_Vb.out
  have a1_Vb : Vb.cell? ⟨Va.heap.size, 1, none⟩ = some (.int .i64 xa.value) := cell_of_row Vb _ _ _ _ (0, 0) Ra_Vb.out
  have a2_Vb : Vb.cell? ⟨Va.heap.size, 2, none⟩ = some (.slice Ca nca cca) := cell_of_row Vb _ _ _ _ (0, 0) Ra_Vb.out
  have a3_Vb : Vb.cell? ⟨Va.heap.size, 3, none⟩ = some (.slice Ma nma cma) := cell_of_row Vb _ _ _ _ (0, 0) Ra_Vb.out
  have a4_Vb : Vb.cell? ⟨Va.heap.size, 4, none⟩ = some (.int .i64 xa.steps) := cell_of_row Vb _ _ _ _ (0, 0) Ra_Vb.out
  have HCa_Vb := hide (HCa.out.belowAll HDVb.out); have HMa_Vb := hide (HMa.out.belowAll HDVb.out)
  clear hV
  have hEE : (E != E) = false := by simp
  have hEQ : (E == E) = true := by simp
  by_cases he0 : E = 0
  case neg =>
    have hE0 : (E != 0) = true := by simpa using he0
    go_wp2_with fail
    go_ret
    exact RetX.b rfl (FB.out.trans ((HFVb.out.alloc hsVb _).mono fle))
  have hE0 : (E != 0) = false := by simpa using he0
  obtain ⟨st0, ba, af, C1, lt, ge, HXCeq, pre⟩ := againX (HE.out.symm.trans he0) hF0 hF2 HKb.out.1 (by have := HKb.out; omega) HXa.out HXb.out
  have HXc := hide HXCeq; have HPRE := hide pre
  have HFST := hide (fun (d : ResS) (hR : readsB m t = false) (hd : d = goX m t args mem answers [5, 6, 7] fuel) => firstX (HE.out.symm.trans he0) HI.out hF2 hR HXa.out hd)
  obtain ⟨xd, hxd⟩ : ∃ x, x = goX m t args mem answers [5, 6, 7] fuel := ⟨_, rfl⟩
  have HXd := hide hxd
  have HE0 := hide he0
  clear he0 hxd HXCeq pre
  have D3 : xb.fin = 0 ∨ ¬ xb.fin = 0 ∧ xb.fin = xa.fin := by
    rcases C1 with h | h
    · exact .inl h
    · by_cases h0 : xb.fin = 0
      · exact .inl h0
      · exact .inr ⟨h0, h⟩
  have D4 : (xa.steps < k ∧ xb.steps = xa.steps) ∨ (k ≤ xa.steps ∧ xb.steps = k) := by
    by_cases h : xa.steps < k
    · exact .inl ⟨h, lt h⟩
    · exact .inr ⟨by omega, ge (by omega)⟩
  have HD34 := hide (And.intro D3 D4)
  have hcl : ncb ≤ nca := by rw [HNCa.out, HNCb.out]; exact HPRE.out.length_le
  have HTK := hide (show xa.calls.take ncb = xb.calls by rw [HNCb.out]; exact (List.prefix_iff_eq_take.1 HPRE.out).symm)
  have hA20 : xa.steps ≤ 20000 := by omega
  clear C1 lt ge D3 D4
  go_upto_region 10 with (fail)
  rename_i KK hKK
  have HKK := hide hKK
  clear hKK
  go_wp2_with fail
  refine (HGO.out _ (HFVb.out.alloc hsVb _) xa.steps (by unfold InI; omega) hA20).mono ?_
  rintro e _ ⟨Cc, ccc, Mc, cmc, Scc, rfl, hc, hmm, _, uc, rfl⟩
  rw [← HXc.out] at hc hmm ⊢
  rw [← HNCa.out] at hc ⊢
  rw [← HNMa.out] at hmm ⊢
  have HCc := hide (hc.slo (S' := fun _ => True) fun _ _ _ => trivial); have HMc := hide (hmm.slo (S' := fun _ => True) fun _ _ _ => trivial)
  clear hc hmm
  obtain ⟨Vc, hV⟩ : ∃ V, V = (Vb.alloc (.cells #[.int .i64 xb.fin, .int .i64 xb.value, .slice Cb ncb ccb, .slice Mb nmb cmb, .int .i64 xb.steps] 37)).ext uc := ⟨_, rfl⟩
  have HFVc := hide (show Below W.heap.size W Vc by rw [hV]; exact (HFVb.out.alloc hsVb _).trans ((Below.of_ext _ _ (Nat.le_refl _)).mono (by simp only [size_ext, World.size_alloc]; omega)))
  have hsVc : W.heap.size ≤ Vc.heap.size := by rw [hV]; simp only [size_ext, World.size_alloc]; omega
  rw [← hV] at HCc HMc ⊢
  have p0_Vc : Vc.cell? ⟨w.heap.size, 0, none⟩ = some (.int .i64 m.regs) := by rw [HFVc.out.cell f0]; exact p0
  have p1_Vc : Vc.cell? ⟨w.heap.size, 1, none⟩ = some (.slice A1 n1 c1) := by rw [HFVc.out.cell f0]; exact p1
  have p2_Vc : Vc.cell? ⟨w.heap.size, 2, none⟩ = some (.int .i64 m.ret) := by rw [HFVc.out.cell f0]; exact p2
  have p3_Vc : Vc.cell? ⟨w.heap.size, 3, none⟩ = some (.slice A2 n2 c2) := by rw [HFVc.out.cell f0]; exact p3
  have q0_Vc : Vc.cell? ⟨w.heap.size + 1, 0, none⟩ = some (.int .i64 t.frame) := by rw [HFVc.out.cell f1]; exact q0
  have q1_Vc : Vc.cell? ⟨w.heap.size + 1, 1, none⟩ = some (.slice A n c) := by rw [HFVc.out.cell f1]; exact q1
  have s0_Vc : Vc.cell? ⟨w.heap.size + 1 + 1, 0, none⟩ = some (.slice A3 n3 c3) := by rw [HFVc.out.cell f2]; exact s0
  have s1_Vc : Vc.cell? ⟨w.heap.size + 1 + 1, 1, none⟩ = some (.slice A4 n4 c4) := by rw [HFVc.out.cell f2]; exact s1
  have s2_Vc : Vc.cell? ⟨w.heap.size + 1 + 1, 2, none⟩ = some (.slice A5 n5 c5) := by rw [HFVc.out.cell f2]; exact s2
  have s3_Vc : Vc.cell? ⟨w.heap.size + 1 + 1, 3, none⟩ = some (.slice A6 n6 c6) := by rw [HFVc.out.cell f2]; exact s3
  have f0_Vc : w.heap.size < Vc.heap.size := by omega
  have f1_Vc : w.heap.size + 1 < Vc.heap.size := by omega
  have f2_Vc : w.heap.size + 1 + 1 < Vc.heap.size := by omega
  have hdVc : Vb.heap.size < Vc.heap.size := by rw [hV]; simp only [size_ext, World.size_alloc]; omega
  have HDVc := hide (show Below Vb.heap.size Vb Vc by rw [hV]; exact ((Below.refl _ _).alloc (Nat.le_refl _) _).ext (by simp only [World.size_alloc]; omega) _)
  have Rb_Vc := hide (show Vc.heap[Vb.heap.size]? = some (.cells #[.int .i64 xb.fin, .int .i64 xb.value, .slice Cb ncb ccb, .slice Mb nmb cmb, .int .i64 xb.steps] 37 (0, 0)) by rw [hV, ext_block _ _ _ (by simp only [World.size_alloc]; omega)]; exact heap_alloc_new Vb _)
  have hla_Vc : Va.heap.size < Vc.heap.size := by omega
  have Ra_Vc := hide ((HDVc.out.block Va.heap.size (by omega)).trans Ra_Vb.out)
  have b0_Vc : Vc.cell? ⟨Vb.heap.size, 0, none⟩ = some (.int .i64 xb.fin) := cell_of_row Vc _ _ _ _ (0, 0) Rb_Vc.out
  have b1_Vc : Vc.cell? ⟨Vb.heap.size, 1, none⟩ = some (.int .i64 xb.value) := cell_of_row Vc _ _ _ _ (0, 0) Rb_Vc.out
  have b2_Vc : Vc.cell? ⟨Vb.heap.size, 2, none⟩ = some (.slice Cb ncb ccb) := cell_of_row Vc _ _ _ _ (0, 0) Rb_Vc.out
  have b3_Vc : Vc.cell? ⟨Vb.heap.size, 3, none⟩ = some (.slice Mb nmb cmb) := cell_of_row Vc _ _ _ _ (0, 0) Rb_Vc.out
  have b4_Vc : Vc.cell? ⟨Vb.heap.size, 4, none⟩ = some (.int .i64 xb.steps) := cell_of_row Vc _ _ _ _ (0, 0) Rb_Vc.out
  have a0_Vc : Vc.cell? ⟨Va.heap.size, 0, none⟩ = some (.int .i64 xa.fin) := cell_of_row Vc _ _ _ _ (0, 0) Ra_Vc.out
  have a1_Vc : Vc.cell? ⟨Va.heap.size, 1, none⟩ = some (.int .i64 xa.value) := cell_of_row Vc _ _ _ _ (0, 0) Ra_Vc.out
  have a2_Vc : Vc.cell? ⟨Va.heap.size, 2, none⟩ = some (.slice Ca nca cca) := cell_of_row Vc _ _ _ _ (0, 0) Ra_Vc.out
  have a3_Vc : Vc.cell? ⟨Va.heap.size, 3, none⟩ = some (.slice Ma nma cma) := cell_of_row Vc _ _ _ _ (0, 0) Ra_Vc.out
  have a4_Vc : Vc.cell? ⟨Va.heap.size, 4, none⟩ = some (.int .i64 xa.steps) := cell_of_row Vc _ _ _ _ (0, 0) Ra_Vc.out
  have HCb_Vc := hide (HCb.out.belowAll HDVc.out); have HMb_Vc := hide (HMb.out.belowAll HDVc.out)
  have HCa_Vc := hide (HCa_Vb.out.belowAll HDVc.out); have HMa_Vc := hide (HMa_Vb.out.belowAll HDVc.out)
  clear hV
  go_wp2_with fail
  refine HKK.out _ _ ?_
  obtain ⟨Y, hY⟩ : ∃ Y, Y = Vc.alloc (.cells #[.int .i64 xa.fin, .int .i64 xa.value, .slice Cc nca ccc, .slice Mc nma cmc, .int .i64 xa.steps] 37) := ⟨_, rfl⟩
  have HYV := hide (show Below Vc.heap.size Vc Y by rw [hY]; exact (Below.refl _ _).alloc (Nat.le_refl _) _)
  have hsY : Y.heap.size = Vc.heap.size + 1 := by rw [hY]; simp only [World.size_alloc]
  have HY := hide hY
  rw [← hY]
  clear hY
  have HWY := hide (show Below W.heap.size W Y from HFVc.out.trans (HYV.out.mono hsVc))
  have hWY : W.heap.size ≤ Y.heap.size := HWY.out.size
  have hla_Y : Va.heap.size < Vc.heap.size := by omega
  have hlb_Y : Vb.heap.size < Vc.heap.size := by omega
  exact again2 w Y m A1 A2 n1 c1 n2 c2 t A n c A3 A4 A5 n3 c3 n4 c4 n5 c5 fuel k xa xb xd w.heap.size (w.heap.size + 1) (w.heap.size + 1 + 1) Va.heap.size Vb.heap.size Vc.heap.size Ca Ma Cb Cc Mc nca cca nma cma ncb ccb ccc cmc (hide (FB.out.trans (HWY.out.mono fle))) (Nat.le_trans fle hWY) (by omega) (by omega) (by omega) (by omega) (by omega) (by omega)
    (by rw [HYV.out.cell f0_Vc]; exact p0_Vc)
    (by rw [HYV.out.cell f0_Vc]; exact p1_Vc)
    (by rw [HYV.out.cell f0_Vc]; exact p2_Vc)
    (by rw [HYV.out.cell f0_Vc]; exact p3_Vc)
    (by rw [HYV.out.cell f1_Vc]; exact q0_Vc)
    (by rw [HYV.out.cell f1_Vc]; exact q1_Vc)
    (by rw [HYV.out.cell f2_Vc]; exact s0_Vc)
    (by rw [HYV.out.cell f2_Vc]; exact s1_Vc)
    (by rw [HYV.out.cell f2_Vc]; exact s2_Vc)
    (by rw [HYV.out.cell hla_Y]; exact a0_Vc)
    (by rw [HYV.out.cell hla_Y]; exact a1_Vc)
    (by rw [HYV.out.cell hla_Y]; exact a2_Vc)
    (by rw [HYV.out.cell hla_Y]; exact a3_Vc)
    (by rw [HYV.out.cell hla_Y]; exact a4_Vc)
    (by rw [HYV.out.cell hlb_Y]; exact b0_Vc)
    (by rw [HYV.out.cell hlb_Y]; exact b2_Vc)
    (by rw [HYV.out.cell hlb_Y]; exact b4_Vc)
    (by rw [HY.out, World.cell?_alloc_new]; rfl)
    (by rw [HY.out, World.cell?_alloc_new]; rfl)
    (by rw [HY.out, World.cell?_alloc_new]; rfl)
    (by rw [HY.out, World.cell?_alloc_new]; rfl)
    (hide (HCa_Vc.out.belowAll HYV.out)) (hide (HMa_Vc.out.belowAll HYV.out)) (hide (HCb_Vc.out.belowAll HYV.out)) (hide (HCc.out.belowAll HYV.out)) (hide (HMc.out.belowAll HYV.out)) (by omega) (by omega) HD34.out.1 HD34.out.2 hcl HTK HNCa
    (hide fun V' hV' g hg => by have := HGO4.out V' (HWY.out.trans (hV'.mono hWY)) g hg; rwa [← HXd.out, HE0.out] at this)
    (hide fun V' hV' => HRD.out V' (HWY.out.trans (hV'.mono hWY)))
    (hide fun hR => HFST.out xd hR HXd.out) _ (by kernel_rfl) _ _ _ _ _ _ _ _ _ _ _ _ _ _ _ _ _ _ _ _ _ _ _ _ _ _ _ _ _ _ _ _ _ _ _ _ _ _ _ _ _ _ _ _ _ _ _ _ _ _ _ _ _ _ _ _ _ _ _ _ _ _ _ _ _ _ _ _ _ _ _ _ _ _ _ _ _ _ _ _ _ _ _ _ _ _ _ _ _ _ _ _ _ _ _ _ _ _ _ _ _ _ _ _ _ _ _ _ _ _ _ _ _ _ _ _ _ _ _ _ _ _ _ _ _ _ _ _ _ _ _ _ _ _ _ _ _ _ _ _ _ _ _ _ _ _ _ _ _ _ _ _ _ _ _ _ _ _ _ _ _ _ _ _ _ _ _ _ _ _ _ _ _ _ _ _ _ _ _ _ _ _ _ _ _ _ _ _ _ _ _ _ _ _ _ _ _ _ _ _ _ _ _ _ _ _ _ _ _ _ _ _ _ _ _ _ _ _ _ _ _ _ _ _ _ _ _ _ _ _ _ _ _
end
end Go.Proofs.Ytkjipgelbjaggaa
