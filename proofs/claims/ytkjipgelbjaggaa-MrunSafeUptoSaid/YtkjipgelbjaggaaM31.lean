/- Walk: a run does a step. -/
import Derived.Test.YtkjipgelbjaggaaM30
import Derived.StillTailTactics
set_option linter.unusedSimpArgs false
set_option linter.unusedVariables false
namespace Go.Proofs.Ytkjipgelbjaggaa
open Go.RowKit Go.Maps
theorem map_nil (w : World) (b : Nat) : (binOp .eql 97 (.map (some b)) (.map none)).run Try.prog w = .ok (.bool false) w := run_eql_map_nil w 97 _ _ (some b) Try.underlying97
theorem ta_spot (b i : Int) (t0 : TypeId) (w : World) : (Instr.typeAssert (.iface 100 (.agg #[.int .i64 b, .int .i64 i])) t0 100 true).run Try.prog w = .ok (.tuple #[.agg #[.int .i64 b, .int .i64 i], .bool true]) w := by kernel_rfl
theorem ta_done (b i : Int) (t0 : TypeId) (w : World) : (Instr.typeAssert (.iface 102 (.agg #[.int .i64 b, .int .i64 i])) t0 100 true).run Try.prog w = .ok (.tuple #[.agg #[.int .i64 0, .int .i64 0], .bool false]) w := by kernel_rfl
theorem ta_done' (b i : Int) (t0 : TypeId) (w : World) : (Instr.typeAssert (.iface 102 (.agg #[.int .i64 b, .int .i64 i])) t0 102 false).run Try.prog w = .ok (.agg #[.int .i64 b, .int .i64 i]) w := by kernel_rfl
theorem run_ext {w w' : World} {base X K : Nat} {q : RunM} {r : RunS} (h : RunAt w base X K q r) (hu : ∃ u : Ext, w' = w.ext u) : RunAt w' base X K q r ∧ RunFr q q X w w' := by
  obtain ⟨u, rfl⟩ := hu; exact ⟨h.ext u, RunFr.refl.ext u⟩
structure StepOk (r : RunS) : Prop where
  ret : InI r.m.ret
  b0 : 0 ≤ r.block
  b1 : r.block < r.t.blocks.length
  i0 : 0 ≤ r.ins
  i1 : r.ins < 1048576
  s0 : 0 ≤ r.steps
  s1 : r.steps < 1048576
  cl : r.calls.length ≤ 1048576
  al : r.m.args.length ≤ 1048576
section
variable (w : World) (base X K : Nat) (q : RunM) (r : RunS) (h : RunAt w base X K q r) (hg : StepOk r) (hK : K < 1048576)
include h hg hK
omit hg hK in
set_option maxHeartbeats 4000000 in
set_option maxRecDepth 8000 in
theorem step9_end (hf : r.fin ≠ 0) : Calls Try.prog 24 #[.pointer (some ⟨X, 0, none⟩)] w (RunTo (.bool (stepR r).2) base X (K + 1) q (stepR r).1 w) := by
  have HR := hide h
  have k0 := h.k0; have k3 := h.k3; have hlt := h.lt
  have hz : (r.fin != 0) = true := by rw [bne_iff_ne]; exact hf
  have HE := hide (show stepR r = (r, false) by unfold stepR; rw [if_pos hf])
  clear h hf
  have hmn := map_nil
  go_enter Try.func24, Try.ntmps24
  go_wp2_with fail
  go_ret
  rw [HE.out]
  exact ⟨rfl, _, HR.out.more (by omega), RunFr.refl⟩
set_option maxHeartbeats 4000000 in
set_option maxRecDepth 8000 in
theorem step9_ins (hf : r.fin = 0) (hi : r.ins < (blockR r).ins.length) : Calls Try.prog 24 #[.pointer (some ⟨X, 0, none⟩)] w (RunTo (.bool (stepR r).2) base X (K + 1) q (stepR r).1 w) := by
  have HR := hide h
  have HG := hide hg
  obtain ⟨bk, hbk⟩ : ∃ bk : Nat, r.block = bk := Int.eq_ofNat_of_zero_le hg.b0
  obtain ⟨ik, hik⟩ : ∃ ik : Nat, r.ins = ik := Int.eq_ofNat_of_zero_le hg.i0
  obtain ⟨st, hst⟩ : ∃ st : Nat, r.steps = st := Int.eq_ofNat_of_zero_le hg.s0
  have hbn : bk < q.n := by have := hg.b1; have := h.blocks.len; omega
  have k0 := h.k0; have k3 := h.k3; have k15 := h.k15; have hlt := h.lt
  have f15 := h.fz 15
  rw [hf] at k3; rw [hst] at k15
  have hst' : (st : Int) < 1048576 := by have := hg.s1; omega
  have HBK := hide hbk; have HIK := hide hik; have HST := hide hst; have HI := hide hi; have HF := hide hf
  clear h hg hf hi hbk hik hst
  have hmn := map_nil
  go_enter Try.func24, Try.ntmps24
  go_wp2_with fail
  obtain ⟨V, hV⟩ : ∃ V, V = w.setCell ⟨X, 15, none⟩ (.int .i64 (↑st + 1)) := ⟨_, rfl⟩
  have HRV := hide (show RunAt V base X K q { r with steps := r.steps + 1 } by rw [hV]; exact HR.out.put_ (by rw [HST.out]; rfl) rfl rfl rfl rfl rfl rfl rfl)
  have HFV := hide (show RunFr q q X w V by rw [hV]; exact RunFr.put _ _ fun _ h => h)
  rw [← hV]
  clear hV k0 k3 k15 hlt f15
  obtain ⟨gb, off, B, Ai, ni, ci, hA, hgb, hB, hins, it1, it2, it3, it4, z0, z1, z2, z3, z4⟩ := at_Block HRV.out.blocks hbn
  have y1 : V.cell? ⟨X, 1, none⟩ = some (.int .i64 bk) := by rw [← HBK.out]; exact HRV.out.k1
  have y2 : V.cell? ⟨X, 2, none⟩ = some (.int .i64 ik) := by rw [← HIK.out]; exact HRV.out.k2
  have y10 : V.cell? ⟨X, 10, none⟩ = some (.slice (some ⟨gb, off, none⟩) q.n q.c) := by rw [← hA]; exact HRV.out.k10
  have hBR : blockR r = B := by unfold blockR; rw [HBK.out]; change r.t.blocks[bk]? = some B at hB; simp [List.getD_eq_getElem?_getD, hB]
  have hVX := HRV.out.lt
  have hbn' : (bk : Int) < q.n := by omega
  have HBR := hide hBR
  have HINS := hide hins
  have hni := hins.len
  have hik' : ik < ni := by have := HI.out; rw [hBR, HIK.out] at this; omega
  have hni' := hins.nle
  have hqn := HRV.out.blocks.nle
  clear hA hB hins hni hBR
  refine wp_region_last_ext [] [12] 13 (by kernel_rfl) rfl rfl rfl (by kernel_rfl) (by kernel_rfl) ?_
  simp only [List.take_succ_cons, List.take_zero]
  repeat (refine flow_known (by kernel_rfl) (fun K hK => ?_); go_simp; (first | (refine hK _ ?_; clear hK K) | (apply Exists.intro; refine ⟨fun _ => ?_, hK _ ?_⟩; (fail); clear hK K)))
  refine flow_keep0 (NewC V.heap.size #[.slice none 0 0, .int .i64 0, .int .i64 0, .int .i64 0, .int .i64 0] 60) (by kernel_rfl) (NewC.stable_ rfl) ?_ ?_
  · intro u
    go_simp
    exact ⟨NewC.mk_ (by rw [size_ext]) (by rw [size_ext]; omega), onW_alloc rfl ⟨_, rfl⟩⟩
  refine flow_done [true] (by kernel_rfl) ?_
  intro u
  simp only [List.nil_append, List.cons_append, endH_f, endH_t, endH_nil]
  rintro _ ⟨g, rfl, hgV, hgb'⟩
  have e0 : (V.ext u).cell? ⟨g, 0, none⟩ = some (.slice none 0 0) := cell_of_row _ _ _ _ _ (0, 0) hgb'
  have e1 : (V.ext u).cell? ⟨g, 1, none⟩ = some (.int .i64 0) := cell_of_row _ _ _ _ _ (0, 0) hgb'
  have e2 : (V.ext u).cell? ⟨g, 2, none⟩ = some (.int .i64 0) := cell_of_row _ _ _ _ _ (0, 0) hgb'
  have e3 : (V.ext u).cell? ⟨g, 3, none⟩ = some (.int .i64 0) := cell_of_row _ _ _ _ _ (0, 0) hgb'
  have e4 : (V.ext u).cell? ⟨g, 4, none⟩ = some (.int .i64 0) := cell_of_row _ _ _ _ _ (0, 0) hgb'
  have ef : ∀ j, (V.ext u).frozen? ⟨g, j, none⟩ = false := fun j => by simp [World.frozen?, hgb']
  have HGB := hide hgb'
  have hgl : g < (V.ext u).heap.size := (Array.getElem?_eq_some_iff.1 hgb').1
  obtain ⟨Y, hY⟩ : ∃ Y, Y = V.ext u := ⟨_, rfl⟩
  rw [← hY] at e0 e1 e2 e3 e4 ef HGB hgl ⊢
  have HFY := hide (show Below V.heap.size V Y by rw [hY]; exact Below.of_ext _ _ (Nat.le_refl _))
  clear hY hgb'
  go_simp
  go_wp2_with fail
  obtain ⟨Z, hZ⟩ : ∃ Z, Z = ((((Y.setCell ⟨g, 0, none⟩ (.slice Ai ni ci)).setCell ⟨g, 1, none⟩ (.int .i64 B.term.kind)).setCell ⟨g, 2, none⟩ (.int .i64 B.term.a)).setCell ⟨g, 3, none⟩ (.int .i64 B.term.to0)).setCell ⟨g, 4, none⟩ (.int .i64 B.term.to1) := ⟨_, rfl⟩
  have hgZ := hide (show Z.heap[g]? = some (.cells #[.slice Ai ni ci, .int .i64 B.term.kind, .int .i64 B.term.a, .int .i64 B.term.to0, .int .i64 B.term.to1] 60 (0, 0)) by
    rw [hZ]; exact row_setCell (row_setCell (row_setCell (row_setCell (row_setCell HGB.out 0 _) 1 _) 2 _) 3 _) 4 _)
  have HFZ := hide (show Below V.heap.size V Z by rw [hZ]; exact ((((HFY.out.setCell hgV _).setCell hgV _).setCell hgV _).setCell hgV _).setCell hgV _)
  have HRZ := hide (HRV.out.keep HFZ.out)
  have HFw := hide (HFV.out.trans (RunFr.of_below (q := q) (X := X) HFZ.out))
  rw [← hZ]
  clear hZ e0 e1 e2 e3 e4 ef y1 y2 y10 z0 z1 z2 z3 z4
  have b0 : Z.cell? ⟨g, 0, none⟩ = some (.slice Ai ni ci) := cell_of_row _ _ _ _ _ (0, 0) hgZ.out
  have b1 : Z.cell? ⟨g, 1, none⟩ = some (.int .i64 B.term.kind) := cell_of_row _ _ _ _ _ (0, 0) hgZ.out
  have b2 : Z.cell? ⟨g, 2, none⟩ = some (.int .i64 B.term.a) := cell_of_row _ _ _ _ _ (0, 0) hgZ.out
  have b3 : Z.cell? ⟨g, 3, none⟩ = some (.int .i64 B.term.to0) := cell_of_row _ _ _ _ _ (0, 0) hgZ.out
  have b4 : Z.cell? ⟨g, 4, none⟩ = some (.int .i64 B.term.to1) := cell_of_row _ _ _ _ _ (0, 0) hgZ.out
  have y1 : Z.cell? ⟨X, 1, none⟩ = some (.int .i64 bk) := by rw [← HBK.out]; exact HRZ.out.k1
  have y2 : Z.cell? ⟨X, 2, none⟩ = some (.int .i64 ik) := by rw [← HIK.out]; exact HRZ.out.k2
  have hXZ := HRZ.out.lt
  have hgl' : g < Z.heap.size := (Array.getElem?_eq_some_iff.1 hgZ.out).1
  have HIZ := hide (HINS.out.belowAll HFZ.out)
  refine wp_region_ext (by kernel_rfl) (by kernel_rfl) ?_
  repeat (any_goals (first | go_big_quiet_step ((fail)) | quiet_step ((fail))))
  refine wpQuiet_nil ?_
  rintro _ ⟨uq, rfl⟩
  go_wp2_with fail
  obtain ⟨ib', ioff, I, Aj, nj, cj, hAj, hib, hI, jo, jd, ja, jb, ji, jc, jargs, jm, j0, j1, j2, j3, j4, j5, j6, j7⟩ := at_Ins HIZ.out hik'
  rw [hAj] at b0 ⊢
  have HII := hide hI
  have HJ := hide (And.intro jd (And.intro ja (And.intro jb (And.intro ji jc))))
  have hni2 : (ik : Int) < ni := by omega
  clear hI jo jd ja jb ji jc jargs jm hAj
  go_still_tail 10, (by kernel_rfl)
  have HRD := hide (show RunAt (Z.ext uq).drew base X K q { r with steps := r.steps + 1 } from (HRZ.out.ext uq).drew)
  have hal : q.n1 ≤ 1048576 := by have := HR.out.args.len; have := HG.out.al; omega
  have HCALL := hide (ins9_any (Z.ext uq).drew base X K q { r with steps := r.steps + 1 } HRD.out I Aj nj cj HJ.out.2.1 HJ.out.2.2.1 HJ.out.2.2.2.1 HJ.out.1 HJ.out.2.2.2.2 HG.out.ret hal HG.out.cl hK HG.out.i1 HG.out.i0)
  obtain ⟨r5, nx, h5⟩ : ∃ r5 nx, insR9 { r with steps := r.steps + 1 } I = (r5, nx) := ⟨_, _, rfl⟩
  rw [h5] at HCALL
  have HE := hide (show stepR r = (goR r5 nx, true) by
    have e : (blockR r).ins.getD r.ins.toNat default = I := by rw [HBR.out, HIK.out]; simp [List.getD_eq_getElem?_getD, HII.out]
    unfold stepR; rw [if_neg (fun h => h HF.out), if_pos HI.out, e, h5])
  have H5 := hide h5
  clear h5
  have ta1 := ta_spot; have ta2 := ta_done; have ta3 := ta_done'
  cases nx with
  | spot b5 i5 =>
    go_wp2_with (go_at_call 46; refine HCALL.out.mono ?_; rintro e w5 ⟨rfl, q', hq', hb'⟩; have HQ' := hide hq'; have HB' := hide hb'; have k1' := hq'.k1; have k2' := hq'.k2; have f1' := hq'.fz 1; have f2' := hq'.fz 2; have hlt5 := hq'.lt; clear hq' hb'; unfold nxtV)
    go_ret
    rw [HE.out]
    refine ⟨rfl, q', ?_, (((((HFw.out.ext uq).trans (RunFr.of_below ((Below.refl _ _).drew))).trans HB'.out).trans (RunFr.put 1 _ fun _ h => h)).trans (RunFr.put 2 _ fun _ h => h)).trans (RunFr.of_below ((Below.refl _ _).alloc (Nat.le_refl _) _))⟩
    exact ((HQ'.out.put_ (j := 1) (r' := { r5 with block := b5 }) rfl rfl rfl rfl rfl rfl rfl rfl).put_ (j := 2) (r' := { r5 with block := b5, ins := i5 }) rfl rfl rfl rfl rfl rfl rfl rfl).alloc _
  | done e5 v5 =>
    go_wp2_with (go_at_call 46; refine HCALL.out.mono ?_; rintro e w5 ⟨rfl, q', hq', hb'⟩; have HQ' := hide hq'; have HB' := hide hb'; have k3' := hq'.k3; have k4' := hq'.k4; have f1' := hq'.fz 3; have f2' := hq'.fz 4; have hlt5 := hq'.lt; clear hq' hb'; unfold nxtV)
    go_ret
    rw [HE.out]
    refine ⟨rfl, q', ?_, (((((HFw.out.ext uq).trans (RunFr.of_below ((Below.refl _ _).drew))).trans HB'.out).trans (RunFr.put 3 _ fun _ h => h)).trans (RunFr.put 4 _ fun _ h => h)).trans (RunFr.of_below ((Below.refl _ _).alloc (Nat.le_refl _) _))⟩
    exact ((HQ'.out.put_ (j := 3) (r' := { r5 with fin := e5 }) rfl rfl rfl rfl rfl rfl rfl rfl).put_ (j := 4) (r' := { r5 with fin := e5, value := v5 }) rfl rfl rfl rfl rfl rfl rfl rfl).alloc _
omit hK in
set_option maxHeartbeats 4000000 in
set_option maxRecDepth 8000 in
theorem step9_term (hf : r.fin = 0) (hi : ¬ r.ins < (blockR r).ins.length) : Calls Try.prog 24 #[.pointer (some ⟨X, 0, none⟩)] w (RunTo (.bool (stepR r).2) base X (K + 1) q (stepR r).1 w) := by
  have HR := hide h
  have HG := hide hg
  obtain ⟨bk, hbk⟩ : ∃ bk : Nat, r.block = bk := Int.eq_ofNat_of_zero_le hg.b0
  obtain ⟨ik, hik⟩ : ∃ ik : Nat, r.ins = ik := Int.eq_ofNat_of_zero_le hg.i0
  obtain ⟨st, hst⟩ : ∃ st : Nat, r.steps = st := Int.eq_ofNat_of_zero_le hg.s0
  have hbn : bk < q.n := by have := hg.b1; have := h.blocks.len; omega
  have k0 := h.k0; have k3 := h.k3; have k15 := h.k15; have hlt := h.lt
  have f15 := h.fz 15
  rw [hf] at k3; rw [hst] at k15
  have hst' : (st : Int) < 1048576 := by have := hg.s1; omega
  have HBK := hide hbk; have HIK := hide hik; have HST := hide hst; have HI := hide hi; have HF := hide hf
  clear h hg hf hi hbk hik hst
  have hmn := map_nil
  go_enter Try.func24, Try.ntmps24
  go_wp2_with fail
  obtain ⟨V, hV⟩ : ∃ V, V = w.setCell ⟨X, 15, none⟩ (.int .i64 (↑st + 1)) := ⟨_, rfl⟩
  have HRV := hide (show RunAt V base X K q { r with steps := r.steps + 1 } by rw [hV]; exact HR.out.put_ (by rw [HST.out]; rfl) rfl rfl rfl rfl rfl rfl rfl)
  have HFV := hide (show RunFr q q X w V by rw [hV]; exact RunFr.put _ _ fun _ h => h)
  rw [← hV]
  clear hV k0 k3 k15 hlt f15
  obtain ⟨gb, off, B, Ai, ni, ci, hA, hgb, hB, hins, it1, it2, it3, it4, z0, z1, z2, z3, z4⟩ := at_Block HRV.out.blocks hbn
  have y1 : V.cell? ⟨X, 1, none⟩ = some (.int .i64 bk) := by rw [← HBK.out]; exact HRV.out.k1
  have y2 : V.cell? ⟨X, 2, none⟩ = some (.int .i64 ik) := by rw [← HIK.out]; exact HRV.out.k2
  have y10 : V.cell? ⟨X, 10, none⟩ = some (.slice (some ⟨gb, off, none⟩) q.n q.c) := by rw [← hA]; exact HRV.out.k10
  have hBR : blockR r = B := by unfold blockR; rw [HBK.out]; change r.t.blocks[bk]? = some B at hB; simp [List.getD_eq_getElem?_getD, hB]
  have hVX := HRV.out.lt
  have hbn' : (bk : Int) < q.n := by omega
  have HBR := hide hBR
  have HINS := hide hins
  have hni := hins.len
  have hik' : ¬ ik < ni := by have := HI.out; rw [hBR, HIK.out] at this; omega
  have hni' := hins.nle
  have hqn := HRV.out.blocks.nle
  clear hA hB hins hni hBR
  refine wp_region_last_ext [] [12] 13 (by kernel_rfl) rfl rfl rfl (by kernel_rfl) (by kernel_rfl) ?_
  simp only [List.take_succ_cons, List.take_zero]
  repeat (refine flow_known (by kernel_rfl) (fun K hK => ?_); go_simp; (first | (refine hK _ ?_; clear hK K) | (apply Exists.intro; refine ⟨fun _ => ?_, hK _ ?_⟩; (fail); clear hK K)))
  refine flow_keep0 (NewC V.heap.size #[.slice none 0 0, .int .i64 0, .int .i64 0, .int .i64 0, .int .i64 0] 60) (by kernel_rfl) (NewC.stable_ rfl) ?_ ?_
  · intro u
    go_simp
    exact ⟨NewC.mk_ (by rw [size_ext]) (by rw [size_ext]; omega), onW_alloc rfl ⟨_, rfl⟩⟩
  refine flow_done [true] (by kernel_rfl) ?_
  intro u
  simp only [List.nil_append, List.cons_append, endH_f, endH_t, endH_nil]
  rintro _ ⟨g, rfl, hgV, hgb'⟩
  have e0 : (V.ext u).cell? ⟨g, 0, none⟩ = some (.slice none 0 0) := cell_of_row _ _ _ _ _ (0, 0) hgb'
  have e1 : (V.ext u).cell? ⟨g, 1, none⟩ = some (.int .i64 0) := cell_of_row _ _ _ _ _ (0, 0) hgb'
  have e2 : (V.ext u).cell? ⟨g, 2, none⟩ = some (.int .i64 0) := cell_of_row _ _ _ _ _ (0, 0) hgb'
  have e3 : (V.ext u).cell? ⟨g, 3, none⟩ = some (.int .i64 0) := cell_of_row _ _ _ _ _ (0, 0) hgb'
  have e4 : (V.ext u).cell? ⟨g, 4, none⟩ = some (.int .i64 0) := cell_of_row _ _ _ _ _ (0, 0) hgb'
  have ef : ∀ j, (V.ext u).frozen? ⟨g, j, none⟩ = false := fun j => by simp [World.frozen?, hgb']
  have HGB := hide hgb'
  have hgl : g < (V.ext u).heap.size := (Array.getElem?_eq_some_iff.1 hgb').1
  obtain ⟨Y, hY⟩ : ∃ Y, Y = V.ext u := ⟨_, rfl⟩
  rw [← hY] at e0 e1 e2 e3 e4 ef HGB hgl ⊢
  have HFY := hide (show Below V.heap.size V Y by rw [hY]; exact Below.of_ext _ _ (Nat.le_refl _))
  clear hY hgb'
  go_simp
  go_wp2_with fail
  obtain ⟨Z, hZ⟩ : ∃ Z, Z = ((((Y.setCell ⟨g, 0, none⟩ (.slice Ai ni ci)).setCell ⟨g, 1, none⟩ (.int .i64 B.term.kind)).setCell ⟨g, 2, none⟩ (.int .i64 B.term.a)).setCell ⟨g, 3, none⟩ (.int .i64 B.term.to0)).setCell ⟨g, 4, none⟩ (.int .i64 B.term.to1) := ⟨_, rfl⟩
  have hgZ := hide (show Z.heap[g]? = some (.cells #[.slice Ai ni ci, .int .i64 B.term.kind, .int .i64 B.term.a, .int .i64 B.term.to0, .int .i64 B.term.to1] 60 (0, 0)) by
    rw [hZ]; exact row_setCell (row_setCell (row_setCell (row_setCell (row_setCell HGB.out 0 _) 1 _) 2 _) 3 _) 4 _)
  have HFZ := hide (show Below V.heap.size V Z by rw [hZ]; exact ((((HFY.out.setCell hgV _).setCell hgV _).setCell hgV _).setCell hgV _).setCell hgV _)
  have HRZ := hide (HRV.out.keep HFZ.out)
  have HFw := hide (HFV.out.trans (RunFr.of_below (q := q) (X := X) HFZ.out))
  rw [← hZ]
  clear hZ e0 e1 e2 e3 e4 ef y1 y2 y10 z0 z1 z2 z3 z4
  have b0 : Z.cell? ⟨g, 0, none⟩ = some (.slice Ai ni ci) := cell_of_row _ _ _ _ _ (0, 0) hgZ.out
  have b1 : Z.cell? ⟨g, 1, none⟩ = some (.int .i64 B.term.kind) := cell_of_row _ _ _ _ _ (0, 0) hgZ.out
  have b2 : Z.cell? ⟨g, 2, none⟩ = some (.int .i64 B.term.a) := cell_of_row _ _ _ _ _ (0, 0) hgZ.out
  have b3 : Z.cell? ⟨g, 3, none⟩ = some (.int .i64 B.term.to0) := cell_of_row _ _ _ _ _ (0, 0) hgZ.out
  have b4 : Z.cell? ⟨g, 4, none⟩ = some (.int .i64 B.term.to1) := cell_of_row _ _ _ _ _ (0, 0) hgZ.out
  have y1 : Z.cell? ⟨X, 1, none⟩ = some (.int .i64 bk) := by rw [← HBK.out]; exact HRZ.out.k1
  have y2 : Z.cell? ⟨X, 2, none⟩ = some (.int .i64 ik) := by rw [← HIK.out]; exact HRZ.out.k2
  have hXZ := HRZ.out.lt
  have hgl' : g < Z.heap.size := (Array.getElem?_eq_some_iff.1 hgZ.out).1
  have HIZ := hide (HINS.out.belowAll HFZ.out)
  refine wp_region_ext (by kernel_rfl) (by kernel_rfl) ?_
  repeat (any_goals (first | go_big_quiet_step ((fail)) | quiet_step ((fail))))
  refine wpQuiet_nil ?_
  rintro _ ⟨uq, rfl⟩
  go_wp2_with fail
  have HRD := hide (show RunAt (Z.ext uq) base X K q { r with steps := r.steps + 1 } from HRZ.out.ext uq)
  have HCALL := hide (term9_any (Z.ext uq) base X K q { r with steps := r.steps + 1 } HRD.out B.term it2)
  obtain ⟨nx, h5⟩ : ∃ nx, termR9 { r with steps := r.steps + 1 } B.term = nx := ⟨_, rfl⟩
  rw [h5] at HCALL
  have HE := hide (show stepR r = (goR { r with steps := r.steps + 1 } nx, true) by
    unfold stepR; rw [if_neg (fun h => h HF.out), if_neg (Int.not_lt.2 HI.out), HBR.out, h5])
  clear h5 it1 it2 it3 it4
  have ta1 := ta_spot; have ta2 := ta_done; have ta3 := ta_done'
  cases nx with
  | spot b5 i5 =>
    go_wp2_with (go_at_call 47; refine HCALL.out.mono ?_; rintro e w5 ⟨rfl, hux⟩; obtain ⟨hq', hb'⟩ := run_ext HRD.out hux; have HQ' := hide hq'; have HB' := hide hb'; have k1' := hq'.k1; have k2' := hq'.k2; have f1' := hq'.fz 1; have f2' := hq'.fz 2; have hlt5 := hq'.lt; clear hq' hb' hux; unfold nxtV)
    go_ret
    rw [HE.out]
    refine ⟨rfl, q, ?_, ((((HFw.out.ext uq).trans HB'.out).trans (RunFr.put 1 _ fun _ h => h)).trans (RunFr.put 2 _ fun _ h => h)).trans (RunFr.of_below ((Below.refl _ _).alloc (Nat.le_refl _) _))⟩
    exact (((HQ'.out.more (Nat.le_succ K)).put_ (j := 1) (r' := { r with steps := r.steps + 1, block := b5 }) rfl rfl rfl rfl rfl rfl rfl rfl).put_ (j := 2) (r' := { r with steps := r.steps + 1, block := b5, ins := i5 }) rfl rfl rfl rfl rfl rfl rfl rfl).alloc _
  | done e5 v5 =>
    go_wp2_with (go_at_call 47; refine HCALL.out.mono ?_; rintro e w5 ⟨rfl, hux⟩; obtain ⟨hq', hb'⟩ := run_ext HRD.out hux; have HQ' := hide hq'; have HB' := hide hb'; have k3' := hq'.k3; have k4' := hq'.k4; have f1' := hq'.fz 3; have f2' := hq'.fz 4; have hlt5 := hq'.lt; clear hq' hb' hux; unfold nxtV)
    go_ret
    rw [HE.out]
    refine ⟨rfl, q, ?_, ((((HFw.out.ext uq).trans HB'.out).trans (RunFr.put 3 _ fun _ h => h)).trans (RunFr.put 4 _ fun _ h => h)).trans (RunFr.of_below ((Below.refl _ _).alloc (Nat.le_refl _) _))⟩
    exact (((HQ'.out.more (Nat.le_succ K)).put_ (j := 3) (r' := { r with steps := r.steps + 1, fin := e5 }) rfl rfl rfl rfl rfl rfl rfl rfl).put_ (j := 4) (r' := { r with steps := r.steps + 1, fin := e5, value := v5 }) rfl rfl rfl rfl rfl rfl rfl rfl).alloc _
theorem step9_any : Calls Try.prog 24 #[.pointer (some ⟨X, 0, none⟩)] w (RunTo (.bool (stepR r).2) base X (K + 1) q (stepR r).1 w) := by
  by_cases hf : r.fin = 0
  · by_cases hi : r.ins < (blockR r).ins.length
    · exact step9_ins w base X K q r h hg hK hf hi
    · exact step9_term w base X K q r h hg hf hi
  · exact step9_end w base X K q r h hf
end
end Go.Proofs.Ytkjipgelbjaggaa
