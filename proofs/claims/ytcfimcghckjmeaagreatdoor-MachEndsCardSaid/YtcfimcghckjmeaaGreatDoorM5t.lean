/- MachTells: its walk. -/
import Derived.Test.YtcfimcghckjmeaaGreatDoorH9
import Derived.Test.YtcfimcghckjmeaaGreatDoorG26
import Derived.Test.YtcfimcghckjmeaaGreatDoorM5u
import Derived.Test.YtcfimcghckjmeaaGreatDoorH6
import Derived.Test.YtcfimcghckjmeaaGreatDoorH7
import Derived.Test.YtcfimcghckjmeaaGreatDoorG20
import Derived.Test.YtcfimcghckjmeaaGreatDoorM5e
import Derived.Test.YtcfimcghckjmeaaGreatDoorG23
import Derived.BigGuardPart
set_option linter.unusedSimpArgs false
set_option linter.unusedVariables false
namespace Go.Proofs.YtcfimcghckjmeaaGreatDoor
open Go.RowKit

set_option maxRecDepth 100000 in
set_option maxHeartbeats 8000000 in
theorem machTells_any (w : World) (hv : VarsP w) (S1 S2 : Nat → Prop) (m : Machine) (A1 A2 : Option Addr) (n1 c1 n2 c2 : Nat) (h1 : Sl w S1 A1 n1 c1 m.args) (h2 : Sl w S2 A2 n2 c2 m.saved) (hb1 : n1 ≤ 140737488355328) (hb2 : n2 ≤ 140737488355328) (hi : InI m.ret) (r o a : Int) :
    Calls Tryz.prog 4 #[.agg #[.int .i64 m.regs, .slice A1 n1 c1, .int .i64 m.ret, .slice A2 n2 c2], .int .i64 r, .int .i64 o, .int .i64 a] w (RetX (.bool true) w) := by
  obtain ⟨W0, hW0⟩ : ∃ W0, w.alloc (.cells #[.int .i64 m.regs, .slice A1 n1 c1, .int .i64 m.ret, .slice A2 n2 c2] 25) = W0 := ⟨_, rfl⟩
  obtain ⟨g, hg⟩ : ∃ g, w.heap.size = g := ⟨_, rfl⟩
  have HROW := hide (show W0.heap[g]? = some (.cells #[.int .i64 m.regs, .slice A1 n1 c1, .int .i64 m.ret, .slice A2 n2 c2] 25 (0, 0)) by rw [← hW0, ← hg]; exact heap_alloc_new w _)
  have HZ0 := hide (show W0.heap.size = g + 1 by rw [← hW0, ← hg]; simp)
  have HB0 := hide (show Below g w W0 by rw [← hW0, ← hg]; exact (Below.refl _ _).alloc (Nat.le_refl _) _)
  have H1 := hide (show Sl W0 (fun b => b < W0.heap.size) A1 n1 c1 m.args by rw [← hW0]; exact (h1.alloc _).more fun b hb _ => hb)
  have H2 := hide (show Sl W0 (fun b => b < W0.heap.size) A2 n2 c2 m.saved by rw [← hW0]; exact (h2.alloc _).more fun b hb _ => hb)
  have hn1 := h1.nle
  have hn2 := h2.nle
  have HV := hide (show VarsP W0 by rw [← hW0]; exact hv.alloc _)
  have HA := hide (fun (W : World) (hb : Below g w W) => awake05_any W (hv.v.below hb (hg ▸ hv.v.sz)))
  have HCE := hide (fun (W : World) (hb : Below W0.heap.size W0 W) => show W.cell? ⟨g, 0, none⟩ = some (.int .i64 m.regs) ∧ W.cell? ⟨g, 1, none⟩ = some (.slice A1 n1 c1) ∧ W.cell? ⟨g, 2, none⟩ = some (.int .i64 m.ret) ∧ W.cell? ⟨g, 3, none⟩ = some (.slice A2 n2 c2) ∧ g < W.heap.size from by
    have hr : W.heap[g]? = some (.cells #[.int .i64 m.regs, .slice A1 n1 c1, .int .i64 m.ret, .slice A2 n2 c2] 25 (0, 0)) := (hb.block g (by rw [HZ0.out]; omega)).trans HROW.out
    exact ⟨cell_of_row W g _ _ _ (0, 0) hr, cell_of_row W g _ _ _ (0, 0) hr, cell_of_row W g _ _ _ (0, 0) hr, cell_of_row W g _ _ _ (0, 0) hr, by have := hb.size; rw [HZ0.out] at this; omega⟩)
  obtain ⟨m0, m1, m2, m3, hgl⟩ := HCE.out W0 (Below.refl _ _)
  have HHW := hide hg
  have HL1 := hide h1.len; have HL2 := hide h2.len
  clear h1 h2 hv
  by_cases hbig : 2000 < n1 + n2
  · have hd : decide ((2000 : Int) < (n1 : Int) + n2) = true := by simp; omega
    go_enter Tryz.func4, Tryz.ntmps4
    go_wp2_with (go_at_call 6; refine (HA.out _ HB0.out).mono ?_; rintro e _ ⟨rfl, u0, rfl⟩)
    go_ret
    refine RetX.b rfl ?_
    rw [HHW.out]
    exact HB0.out.ext (by have := HHW.out; have := HZ0.out; omega) u0
  have hsm : n1 + n2 ≤ 2000 := by omega
  have hd : decide ((2000 : Int) < (n1 : Int) + n2) = false := by simp; omega
  have hla : m.args.length ≤ 1048576 := by rw [HL1.out]; omega
  have hls : m.saved.length ≤ 1048576 := by rw [HL2.out]; omega
  have HLA := hide hla; have HLS := hide hls
  clear hla hls
  go_enter Tryz.func4, Tryz.ntmps4
  go_wp2_with fail
  obtain ⟨C0, hC0⟩ : ∃ C0, C0 = m.args := ⟨_, rfl⟩
  clear hbig
  refine wp_region_flowI [4, 9, 10, 11] 12 (by kernel_rfl) rfl (by kernel_rfl) (by kernel_rfl) ?_
  simp only [List.take_succ_cons, List.take_zero, List.drop_succ_cons, List.drop_zero]
  repeat (refine flowI_known (by kernel_rfl) (fun K hK => ?_); go_simp; (first | (refine hK _ ?_; clear hK K) | (apply Exists.intro; refine ⟨fun _ => ?_, hK _ ?_⟩; (fail); clear hK K)))
  refine flowI_keep0 (LentIv W0.heap.size n1 m.args) (by kernel_rfl) (LentIv.stable_ rfl) ?_ ?_
  · intro u
    go_simp
    refine (lentInts_own _ _ A1 n1 c1 m.args (H1.out.ext u) HLA.out).mono ?_
    rintro e _ ⟨A', c', rfl, hs, ho, x', rfl⟩
    rw [HL1.out] at hs ho ⊢
    exact ⟨_, rfl, ⟨A', c', rfl, by have := (ho.below_ A' rfl).1; rw [size_ext] at this; exact this, (ho.below_ A' rfl).2, hs.row_at, OwnL.base_to ho (by rw [size_ext]; omega)⟩, onW_ext ⟨_, rfl⟩ ⟨x', rfl⟩⟩
  repeat (refine flowI_known (by kernel_rfl) (fun K hK => ?_); go_simp; (first | (refine hK _ ?_; clear hK K) | (apply Exists.intro; refine ⟨fun _ => ?_, hK _ ?_⟩; (fail); clear hK K)))
  refine flowI_keep0 (LentIv W0.heap.size n2 m.saved) (by kernel_rfl) (LentIv.stable_ rfl) ?_ ?_
  · intro u
    go_simp
    refine (lentInts_own _ _ A2 n2 c2 m.saved (H2.out.ext u) HLS.out).mono ?_
    rintro e _ ⟨A', c', rfl, hs, ho, x', rfl⟩
    rw [HL2.out] at hs ho ⊢
    exact ⟨_, rfl, ⟨A', c', rfl, by have := (ho.below_ A' rfl).1; rw [size_ext] at this; exact this, (ho.below_ A' rfl).2, hs.row_at, OwnL.base_to ho (by rw [size_ext]; omega)⟩, onW_ext ⟨_, rfl⟩ ⟨x', rfl⟩⟩
  refine flowI_keepA [true, true] (BuiltIv W0.heap.size m n1 n2) (by kernel_rfl) (BuiltIv.stable_ rfl) ?_ ?_
  · intro γ u hA
    have h49 := hA 4 9 (by kernel_rfl) (by kernel_rfl) (by decide)
    try simp only [List.nil_append, List.cons_append, List.map_cons, List.map_nil, atG, useH_f, useH_t, useH_nil]
    rintro _ ⟨ga, ca, rfl, hga, hga', hla, hoa⟩ _ ⟨gs, cs, rfl, hgs, hgs', hls, hos⟩
    simp only [Nat.zero_add, Nat.reduceAdd] at hga hga' hgs hgs'
    have hne : ga ≠ gs := by omega
    go_simp
    exact ⟨⟨ga, ca, gs, cs, rfl, hne, ⟨hla, hoa⟩, hls, hos⟩, onW_same ⟨_, rfl⟩⟩
  refine flowI_keep0 (MachIv W0.heap.size) (by kernel_rfl) (MachIv.stable_ rfl) ?_ ?_
  · intro u
    go_simp
    exact ⟨⟨_, rfl, by omega, by have := heap_alloc_new (W0.ext u) (.cells #[.int .i64 0, .slice none 0 0, .int .i64 0, .slice none 0 0] 25); rw [size_ext] at this; exact this⟩, onW_alloc rfl ⟨_, rfl⟩⟩
  refine flowI_done [true, true, true, true] rfl ?_
  intro γ u hap
  simp only [List.nil_append, List.cons_append, List.map_cons, List.map_nil, atG, endH_f, endH_t, endH_nil]
  rintro _ - _ - _ ⟨ga, ca, gs, cs, rfl, hne, ⟨hla, hoa⟩, hls, hos⟩ _ ⟨gz, rfl, hgz, hrz⟩
  have hza : ga ≠ gz := fun e => by
    obtain ⟨cs', h⟩ := hoa.type_of
    rw [e, hrz] at h
    injection h with h
    injection h with _ h
    exact absurd h (by decide)
  have hzs : gs ≠ gz := fun e => by
    obtain ⟨cs', h⟩ := hos.type_of
    rw [e, hrz] at h
    injection h with h
    injection h with _ h
    exact absurd h (by decide)
  clear hap
  obtain ⟨Y, hY⟩ : ∃ Y, W0.ext u = Y := ⟨_, rfl⟩
  rw [hY] at hla hoa hls hos hrz
  have HBY := hide (show Below W0.heap.size W0 Y by rw [← hY]; exact Below.of_ext W0 u (Nat.le_refl _))
  rw [hY]
  clear hY
  have z0 : Y.cell? ⟨gz, 0, none⟩ = some (.int .i64 0) := cell_of_row Y gz _ _ _ (0, 0) hrz
  have z1 : Y.cell? ⟨gz, 1, none⟩ = some (.slice none 0 0) := cell_of_row Y gz _ _ _ (0, 0) hrz
  have z2 : Y.cell? ⟨gz, 2, none⟩ = some (.int .i64 0) := cell_of_row Y gz _ _ _ (0, 0) hrz
  have z3 : Y.cell? ⟨gz, 3, none⟩ = some (.slice none 0 0) := cell_of_row Y gz _ _ _ (0, 0) hrz
  have zf : ∀ j, Y.frozen? ⟨gz, j, none⟩ = false := fun j => by simp [World.frozen?, hrz]
  have hzl : gz < Y.heap.size := (Array.getElem?_eq_some_iff.1 hrz).1
  have HLA2 := hide hla; have HOA := hide hoa; have HLS2 := hide hls; have HOS := hide hos; have HRZ := hide hrz
  clear hla hoa hls hos hrz m0 m1 m2 m3 hC0 C0
  go_simp
  go_upto_region 4 with (fail)
  obtain ⟨Z, hZ⟩ : ∃ Z, (((Y.setCell ⟨gz, 0, none⟩ (.int .i64 m.regs)).setCell ⟨gz, 1, none⟩ (.slice (some ⟨ga, 0, none⟩) n1 ca)).setCell ⟨gz, 2, none⟩ (.int .i64 m.ret)).setCell ⟨gz, 3, none⟩ (.slice (some ⟨gs, 0, none⟩) n2 cs) = Z := ⟨_, rfl⟩
  have HBZ := hide (show Below W0.heap.size W0 Z by
    rw [← hZ]
    exact (((HBY.out.setCell (by show W0.heap.size ≤ gz; omega) _).setCell (by show W0.heap.size ≤ gz; omega) _).setCell (by show W0.heap.size ≤ gz; omega) _).setCell (by show W0.heap.size ≤ gz; omega) _)
  have HRZ2 := hide (show Z.heap[gz]? = some (.cells #[.int .i64 m.regs, .slice (some ⟨ga, 0, none⟩) n1 ca, .int .i64 m.ret, .slice (some ⟨gs, 0, none⟩) n2 cs] 25 (0, 0)) by
    rw [← hZ]; exact row_setA (row_setA (row_setA (row_setA HRZ.out 0 _) 1 _) 2 _) 3 _)
  have hsz : Z.heap.size = Y.heap.size := by rw [← hZ]; simp
  have ownZ : ∀ (q nq cq : Nat) (xs : List Int), q ≠ gz → OwnL Y W0.heap.size 3 (fun _ => False) (.slice (some ⟨q, 0, none⟩) nq cq) xs → OwnL Z W0.heap.size 3 (fun _ => False) (.slice (some ⟨q, 0, none⟩) nq cq) xs := fun q nq cq xs hq h => by
    have hv : ∀ k : Nat, (Value.slice (some ⟨q, 0, none⟩) nq cq).ownBlock ≠ some (⟨gz, k, none⟩ : Addr).block := fun k e => by injection e with e; exact hq e
    rw [← hZ]
    exact (((h.setCell (fun h => h) (hv 0) _).setCell (fun h => h) (hv 1) _).setCell (fun h => h) (hv 2) _).setCell (fun h => h) (hv 3) _
  have slZ : ∀ (q nq cq : Nat) (xs : List Int), q ≠ gz → Sl Y (fun b => b = q) (some ⟨q, 0, none⟩) nq cq (row xs) → Sl Z (fun b => b = q) (some ⟨q, 0, none⟩) nq cq (row xs) := fun q nq cq xs hq h => by
    have hv : ∀ k : Nat, ¬ ((⟨gz, k, none⟩ : Addr).block = q) := fun k e => hq e.symm
    rw [← hZ]
    exact (((h.setCell (hv 0) _).setCell (hv 1) _).setCell (hv 2) _).setCell (hv 3) _
  have KA := hide (slZ _ _ _ _ hza HLA2.out); have KS := hide (slZ _ _ _ _ hzs HLS2.out)
  have OA := hide (ownZ _ _ _ _ hza HOA.out); have OS := hide (ownZ _ _ _ _ hzs HOS.out)
  clear HLA2 HLS2 HOA HOS ownZ slZ z0 z1 z2 z3 zf HRZ
  rw [hZ]
  have hgz' : gz < Z.heap.size := by omega
  have hgZ : g < Z.heap.size := by have := HBZ.out.size; omega
  clear hZ hsz hzl hgz hgl
  have HQ := hide (fun (W : World) (hb : Below Z.heap.size Z W) => show (Sl W (fun b => b < Z.heap.size) A1 n1 c1 m.args ∧ Sl W (fun b => b < Z.heap.size) A2 n2 c2 m.saved) ∧ Sl W (fun b => b < Z.heap.size) (some ⟨ga, 0, none⟩) n1 ca m.args ∧ Sl W (fun b => b < Z.heap.size) (some ⟨gs, 0, none⟩) n2 cs m.saved from
    ⟨⟨((H1.out.below HBZ.out fun _ h => h).more (S' := fun b => b < Z.heap.size) fun b hb _ => hb).below hb fun _ h => h, ((H2.out.below HBZ.out fun _ h => h).more (S' := fun b => b < Z.heap.size) fun b hb _ => hb).below hb fun _ h => h⟩, (OA.out.sl (S' := fun b => b < Z.heap.size) fun b hb _ => hb).below hb fun _ h => h, (OS.out.sl (S' := fun b => b < Z.heap.size) fun b hb _ => hb).below hb fun _ h => h⟩)
  obtain ⟨c0, c1', c2', c3, _⟩ := HCE.out Z HBZ.out
  have d0 : Z.cell? ⟨gz, 0, none⟩ = some (.int .i64 m.regs) := cell_of_row Z gz _ _ _ (0, 0) HRZ2.out
  have d1 : Z.cell? ⟨gz, 1, none⟩ = some (.slice (some ⟨ga, 0, none⟩) n1 ca) := cell_of_row Z gz _ _ _ (0, 0) HRZ2.out
  have d2 : Z.cell? ⟨gz, 2, none⟩ = some (.int .i64 m.ret) := cell_of_row Z gz _ _ _ (0, 0) HRZ2.out
  have d3 : Z.cell? ⟨gz, 3, none⟩ = some (.slice (some ⟨gs, 0, none⟩) n2 cs) := cell_of_row Z gz _ _ _ (0, 0) HRZ2.out
  obtain ⟨⟨ps, pe⟩, hpt⟩ : ∃ r, printT m = r := ⟨_, rfl⟩
  have HVZ := hide (HV.out.below HBZ.out HV.out.v.sz)
  have BE := fun u : Ext => Below.of_ext Z u (Nat.le_refl Z.heap.size)
  have HP1 := hide (show Calls Tryz.prog 11 #[.agg #[.int .i64 m.regs, .slice (some ⟨ga, 0, none⟩) n1 ca, .int .i64 m.ret, .slice (some ⟨gs, 0, none⟩) n2 cs]] Z (RetX (.tuple #[.string ps, .int .i64 pe]) Z) from by
    have h := print5_any Z _ _ m _ _ n1 ca n2 cs (HQ.out Z (Below.refl _ _)).2.1 (HQ.out Z (Below.refl _ _)).2.2 hi HVZ.out
    rw [hpt] at h; exact h)
  have HP2 := hide (fun u : Ext => show Calls Tryz.prog 12 #[.agg #[.int .i64 m.regs, .slice A1 n1 c1, .int .i64 m.ret, .slice A2 n2 c2]] (Z.ext u) (RetX (.tuple #[.string ps, .int .i64 pe]) (Z.ext u)) from by
    have h := dprint5_any (Z.ext u) _ _ m _ _ n1 c1 n2 c2 (HQ.out _ (BE u)).1.1 (HQ.out _ (BE u)).1.2 hi (HVZ.out.ext u)
    rw [hpt] at h; exact h)
  clear hpt BE
  go_wp2_with (first | (go_at_call 11; (with_reducible refine HP1.out.mono ?_); rintro e _ ⟨rfl, u1, rfl⟩) | (go_at_call 12; (with_reducible refine (HP2.out _).mono ?_); rintro e _ ⟨rfl, u2, rfl⟩))
  obtain ⟨V, hV⟩ : ∃ V, (Z.ext u1).ext u2 = V := ⟨_, rfl⟩
  have HBV := hide (show Below Z.heap.size Z V by rw [← hV]; exact ((Below.refl _ _).ext (Nat.le_refl _) u1).ext (by rw [size_ext]; omega) u2)
  rw [hV]
  clear hV HP1 HP2
  have HFW := hide (fun (W : World) (hb : Below Z.heap.size Z W) => show (W.cell? ⟨g, 0, none⟩ = some (.int .i64 m.regs) ∧ W.cell? ⟨g, 1, none⟩ = some (.slice A1 n1 c1) ∧ W.cell? ⟨g, 2, none⟩ = some (.int .i64 m.ret) ∧ W.cell? ⟨g, 3, none⟩ = some (.slice A2 n2 c2)) ∧
      (W.cell? ⟨gz, 0, none⟩ = some (.int .i64 m.regs) ∧ W.cell? ⟨gz, 1, none⟩ = some (.slice (some ⟨ga, 0, none⟩) n1 ca) ∧ W.cell? ⟨gz, 2, none⟩ = some (.int .i64 m.ret) ∧ W.cell? ⟨gz, 3, none⟩ = some (.slice (some ⟨gs, 0, none⟩) n2 cs)) ∧ g < W.heap.size ∧ gz < W.heap.size from
    ⟨⟨(hb.cell (p := ⟨g, 0, none⟩) hgZ).trans c0, (hb.cell (p := ⟨g, 1, none⟩) hgZ).trans c1', (hb.cell (p := ⟨g, 2, none⟩) hgZ).trans c2', (hb.cell (p := ⟨g, 3, none⟩) hgZ).trans c3⟩,
      ⟨(hb.cell (p := ⟨gz, 0, none⟩) hgz').trans d0, (hb.cell (p := ⟨gz, 1, none⟩) hgz').trans d1, (hb.cell (p := ⟨gz, 2, none⟩) hgz').trans d2, (hb.cell (p := ⟨gz, 3, none⟩) hgz').trans d3⟩, by have := hb.size; omega, by have := hb.size; omega⟩)
  clear c0 c1' c2' c3 d0 d1 d2 d3 hgZ hgz'
  obtain ⟨⟨c0, c1', c2', c3⟩, ⟨d0, d1, d2, d3⟩, hgV, hgzV⟩ := HFW.out V HBV.out
  obtain ⟨lo, hlo⟩ : ∃ lo, lostM m = lo := ⟨_, rfl⟩
  have HLO := hide hlo
  have HLS1 := hide (fun u : Ext => show Calls Tryz.prog 13 #[.agg #[.int .i64 m.regs, .slice (some ⟨ga, 0, none⟩) n1 ca, .int .i64 m.ret, .slice (some ⟨gs, 0, none⟩) n2 cs]] (V.ext u) (RetO 3 lo (V.ext u)) from by
    have hb : Below Z.heap.size Z (V.ext u) := HBV.out.ext HBV.out.size u
    have h := lostm_any (V.ext u) _ _ m _ _ n1 ca n2 cs (HQ.out _ hb).2.1 (HQ.out _ hb).2.2 hi
    rw [hlo] at h; exact h)
  clear hlo
  refine wp_region_flowI [1, 3] 4 (by kernel_rfl) rfl (by kernel_rfl) (by kernel_rfl) ?_
  simp only [List.take_succ_cons, List.take_zero, List.drop_succ_cons, List.drop_zero]
  repeat (refine flowI_known (by kernel_rfl) (fun K hK => ?_); go_simp; (first | (refine hK _ ?_; clear hK K) | (apply Exists.intro; refine ⟨fun _ => ?_, hK _ ?_⟩; (fail); clear hK K)))
  refine flowI_keep0 (OwnIw V.heap.size lo.length lo) (by kernel_rfl) (OwnIw.stable_ rfl) ?_ ?_
  · intro u
    go_simp
    refine (HLS1.out u).mono ?_
    rintro e _ ⟨A', n', c', S', rfl, hs, _, x', rfl⟩
    obtain rfl : n' = lo.length := by obtain ⟨_, _, e⟩ := hs.form; injection e
    exact ⟨_, rfl, ⟨A', c', rfl, OwnL.base_to hs.ints (by rw [size_ext]; omega), fun g hg => by have := hs.below_ g hg; rw [size_ext] at this; exact this⟩, onW_ext ⟨_, rfl⟩ ⟨x', rfl⟩⟩
  repeat (refine flowI_known (by kernel_rfl) (fun K hK => ?_); go_simp; (first | (refine hK _ ?_; clear hK K) | (apply Exists.intro; refine ⟨fun _ => ?_, hK _ ?_⟩; (fail); clear hK K)))
  refine flowI_keep0 (OwnIw V.heap.size lo.length lo) (by kernel_rfl) (OwnIw.stable_ rfl) ?_ ?_
  · intro u
    go_simp
    refine (HLS1.out u).mono ?_
    rintro e _ ⟨A', n', c', S', rfl, hs, _, x', rfl⟩
    obtain rfl : n' = lo.length := by obtain ⟨_, _, e⟩ := hs.form; injection e
    exact ⟨_, rfl, ⟨A', c', rfl, OwnL.base_to hs.ints (by rw [size_ext]; omega), fun g hg => by have := hs.below_ g hg; rw [size_ext] at this; exact this⟩, onW_ext ⟨_, rfl⟩ ⟨x', rfl⟩⟩
  refine flowI_done [true, true] rfl ?_
  intro γ u3 hap
  simp only [List.nil_append, List.cons_append, List.map_cons, List.map_nil, atG, endH_f, endH_t, endH_nil]
  rintro _ ⟨Ap, cp, rfl, hop, hgp⟩ _ ⟨Aq, cq, rfl, hoq, hgq⟩
  have h13 := hap.2 ⟨1, some 48, OwnIw V.heap.size lo.length lo⟩ (by simp) ⟨3, some 50, OwnIw V.heap.size lo.length lo⟩ (by simp) (by show (1 : Nat) ≠ 3; decide)
  simp only [Nat.zero_add, Nat.reduceAdd] at hgp hgq h13
  have hpq : ∀ x y, (Value.slice Ap lo.length cp).ownBlock = some x → (Value.slice Aq lo.length cq).ownBlock = some y → x ≠ y := fun x y hx hy => by have := hgp x hx; have := hgq y hy; omega
  clear hap hgp hgq h13
  obtain ⟨V1, hV1⟩ : ∃ V1, V.ext u3 = V1 := ⟨_, rfl⟩
  have HBV1 := hide (show Below Z.heap.size Z V1 by rw [← hV1]; exact HBV.out.ext HBV.out.size u3)
  rw [hV1] at hop hoq ⊢
  have HSV := hide (show V.heap.size ≤ V1.heap.size by rw [← hV1, size_ext]; omega)
  have HOP := hide hop; have HOQ := hide hoq; have HPQ := hide hpq
  clear hV1 hop hoq hpq c0 c1' c2' c3 d0 d1 d2 d3 hgV hgzV HLS1
  obtain ⟨⟨c0, c1', c2', c3⟩, ⟨d0, d1, d2, d3⟩, hgV, hgzV⟩ := HFW.out V1 HBV1.out
  go_simp
  go_wp2_with fail
  have HBU := hide (fun u : Ext => show Below Z.heap.size Z (V1.ext u) from HBV1.out.ext HBV1.out.size u)
  obtain ⟨b1, hb1'⟩ : ∃ b, rightM m = b := ⟨_, rfl⟩
  obtain ⟨b2, hb2'⟩ : ∃ b, hasI r m.saved = b := ⟨_, rfl⟩
  obtain ⟨b3, hb3'⟩ : ∃ b, enoughM m o a = b := ⟨_, rfl⟩
  obtain ⟨kl, hkl⟩ : ∃ kl, keepsM m = kl := ⟨_, rfl⟩
  have HC1 := hide (fun u : Ext => hb1' ▸ rightm_any (V1.ext u) _ _ m _ _ n1 ca n2 cs (HQ.out _ (HBU.out u)).2.1 (HQ.out _ (HBU.out u)).2.2 hi)
  have HC2 := hide (fun u : Ext => hb1' ▸ right5_any (V1.ext u) _ _ m _ _ n1 c1 n2 c2 (HQ.out _ (HBU.out u)).1.1 (HQ.out _ (HBU.out u)).1.2)
  have HC3 := hide (fun (u : Ext) => hb2' ▸ isSaved5_any (V1.ext u) _ m (.slice (some ⟨ga, 0, none⟩) n1 ca) _ n2 cs (HQ.out _ (HBU.out u)).2.2 r)
  have HC4 := hide (fun (u : Ext) => hb2' ▸ disSaved5_any (V1.ext u) _ m (.slice A1 n1 c1) _ n2 c2 (HQ.out _ (HBU.out u)).1.2 r)
  have HC5 := hide (fun u : Ext => HLO.out ▸ dlost5_any (V1.ext u) _ _ m _ _ n1 c1 n2 c2 (HQ.out _ (HBU.out u)).1.1 (HQ.out _ (HBU.out u)).1.2)
  have HC6 := hide (fun (u : Ext) (S : Nat → Prop) (A : Option Addr) (c : Nat) (h : Sl (V1.ext u) S A lo.length c lo) => sameInts_any (V1.ext u) (fun _ => True) S Ap A lo.length cp c lo ((HOP.out.sl (S' := fun _ => True) fun _ _ _ => trivial).ext u) h)
  have HC7 := hide (fun u : Ext => hkl ▸ keeps_any (V1.ext u) _ _ m _ _ n1 ca n2 cs (HQ.out _ (HBU.out u)).2.1 (HQ.out _ (HBU.out u)).2.2 hi)
  have HC8 := hide (fun u : Ext => hkl ▸ dkeeps5_any (V1.ext u) _ _ m _ _ n1 c1 n2 c2 (HQ.out _ (HBU.out u)).1.1 (HQ.out _ (HBU.out u)).1.2)
  have HC9 := hide (fun u : Ext => hb3' ▸ enough_any (V1.ext u) _ _ m _ _ n1 ca n2 cs (HQ.out _ (HBU.out u)).2.1 (HQ.out _ (HBU.out u)).2.2 hi o a)
  have HC10 := hide (fun u : Ext => hb3' ▸ denough5_any (V1.ext u) _ _ m _ _ n1 c1 n2 c2 (HQ.out _ (HBU.out u)).1.1 (HQ.out _ (HBU.out u)).1.2 o a)
  have hpe : (pe == pe) = true := by simp
  have hbb1 : (b1 == b1) = true := by simp
  have hbb2 : (b2 == b2) = true := by simp
  have hbb3 : (b3 == b3) = true := by simp
  clear hb1' hb2' hb3' hkl
  refine wp_region_flow_ext [] [27, 32, 34] (by kernel_rfl) rfl (by kernel_rfl) ?_
  repeat (refine flow_known (by kernel_rfl) (fun K hK => ?_); go_simp; (first | (refine hK _ ?_; clear hK K) | (apply Exists.intro; refine ⟨fun _ => ?_, hK _ ?_⟩; (first | (go_at_call 14; exact HC1.out _) | (go_at_call 15; exact HC2.out _) | (go_at_call 16; exact HC3.out _) | (go_at_call 17; exact HC4.out _)); clear hK K)))
  refine flow_keep0 (SlP lo.length lo) (by kernel_rfl) (SlP.stable_ rfl) ?_ ?_
  · intro u
    go_simp
    refine (HC5.out u).mono ?_
    rintro e _ ⟨A', n', c', S', rfl, hs, _, x', rfl⟩
    obtain rfl : n' = lo.length := by obtain ⟨_, _, e⟩ := hs.form; injection e
    exact ⟨_, rfl, ⟨_, _, _, rfl, hs.sl (S' := fun _ => True) fun _ _ _ => trivial⟩, onW_ext ⟨_, rfl⟩ ⟨x', rfl⟩⟩
  refine flow_out [true] (.bool true) (by kernel_rfl) ?_ ?_
  · intro u
    try simp only [List.nil_append, List.cons_append, useH_f, useH_t, useH_nil]
    rintro _ ⟨S, A, c, rfl, hs⟩
    go_simp
    exact HC6.out u S A c hs
  repeat (refine flow_known (by kernel_rfl) (fun K hK => ?_); go_simp; (first | (refine hK _ ?_; clear hK K) | (apply Exists.intro; refine ⟨fun _ => ?_, hK _ ?_⟩; (fail); clear hK K)))
  refine flow_keep0 (SlP kl.length kl) (by kernel_rfl) (SlP.stable_ rfl) ?_ ?_
  · intro u
    go_simp
    refine (HC7.out u).mono ?_
    rintro e _ ⟨A', n', c', S', rfl, hs, _, x', rfl⟩
    obtain rfl : n' = kl.length := by obtain ⟨_, _, e⟩ := hs.form; injection e
    exact ⟨_, rfl, ⟨_, _, _, rfl, hs.sl (S' := fun _ => True) fun _ _ _ => trivial⟩, onW_ext ⟨_, rfl⟩ ⟨x', rfl⟩⟩
  repeat (refine flow_known (by kernel_rfl) (fun K hK => ?_); go_simp; (first | (refine hK _ ?_; clear hK K) | (apply Exists.intro; refine ⟨fun _ => ?_, hK _ ?_⟩; (fail); clear hK K)))
  refine flow_keep0 (SlP kl.length kl) (by kernel_rfl) (SlP.stable_ rfl) ?_ ?_
  · intro u
    go_simp
    refine (HC8.out u).mono ?_
    rintro e _ ⟨A', n', c', S', rfl, hs, _, x', rfl⟩
    obtain rfl : n' = kl.length := by obtain ⟨_, _, e⟩ := hs.form; injection e
    exact ⟨_, rfl, ⟨_, _, _, rfl, hs.sl (S' := fun _ => True) fun _ _ _ => trivial⟩, onW_ext ⟨_, rfl⟩ ⟨x', rfl⟩⟩
  refine flow_out [false, true, true] (.bool true) (by kernel_rfl) ?_ ?_
  · intro u
    try simp only [List.nil_append, List.cons_append, useH_f, useH_t, useH_nil]
    rintro _ ⟨S, A, c, rfl, hs⟩ _ ⟨S', A', c', rfl, hs'⟩
    go_simp
    exact sameFacts_any _ S S' A A' _ c c' kl hs hs'
  repeat (refine flow_known (by kernel_rfl) (fun K hK => ?_); go_simp; (first | (refine hK _ ?_; clear hK K) | (apply Exists.intro; refine ⟨fun _ => ?_, hK _ ?_⟩; (first | (go_at_call 23; exact HC9.out _) | (go_at_call 24; exact HC10.out _)); clear hK K)))
  refine flow_done [true, true, true] (by kernel_rfl) ?_
  intro u4
  simp only [List.nil_append, List.cons_append, endH_f, endH_t, endH_nil]
  rintro v1 _ v2 _ v3 _
  go_simp
  obtain ⟨U, hU⟩ : ∃ U, V1.ext u4 = U := ⟨_, rfl⟩
  have HBU2 := hide (show Below Z.heap.size Z U by rw [← hU]; exact HBU.out u4)
  have HBVU := hide (show Below V1.heap.size V1 U by rw [← hU]; exact Below.of_ext V1 u4 (Nat.le_refl _))
  rw [hU]
  clear hU HC1 HC2 HC3 HC4 HC5 HC6 HC7 HC8 HC9 HC10 c0 c1' c2' c3 d0 d1 d2 d3 hgV hgzV HBU
  obtain ⟨⟨c0, c1', c2', c3⟩, ⟨d0, d1, d2, d3⟩, hgU, hgzU⟩ := HFW.out U HBU2.out
  have HKA := hide (keptInts_any U _ _ _ _ n1 ca c1 m.args (KA.out.below (HBU2.out) (fun b h => by have := (OA.out.below_ ga rfl).2; omega)) (HQ.out U HBU2.out).1.1 HLA.out)
  have HKS := hide (fun u : Ext => keptInts_any (U.ext u) _ _ _ _ n2 cs c2 m.saved ((KS.out.below (HBU2.out) (fun b h => by have := (OS.out.below_ gs rfl).2; omega)).ext u) ((HQ.out U HBU2.out).1.2.ext u) HLS.out)
  have HAP := hide (fun (u v : Ext) (q : Nat) (hq : q = ((U.ext u).ext v).heap.size) => show Calls Tryz.prog 26 #[.slice (some ⟨q, 0, none⟩) 4 4] (((U.ext u).ext v).alloc (.cells #[.slice Ap lo.length cp, .slice Aq lo.length cq, .slice (some ⟨ga, 0, none⟩) n1 ca, .slice (some ⟨gs, 0, none⟩) n2 cs] 23)) (fun e w' => e = .returned (.bool true) ∧ Below g w w') from by
    subst hq
    have kp : ∀ (X W : World) (B : Nat) (v : Value) (xs : List Int), Below X.heap.size X W → OwnL X B 3 (fun _ => False) v xs → OwnL W B 3 (fun _ => False) v xs := fun X W B v xs hb h => h.keep hb.size (fun _ hf => hf.elim) fun g hg => hb.block g (h.below_ g hg).2
    obtain ⟨T, hT⟩ : ∃ T, (U.ext u).ext v = T := ⟨_, rfl⟩
    have hUT : Below U.heap.size U T := by rw [← hT]; exact ((Below.refl _ _).ext (Nat.le_refl _) u).ext (by rw [size_ext]; omega) v
    have s1 := HBZ.out.size
    have s2 := HBV.out.size
    have s3 := HSV.out
    have s4 := HBVU.out.size
    have s5 := HBU2.out.size
    have s6 := hUT.size
    have s7 := HB0.out.size
    have s8 := HZ0.out
    have s9 := HHW.out
    have b1 : Below V1.heap.size V1 T := HBVU.out.trans (hUT.mono s4)
    have b2 : Below Z.heap.size Z T := HBU2.out.trans (hUT.mono s5)
    have op := kp V1 T _ _ _ b1 HOP.out
    have oq := kp V1 T _ _ _ b1 HOQ.out
    have pz := fun x hx => (HOP.out.below_ x hx).1
    have qz := fun x hx => (HOQ.out.below_ x hx).1
    have az := (OA.out.below_ ga rfl).2
    have sz := (OS.out.below_ gs rfl).2
    have ia : ∀ (q : Nat) (n c x : Nat), (Value.slice (some ⟨q, 0, none⟩) n c).ownBlock = some x → q = x := fun q n c x e => by injection e
    rw [hT]
    refine (apart_four T W0.heap.size ⟨Ap, lo.length, cp⟩ ⟨Aq, lo.length, cq⟩ ⟨some ⟨ga, 0, none⟩, n1, ca⟩ ⟨some ⟨gs, 0, none⟩, n2, cs⟩ lo lo m.args m.saved (by omega) (OwnL.base_to op (by omega)) (OwnL.base_to oq (by omega)) (kp Z T _ _ _ b2 OA.out) (kp Z T _ _ _ b2 OS.out)
      (fun x h1 h2 => HPQ.out x x h1 h2 rfl) (fun x h1 h2 => by have := pz x h1; have := ia _ _ _ _ h2; omega) (fun x h1 h2 => by have := pz x h1; have := ia _ _ _ _ h2; omega) (fun x h1 h2 => by have := qz x h1; have := ia _ _ _ _ h2; omega) (fun x h1 h2 => by have := qz x h1; have := ia _ _ _ _ h2; omega) (fun x h1 h2 => hne ((ia _ _ _ _ h1).trans (ia _ _ _ _ h2).symm))
      (by rw [← HLO.out]; exact lostM_few m) (by rw [← HLO.out]; exact lostM_few m) (by show n1 ≤ 1000000; omega) (by show n2 ≤ 1000000; omega)).mono ?_
    rintro e w' ⟨he, hw'⟩
    refine ⟨he, HB0.out.trans ((HBZ.out.mono (by omega)).trans ((b2.mono (by omega)).trans (((Below.refl _ _).alloc (by omega) _).trans (hw'.mono (by omega)))))⟩)
  clear HPQ HOP HOQ HBVU
  go_wp2_with (first
    | (go_at_call 25; (with_reducible refine HKA.out.mono ?_); rintro e _ ⟨rfl, u5, rfl⟩)
    | (go_at_call 25; (with_reducible refine (HKS.out _).mono ?_); rintro e _ ⟨rfl, u6, rfl⟩)
    | (go_at_call 26; refine (HAP.out _ _ _ (by rw [size_ext, size_ext])).mono ?_; rintro e w8 ⟨rfl, hb8⟩)
    | (go_at_call 6; refine (HA.out _ hb8).mono ?_; rintro e _ ⟨rfl, u9, rfl⟩))
  go_ret
  refine RetX.b rfl ?_
  rw [HHW.out]
  exact hb8.ext (by have := hb8.size; have := HHW.out; omega) u9
end Go.Proofs.YtcfimcghckjmeaaGreatDoor
