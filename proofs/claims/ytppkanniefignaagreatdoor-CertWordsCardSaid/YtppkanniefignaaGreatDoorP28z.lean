/- law28: walks: CertPrints. -/
import Derived.Test.YtppkanniefignaaGreatDoorG26
import Derived.Test.YtppkanniefignaaGreatDoorG31
import Derived.Test.YtppkanniefignaaGreatDoorG20
set_option linter.unusedSimpArgs false
set_option linter.unusedVariables false
namespace Go.Proofs.YtppkanniefignaaGreatDoor
open Go.RowKit Go.Maps
set_option maxRecDepth 100000 in
set_option maxHeartbeats 16000000 in
theorem certPrints_any (w : World) (S S2 : Nat → Prop) (A B : Option Addr) (n k m j : Nat) (x : Cert) (a b : Fact) (h : Sl w S A n k x.tiles) (g : Sl w S2 B m j x.facts) (hm1 : ∀ t ∈ x.tiles, t.blocks.length ≤ 140737488355328) (hm2 : ∀ l ∈ x.facts, l.length ≤ 140737488355328)
  (ha : InI a.var ∧ InI a.loc.n) (hb : InI b.var ∧ InI b.loc.n) (hv : VarsP w) : Calls Tryz.prog 4 #[.agg #[.slice A n k, .slice B m j], facV a, facV b] w (RetX (.bool true) w) := by
 obtain ⟨bh, hbh⟩ : ∃ q, aheadF a b = q := ⟨_, rfl⟩
 have HAH := hide (fun W : World => show Calls Tryz.prog 19 #[.agg #[.int .i64 a.var, .bool a.loc.slot, .int .i64 a.loc.n], .agg #[.int .i64 b.var, .bool b.loc.slot, .int .i64 b.loc.n]] W (RetX (.bool bh) W) from hbh ▸ ahead28_any W a b ha hb)
 have HDH := hide (fun W : World => show Calls Tryz.prog 20 #[.agg #[.int .i64 a.var, .bool a.loc.slot, .int .i64 a.loc.n], .agg #[.int .i64 b.var, .bool b.loc.slot, .int .i64 b.loc.n]] W (RetX (.bool bh) W) from hbh ▸ dahead28_any W a b)
 obtain ⟨va, ⟨sa, na⟩⟩ := a
 obtain ⟨vb, ⟨sb, nb⟩⟩ := b
 dsimp only at HAH HDH
 unfold facV
 dsimp only
 obtain ⟨C, hC⟩ : ∃ C, w.heap.size = C := ⟨_, rfl⟩
 obtain ⟨W0, hW0⟩ : ∃ W0, ((w.alloc (.cells #[.slice A n k, .slice B m j] 26)).alloc (.cells #[.int .i64 va, .bool sa, .int .i64 na] 42)).alloc (.cells #[.int .i64 vb, .bool sb, .int .i64 nb] 42) = W0 := ⟨_, rfl⟩
 have HB0 := hide (show Below w.heap.size w W0 from by rw [← hW0]; exact (((Below.refl _ _).alloc (Nat.le_refl _) _).alloc (by simp) _).alloc (by simp; omega) _)
 have hr0 : W0.heap[C]? = some (.cells #[.slice A n k, .slice B m j] 26 (0, 0)) := by rw [← hW0, Below.heap_alloc _ _ _ (by simp; omega), Below.heap_alloc _ _ _ (by simp; omega), ← hC]; exact heap_alloc_new w _
 have hr1 : W0.heap[C + 1]? = some (.cells #[.int .i64 va, .bool sa, .int .i64 na] 42 (0, 0)) := by
  have e : (w.alloc (.cells #[.slice A n k, .slice B m j] 26)).heap.size = C + 1 := by rw [← hC]; simp
  rw [← hW0, Below.heap_alloc _ _ _ (by simp; omega), ← e]; exact heap_alloc_new _ _
 have hr2 : W0.heap[C + 2]? = some (.cells #[.int .i64 vb, .bool sb, .int .i64 nb] 42 (0, 0)) := by
  have e : ((w.alloc (.cells #[.slice A n k, .slice B m j] 26)).alloc (.cells #[.int .i64 va, .bool sa, .int .i64 na] 42)).heap.size = C + 2 := by rw [← hC]; simp
  rw [← hW0, ← e]; exact heap_alloc_new _ _
 have HR0 := hide hr0; have HR1 := hide hr1; have HR2 := hide hr2
 have HS := hide (show Sl W0 S A n k x.tiles from by rw [← hW0]; exact ((h.alloc _).alloc _).alloc _)
 have HG := hide (show Sl W0 S2 B m j x.facts from by rw [← hW0]; exact ((g.alloc _).alloc _).alloc _)
 have HV := hide (show VarsP W0 from hv.below HB0.out hv.v.sz)
 have HGW := hide (show 8 ≤ w.heap.size from hv.v.sz)
 have HCO := hide (certOf28_any W0 S S2 A B n k m j x HS.out HG.out hm1 hm2)
 obtain ⟨N, hN⟩ : ∃ N, certN x = N := ⟨_, rfl⟩
 rw [hN] at HCO
 have HN := hide hN
 have HCQ := hide hC; have HWQ := hide hW0
 have a0 : W0.cell? ⟨C, 0, none⟩ = some (.slice A n k) := cell_of_row W0 C _ _ _ (0, 0) hr0
 have a1 : W0.cell? ⟨C, 1, none⟩ = some (.slice B m j) := cell_of_row W0 C _ _ _ (0, 0) hr0
 have al : C < W0.heap.size := (Array.getElem?_eq_some_iff.1 hr0).1
 clear h g hv hm1 hm2 hN hC hW0 hr0 hr1 hr2 hbh ha hb
 go_enter Tryz.func4, Tryz.ntmps4
 go_upto_region 1 with (fail)
 rw [HWQ.out]
 by_cases hbig : 1500 < N
 ·have hb1 : decide ((1500 : Int) < N) = true := by simpa using hbig
  have HA := hide (fun u : Ext => awake28_any (W0.ext u) (HV.out.ext u))
  rw [HCQ.out]
  go_wp2_with (first | (go_at_call 13; (with_reducible refine HCO.out.mono ?_); rintro e _ ⟨rfl, u1, rfl⟩) | (go_at_call 7; (with_reducible refine (HA.out _).mono ?_); rintro e _ ⟨rfl, u2, rfl⟩))
  go_ret
  exact RetX.b rfl ((HB0.out.ext HB0.out.size _).ext (by rw [size_ext]; have := HB0.out.size; omega) _)
 ·have hb1 : decide ((1500 : Int) < N) = false := by simp; omega
  have HSM := hide (certN_sm (x := x) (by rw [HN.out]; omega))
  have HLC := hide (fun u : Ext => lentCert28_any (W0.ext u) S S2 A B n k m j x (HS.out.ext u) (HG.out.ext u) HSM.out)
  rw [HCQ.out]
  go_wp2_with (first | (go_at_call 13; (with_reducible refine HCO.out.mono ?_); rintro e _ ⟨rfl, u1, rfl⟩) | (go_at_call 14; (with_reducible refine (HLC.out _).mono ?_); rintro e W1 ⟨A1, k1, B1, j1, rfl, hl1, hl2, hx⟩; refine Hd.out ?_))
  obtain ⟨C7, hC7⟩ : ∃ C, W1.heap.size = C := ⟨_, rfl⟩
  obtain ⟨W2, hW2⟩ : ∃ W', W1.alloc (.cells #[.slice A1 n k1, .slice B1 m j1] 26) = W' := ⟨_, rfl⟩
  have hr7 : W2.heap[C7]? = some (.cells #[.slice A1 n k1, .slice B1 m j1] 26 (0, 0)) := by rw [← hW2, ← hC7]; exact heap_alloc_new W1 _
  have hb01 : Below W0.heap.size W0 W1 := by
   obtain ⟨u9, rfl⟩ := hx
   exact (Below.of_ext W0 u1 (Nat.le_refl _)).ext (by rw [size_ext]; omega) u9
  have hb02 : Below W0.heap.size W0 W2 := by rw [← hW2]; exact hb01.alloc hb01.size _
  have HB2 := hide (HB0.out.trans (hb02.mono HB0.out.size))
  have HV2 := hide (show VarsP W2 from HV.out.below hb02 HV.out.v.sz)
  have HKR := hide (fun q row ty (hq : W0.heap[q]? = some (.cells row ty (0, 0))) => show W2.heap[q]? = some (.cells row ty (0, 0)) from (hb02.block q (Array.getElem?_eq_some_iff.1 hq).1).trans hq)
  have HS2 := hide (show Sl W2 (fun q => q < W0.heap.size) A n k x.tiles from (HS.out.more (S' := fun q => q < W0.heap.size) fun q hq _ => hq).below hb02 fun q hq => hq)
  have HG2 := hide (show Sl W2 (fun q => q < W0.heap.size) B m j x.facts from (HG.out.more (S' := fun q => q < W0.heap.size) fun q hq _ => hq).below hb02 fun q hq => hq)
  have HL1 := hide (show Sl W2 (fun _ => True) A1 (n + 12) k1 (row x.tiles) from by rw [← hW2]; exact (hl1.more fun _ _ _ => trivial).alloc _)
  have HL2 := hide (show Sl W2 (fun _ => True) B1 m j1 (x.facts.map L.mk) from by rw [← hW2]; exact (hl2.more fun _ _ _ => trivial).alloc _)
  have HPR := hide (print28_any W2 _ _ A1 B1 n k1 m j1 x (HL1.out.forget HS.out.len) (HL2.out.forgetRows28) HV2.out)
  have HDP := hide (fun u : Ext => dprint28_any (W2.ext u) _ _ A B n k m j x (HS2.out.ext u) (HG2.out.ext u) (HV2.out.ext u))
  obtain ⟨pt, hpt⟩ : ∃ p, printB28 x = p := ⟨_, rfl⟩
  obtain ⟨pb, pe⟩ := pt
  rw [hpt] at HPR HDP
  dsimp only at HPR HDP
  have hr70 := HKR.out _ _ _ HR0.out
  have hr71 := HKR.out _ _ _ HR1.out
  have hr72 := HKR.out _ _ _ HR2.out
  have c70 : W2.cell? ⟨C7, 0, none⟩ = some (.slice A1 n k1) := cell_of_row W2 C7 _ _ _ (0, 0) hr7
  have c71 : W2.cell? ⟨C7, 1, none⟩ = some (.slice B1 m j1) := cell_of_row W2 C7 _ _ _ (0, 0) hr7
  have c7l : C7 < W2.heap.size := (Array.getElem?_eq_some_iff.1 hr7).1
  have c00 : W2.cell? ⟨C, 0, none⟩ = some (.slice A n k) := cell_of_row W2 C _ _ _ (0, 0) hr70
  have c01 : W2.cell? ⟨C, 1, none⟩ = some (.slice B m j) := cell_of_row W2 C _ _ _ (0, 0) hr70
  have c0l : C < W2.heap.size := (Array.getElem?_eq_some_iff.1 hr70).1
  obtain ⟨p0, p1, p2⟩ := cells3 hr71
  have pl : C + 1 < W2.heap.size := (Array.getElem?_eq_some_iff.1 hr71).1
  obtain ⟨q0, q1, q2⟩ := cells3 hr72
  have ql : C + 2 < W2.heap.size := (Array.getElem?_eq_some_iff.1 hr72).1
  have HC7 := hide hC7; have HW2 := hide hW2
  have hee : (pe != pe) = false := by simp
  clear hC7 hW2 hb01 hb02 hl1 hl2 hx hpt a0 a1 al HKR HCO HLC
  refine hide ?_
  go_upto_region 4 with (fail)
  rw [HW2.out]
  try rw [HC7.out]
  have HR70 := hide hr70; have HR71 := hide hr71; have HR72 := hide hr72; have HR77 := hide hr7
  clear hr7 hr70 hr71 hr72
  go_upto_region 6 with (first
   | (go_at_call 15; (with_reducible refine HPR.out.mono ?_); rintro e _ ⟨rfl, u3, rfl⟩)
   | (go_at_call 16; (with_reducible refine (HDP.out _).mono ?_); rintro e _ ⟨rfl, u4, rfl⟩))
  obtain ⟨W5, hW5⟩ : ∃ W, (W2.ext u3).ext u4 = W := ⟨_, rfl⟩
  have hb5 : Below W2.heap.size W2 W5 := by rw [← hW5]; exact (Below.of_ext W2 u3 (Nat.le_refl _)).ext (by rw [size_ext]; omega) u4
  rw [hW5]
  have HB5 := hide (HB2.out.trans (hb5.mono HB2.out.size))
  have HV5 := hide (HV2.out.below hb5 HV2.out.v.sz)
  have HS5 := hide (HS2.out.belowAll hb5)
  have HG5 := hide (HG2.out.belowAll hb5)
  have HL15 := hide (HL1.out.belowAll hb5)
  have HL25 := hide (HL2.out.belowAll hb5)
  have HRI := hide (fun u : Ext => right28_any (W5.ext u) _ _ A1 B1 n k1 m j1 x (HL15.out.forget HS.out.len |>.ext u) (HL25.out.forgetRows28.ext u) (HV5.out.ext u))
  have HDR := hide (fun u : Ext => dright28_any (W5.ext u) _ _ A B n k m j x (HS5.out.ext u) (HG5.out.ext u) (HV5.out.ext u))
  have HKE := hide (fun u : Ext => keptCert28_any (W5.ext u) _ _ _ _ A1 A B1 B n k1 k m j1 j x (HL15.out.ext u) (HS5.out.ext u) (HL25.out.ext u) (HG5.out.ext u) HSM.out)
  have HAW := hide (fun u : Ext => awake28_any (W5.ext u) (HV5.out.ext u))
  obtain ⟨rb, hrb⟩ : ∃ p, rightB x = p := ⟨_, rfl⟩
  rw [hrb] at HRI HDR
  have e7 := (hb5.block C7 c7l).trans HR77.out
  have e0 := (hb5.block C c0l).trans HR70.out
  have e1 := (hb5.block (C + 1) pl).trans HR71.out
  have e2 := (hb5.block (C + 2) ql).trans HR72.out
  clear c70 c71 c7l c00 c01 c0l p0 p1 p2 pl q0 q1 q2 ql hW5 hrb hb5
  have c70 : W5.cell? ⟨C7, 0, none⟩ = some (.slice A1 n k1) := cell_of_row W5 C7 _ _ _ (0, 0) e7
  have c71 : W5.cell? ⟨C7, 1, none⟩ = some (.slice B1 m j1) := cell_of_row W5 C7 _ _ _ (0, 0) e7
  have c7l : C7 < W5.heap.size := (Array.getElem?_eq_some_iff.1 e7).1
  have c00 : W5.cell? ⟨C, 0, none⟩ = some (.slice A n k) := cell_of_row W5 C _ _ _ (0, 0) e0
  have c01 : W5.cell? ⟨C, 1, none⟩ = some (.slice B m j) := cell_of_row W5 C _ _ _ (0, 0) e0
  have c0l : C < W5.heap.size := (Array.getElem?_eq_some_iff.1 e0).1
  obtain ⟨p0, p1, p2⟩ := cells3 e1
  have pl : C + 1 < W5.heap.size := (Array.getElem?_eq_some_iff.1 e1).1
  obtain ⟨q0, q1, q2⟩ := cells3 e2
  have ql : C + 2 < W5.heap.size := (Array.getElem?_eq_some_iff.1 e2).1
  clear e0 e1 e2 e7
  have hq1 : (pe == pe) = true := by simp
  have hq3 : (rb == rb) = true := by simp
  have hq4 : (bh == bh) = true := by simp
  refine wp_region_flow_ext [] [] (by kernel_rfl) rfl (by kernel_rfl) ?_
  repeat (refine flow_known (by kernel_rfl) (fun K hK => ?_); go_simp; (first | (refine hK _ ?_; clear hK K) | (refine ⟨undef, (by intros; rw [if_neg (by decide)]), hK _ ?_⟩; clear hK K) | (apply Exists.intro; refine ⟨fun _ => ?_, hK _ ?_⟩; (first | (go_at_call 17; with_reducible exact HRI.out _) | (go_at_call 18; with_reducible exact HDR.out _) | (go_at_call 19; with_reducible exact HAH.out _) | (go_at_call 20; with_reducible exact HDH.out _) | (go_at_call 21; with_reducible exact HKE.out _) | (go_at_call 7; with_reducible exact HAW.out _)); clear hK K)))
  refine flow_done [] (by kernel_rfl) ?_
  intro uf
  simp only [List.nil_append, List.cons_append, endH_f, endH_t, endH_nil]
  go_simp
  go_wp2_with fail
  go_ret
  exact RetX.b rfl (HB5.out.ext HB5.out.size _)
end Go.Proofs.YtppkanniefignaaGreatDoor
