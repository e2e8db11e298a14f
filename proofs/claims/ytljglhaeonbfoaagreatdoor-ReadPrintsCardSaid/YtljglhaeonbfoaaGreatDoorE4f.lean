/- law04: walks: the document's Can. -/
import Derived.Test.YtljglhaeonbfoaaGreatDoorG52
import Derived.Test.YtljglhaeonbfoaaGreatDoorG34
set_option linter.unusedSimpArgs false
set_option linter.unusedVariables false
namespace Go.Proofs.YtljglhaeonbfoaaGreatDoor
open Go.RowKit
set_option maxRecDepth 100000 in
set_option maxHeartbeats 32000000 in
theorem can4_any (f : Fnc) (w : World) (S : Nat → Prop) (A B : Option Addr) (n k m j : Nat) (hp : Sl w S A n k f.params) (hb : Sl w S B m j f.blocks) : Calls Tryz.prog 31 #[fnV A n k B m j] w (RetX (.bool (fncB f)) w) := by
 obtain ⟨ps, bl⟩ := f
 simp only at hp hb
 obtain ⟨C, hC⟩ : ∃ C, w.heap.size = C := ⟨_, rfl⟩
 obtain ⟨W0, hW0⟩ : ∃ W, w.alloc (.cells #[.slice A n k, .slice B m j] 25) = W := ⟨_, rfl⟩
 have HR0 := hide (show W0.heap[C]? = some (.cells #[.slice A n k, .slice B m j] 25 (0, 0)) from by rw [← hW0, ← hC]; exact heap_alloc_new w _)
 have a0 : W0.cell? ⟨C, 0, none⟩ = some (.slice A n k) := cell_of_row W0 C _ _ _ (0, 0) HR0.out
 have a1 : W0.cell? ⟨C, 1, none⟩ = some (.slice B m j) := cell_of_row W0 C _ _ _ (0, 0) HR0.out
 have cl : C < W0.heap.size := (Array.getElem?_eq_some_iff.1 HR0.out).1
 have HB0 := hide (show Below w.heap.size w W0 from by rw [← hW0]; exact (Below.refl _ _).alloc (Nat.le_refl _) _)
 have HBL := hide (show w.heap.size ≤ W0.heap.size from HB0.out.size)
 have HP := hide (show Sl W0 S A n k ps from by rw [← hW0]; exact hp.alloc _)
 have HBK := hide (show Sl W0 S B m j bl from by rw [← hW0]; exact hb.alloc _)
 have HLN := hide hp.len; have HLM := hide hb.len
 have hnn := hp.nle
 have hmm := hb.nle
 obtain ⟨R, hR⟩ : ∃ R, fncB ⟨ps, bl⟩ = R := ⟨_, rfl⟩
 rw [hR]
 have HFE := hide (show R = (parsB [] ps && (!decide (8 < (n : Int)) && !decide ((m : Int) < 1) && !decide (64 < (m : Int)) && bl.all blockB)) from by
  rw [← hR]
  unfold fncB
  simp only
  rw [HLN.out, HLM.out,
   show decide (n ≤ 8) = !decide (8 < (n : Int)) from by rw [Bool.eq_iff_iff]; simp; try omega,
   show decide (1 ≤ m) = !decide ((m : Int) < 1) from by rw [Bool.eq_iff_iff]; simp; try omega,
   show decide (m ≤ 64) = !decide (64 < (m : Int)) from by rw [Bool.eq_iff_iff]; simp; try omega])
 clear hp hb hR
 cases e0 : decide ((m : Int) < 1) with
 | true =>
  have HE := hide (show R = false from by rw [HFE.out, e0]; simp)
  go_enter Tryz.func31, Tryz.ntmps31
  go_wp2_with fail
  go_ret
  exact RetX.b HE.out.symm HB0.out
 | false =>
 cases e64 : decide (64 < (m : Int)) with
 | true =>
  have HE := hide (show R = false from by rw [HFE.out, e64]; simp)
  go_enter Tryz.func31, Tryz.ntmps31
  go_wp2_with fail
  go_ret
  exact RetX.b HE.out.symm HB0.out
 | false =>
 cases e8 : decide (8 < (n : Int)) with
 | true =>
  have HE := hide (show R = false from by rw [HFE.out, e8]; simp)
  go_enter Tryz.func31, Tryz.ntmps31
  go_wp2_with fail
  go_ret
  exact RetX.b HE.out.symm HB0.out
 | false =>
 have HF2 := hide (show R = (parsB [] ps && bl.all blockB) from by rw [HFE.out, e8, e64, e0]; simp)
 clear HFE
 go_enter Tryz.func31, Tryz.ntmps31
 go_wp2_with fail
 clear e0 e64 e8 hC hW0
 have A0 := hide a0; have A1 := hide a1; have CL := hide cl
 go_loopw [3, 4] (fun i _ wr => ∃ x : Nat, i = .int .i64 x ∧ x ≤ n ∧ parsB [] ps = parsB (ps.take x) (ps.drop x) ∧ Below W0.heap.size W0 wr) (fun i _ _ => n - (intOf i).toNat)
 case atStart => exact ⟨0, rfl, Nat.zero_le _, rfl, Below.refl _ _⟩
 case round =>
  clear a0 a1 cl
  obtain ⟨x, rfl, hx, hpb, hbw⟩ := hrel
  obtain ⟨wp, hwp⟩ : ∃ V, V = wr := ⟨_, rfl⟩
  subst hwp
  have HPB := hide hpb; have HBW0 := hide hbw
  have HWp := hide (show Below w.heap.size w wp from HB0.out.trans (hbw.mono HBL.out))
  have a0 : wp.cell? ⟨C, 0, none⟩ = some (.slice A n k) := (World.cell?_of_block (hbw.block C CL.out)).trans A0.out
  have a1 : wp.cell? ⟨C, 1, none⟩ = some (.slice B m j) := (World.cell?_of_block (hbw.block C CL.out)).trans A1.out
  have cl : C < wp.heap.size := Nat.lt_of_lt_of_le CL.out hbw.size
  clear hpb hbw
  by_cases hlt : x < n
  ·obtain ⟨b, off, p, rfl, hb, hxp, hpi, c0⟩ := at_int (HP.out.belowAll HBW0.out) hlt
   have HXP := hide hxp
   have HSTEP := hide (parsB_step HPB.out hxp)
   have hxi : (x : Int) < n := by omega
   clear hxp
   obtain ⟨vp, hvp⟩ : ∃ q, vOk p = q := ⟨_, rfl⟩
   have HV := hide (show Calls Tryz.prog 74 #[.int .i64 p] wp (Ret (.bool vp) wp) from hvp ▸ var3_any p wp)
   cases vp with
   | false =>
    have HE := hide (show R = false from by rw [HF2.out, HSTEP.out, hvp]; rfl)
    clear hvp
    go_wp2_with (go_at_call 74; (with_reducible refine HV.out.mono ?_); rintro e w' ⟨rfl, rfl⟩)
    go_ret
    exact RetX.b HE.out.symm HWp.out
   | true =>
    have HVP := hide hvp
    clear hvp
    go_wp2_with (go_at_call 74; (with_reducible refine HV.out.mono ?_); rintro e w' ⟨rfl, rfl⟩)
    have B0 := hide a0; have B1 := hide a1; have BL := hide cl
    go_loopw [4] (fun i wr => ∃ y : Nat, i = .int .i64 y ∧ y ≤ x ∧ (ps.take y).contains p = false ∧ Below wp.heap.size wp wr) (fun i _ => x - (intOf i).toNat)
    case atStart => exact ⟨0, rfl, Nat.zero_le _, rfl, Below.refl _ _⟩
    case round =>
     clear a0 a1 cl c0
     obtain ⟨y, rfl, hy, hct, hbz⟩ := hrel
     obtain ⟨wz, hwz⟩ : ∃ V, V = wr := ⟨_, rfl⟩
     subst hwz
     have HCT := hide hct; have HBZ := hide hbz
     have HWz := hide (show Below w.heap.size w wz from HWp.out.trans (hbz.mono HWp.out.size))
     have HB0z := hide (show Below W0.heap.size W0 wz from HBW0.out.trans (hbz.mono HBW0.out.size))
     have a0 : wz.cell? ⟨C, 0, none⟩ = some (.slice (some ⟨b, off, none⟩) n k) := (World.cell?_of_block (hbz.block C BL.out)).trans B0.out
     have cl : C < wz.heap.size := Nat.lt_of_lt_of_le BL.out hbz.size
     clear hct hbz
     obtain ⟨b', off', p', he, hbx, hxp', hpi', c0⟩ := at_int (HP.out.belowAll HB0z.out) hlt
     injection he with he
     injection he with he1 he2
     subst he1 he2
     obtain rfl : p = p' := by have := HXP.out; rw [hxp'] at this; exact (Option.some.inj this).symm
     clear hxp'
     by_cases hly : y < x
     ·obtain ⟨b', off', p2, he, hb', hyp, hpi2, c1⟩ := at_int (HP.out.belowAll HB0z.out) (show y < n by omega)
      injection he with he
      injection he with he1 he2
      subst he1 he2
      have hyi : (y : Int) < x := by omega
      have hyn : (y : Int) < n := by omega
      have HYP := hide hyp
      clear hyp
      cases q12 : (p2 == p) with
      | true =>
       have HE := hide (show R = false from by
        have hpe : p2 = p := by simpa using q12
        have hm : (ps.take x).contains p = true := by
         rw [List.contains_iff_mem, ← hpe]
         exact List.mem_of_getElem? (show (ps.take x)[y]? = some p2 by rw [List.getElem?_take, if_pos hly]; exact HYP.out)
        rw [HF2.out, HSTEP.out, hm]; simp)
       go_wp2_with fail
       refine wp_region_ext (by kernel_rfl) (by kernel_rfl) ?_
       repeat (any_goals (first | go_big_quiet_step ((fail)) | quiet_step ((fail))))
       refine wpQuiet_nil ?_
       rintro _ ⟨uq, rfl⟩
       go_wp2
       go_ret
       exact RetX.b HE.out.symm (HWz.out.ext HWz.out.size _)
      | false =>
       have HCN := hide (show (ps.take (y + 1)).contains p = false from by
        rw [List.take_add_one, HYP.out]
        have := HCT.out
        simp at this q12 ⊢
        exact ⟨this, fun h => q12 h.symm⟩)
       go_wp2_with fail
       refine wp_region_ext (by kernel_rfl) (by kernel_rfl) ?_
       repeat (any_goals (first | go_big_quiet_step ((fail)) | quiet_step ((fail))))
       refine wpQuiet_nil ?_
       rintro _ ⟨uq, rfl⟩
       go_wp2
       go_roundw
       case rel => exact ⟨y + 1, by go_num, by omega, HCN.out, HBZ.out.ext HBZ.out.size _⟩
       case measure => simp [intOf]; omega
     ·have hyx : y = x := by omega
      subst hyx
      have HPN := hide (show parsB [] ps = parsB (ps.take (y + 1)) (ps.drop (y + 1)) from by rw [HSTEP.out, HVP.out, HCT.out]; rfl)
      go_wp2_with fail
      go_roundw
      case rel => exact ⟨y + 1, by go_num, by omega, HPN.out, HB0z.out⟩
      case measure => simp [intOf]; omega
  ·have HPT := hide (show parsB [] ps = true from by rw [HPB.out, drop_end HP.out.len hlt]; rfl)
   have HF3 := hide (show R = bl.all blockB from by rw [HF2.out, HPT.out]; simp)
   clear HF2 HPT HPB
   go_wp2_with fail
   go_loopw [5, 6, 7, 8] (fun i _ _ _ wr => ∃ x : Nat, i = .int .i64 x ∧ x ≤ m ∧ bl.all blockB = (bl.drop x).all blockB ∧ Below W0.heap.size W0 wr) (fun i _ _ _ _ => m - (intOf i).toNat)
   case atStart => exact ⟨0, rfl, Nat.zero_le _, rfl, HBW0.out⟩
   case round =>
    obtain ⟨k1, rfl, hk1, hal, hbw⟩ := hrel
    clear a0 a1 cl
    obtain ⟨wq, hwq⟩ : ∃ V, V = wr := ⟨_, rfl⟩
    subst hwq
    have HAL := hide hal; have HBW := hide hbw
    have HWw := hide (show Below w.heap.size w wq from HB0.out.trans (hbw.mono HBL.out))
    have b0 : wq.cell? ⟨C, 0, none⟩ = some (.slice A n k) := (World.cell?_of_block (hbw.block C CL.out)).trans A0.out
    have b1 : wq.cell? ⟨C, 1, none⟩ = some (.slice B m j) := (World.cell?_of_block (hbw.block C CL.out)).trans A1.out
    have hCq : C < wq.heap.size := Nat.lt_of_lt_of_le CL.out hbw.size
    clear hal hbw
    by_cases hlt1 : k1 < m
    ·obtain ⟨bb, off, blk, Ai, ni, ci, rfl, hbb, hx, his, g1, g2, g3, g4, c0, c1, c2, c3, c4⟩ := at_Block (HBK.out.belowAll HBW.out) hlt1
     have HDR := hide (drop_at hx)
     obtain ⟨il, tk, ta, t0, t1⟩ := blk
     dsimp only at his g1 g2 g3 g4 c0 c1 c2 c3 c4
     have HIS := hide his
     have hki : (k1 : Int) < m := by omega
     obtain ⟨F, hF⟩ : ∃ F, wq.heap.size = F := ⟨_, rfl⟩
     obtain ⟨W5, hW5⟩ : ∃ W, wq.alloc (.cells #[.slice Ai ni ci, .int .i64 tk, .int .i64 ta, .int .i64 t0, .int .i64 t1] 52) = W := ⟨_, rfl⟩
     have HRO := hide (show W5.heap[F]? = some (.cells #[.slice Ai ni ci, .int .i64 tk, .int .i64 ta, .int .i64 t0, .int .i64 t1] 52 (0, 0)) from by rw [← hW5, ← hF]; exact heap_alloc_new wq _)
     have HB5 := hide (show Below wq.heap.size wq W5 from by rw [← hW5]; exact (Below.refl _ _).alloc (Nat.le_refl _) _)
     have HFQ := hide hF; have HW5 := hide hW5
     have HBV := hide (show blockB ⟨il, ⟨tk, ta, t0, t1⟩⟩ = (!decide (64 < (ni : Int)) && (termB ⟨tk, ta, t0, t1⟩ && ((decide (0 ≤ t0) && decide (t0 < 64)) && (decide (0 ≤ t1) && decide (t1 < 64)))) && il.all insB) from by
      unfold blockB goesB
      simp only
      rw [his.len, show decide (ni ≤ 64) = !decide (64 < (ni : Int)) from by rw [Bool.eq_iff_iff]; simp; try omega])
     have HRV := hide (show R = (blockB ⟨il, ⟨tk, ta, t0, t1⟩⟩ && (bl.drop (k1 + 1)).all blockB) from by rw [HF3.out, HAL.out, HDR.out, List.all_cons])
     have HIS5 := hide (HIS.out.belowAll HB5.out)
     have hni := his.nle
     obtain ⟨tb, htb⟩ : ∃ q, termB ⟨tk, ta, t0, t1⟩ = q := ⟨_, rfl⟩
     have HTM := hide (show Calls Tryz.prog 75 #[.agg #[.int .i64 tk, .int .i64 ta, .int .i64 t0, .int .i64 t1]] W5 (RetX (.bool tb) W5) from htb ▸ isTerm3_any ⟨tk, ta, t0, t1⟩ W5)
     rw [htb] at HBV
     clear hx his hF hW5 htb g1 g2 g3 g4
     go_upto_region 17 with (fail)
     rw [HW5.out]
     try rw [HFQ.out]
     obtain ⟨e0', e1', e2', e3', e4'⟩ := cells5 HRO.out
     have fl5 : F < W5.heap.size := (Array.getElem?_eq_some_iff.1 HRO.out).1
     have HBw5 := hide (show Below w.heap.size w W5 from HWw.out.trans (HB5.out.mono HWw.out.size))
     have HB05 := hide (show Below W0.heap.size W0 W5 from HBW.out.trans (HB5.out.mono HBW.out.size))
     clear c0 c1 c2 c3 c4 b0 b1 HW5
     cases e64 : decide (64 < (ni : Int)) with
     | true =>
      have HE := hide (show R = false from by rw [HRV.out, HBV.out, e64]; rfl)
      go_wp2_with fail
      go_ret
      exact RetX.b HE.out.symm HBw5.out
     | false =>
     cases tb with
     | false =>
      have HE := hide (show R = false from by rw [HRV.out, HBV.out]; simp)
      go_wp2_with (go_at_call 75; (with_reducible refine HTM.out.mono ?_); rintro e _ ⟨rfl, u1, rfl⟩)
      go_ret
      exact RetX.b HE.out.symm (HBw5.out.ext HBw5.out.size u1)
     | true =>
     go_wp2_with (go_at_call 75; (with_reducible refine HTM.out.mono ?_); rintro e _ ⟨rfl, u1, rfl⟩)
     go_loopw [7] (fun i wr => ∃ y : Nat, i = .int .i64 y ∧ y ≤ ni ∧ il.all insB = (il.drop y).all insB ∧ Below W5.heap.size W5 wr) (fun i _ => ni - (intOf i).toNat)
     case atStart => exact ⟨0, rfl, Nat.zero_le _, rfl, Below.of_ext W5 u1 (Nat.le_refl _)⟩
     case round =>
      obtain ⟨y, rfl, hy, hil, hbz⟩ := hrel
      obtain ⟨wi, hwi⟩ : ∃ V, V = wr := ⟨_, rfl⟩
      subst hwi
      have HIL := hide hil; have HBZ := hide hbz
      have HBwi := hide (show Below w.heap.size w wi from HBw5.out.trans (hbz.mono HBw5.out.size))
      have HB0i := hide (show Below W0.heap.size W0 wi from HB05.out.trans (hbz.mono HB05.out.size))
      have f0 : wi.cell? ⟨F, 0, none⟩ = some (.slice Ai ni ci) := (World.cell?_of_block (hbz.block F fl5)).trans e0'
      have f1 : wi.cell? ⟨F, 1, none⟩ = some (.int .i64 tk) := (World.cell?_of_block (hbz.block F fl5)).trans e1'
      have f2 : wi.cell? ⟨F, 2, none⟩ = some (.int .i64 ta) := (World.cell?_of_block (hbz.block F fl5)).trans e2'
      have f3 : wi.cell? ⟨F, 3, none⟩ = some (.int .i64 t0) := (World.cell?_of_block (hbz.block F fl5)).trans e3'
      have f4 : wi.cell? ⟨F, 4, none⟩ = some (.int .i64 t1) := (World.cell?_of_block (hbz.block F fl5)).trans e4'
      have fl6 : F < wi.heap.size := Nat.lt_of_lt_of_le fl5 hbz.size
      clear hil hbz e0' e1' e2' e3' e4' HTM
      by_cases hlt2 : y < ni
      ·obtain ⟨b2, off2, ins, Ag, ng, cg, rfl, hb2, hx, g0, g1, g2, g3, g4, g5, hsa, g7, d0, d1, d2, d3, d4, d5, d6, d7⟩ := at_Ins (HIS5.out.belowAll HBZ.out) hlt2
       have HDI := hide (drop_at hx)
       have hyi : (y : Int) < ni := by omega
       obtain ⟨vi, hvi⟩ : ∃ q, insB ins = q := ⟨_, rfl⟩
       have HIT := hide (show Calls Tryz.prog 76 #[.agg #[.int .i64 ins.op, .int .i64 ins.dst, .int .i64 ins.a, .int .i64 ins.b, .int .i64 ins.imm, .int .i64 ins.callee, .slice Ag ng cg, .int .i64 ins.many]] wi (RetX (.bool vi) wi) from hvi ▸ isIns3_any ins wi S Ag ng cg hsa)
       have HIN := hide (show il.all insB = (vi && (il.drop (y + 1)).all insB) from by rw [HIL.out, HDI.out, List.all_cons, hvi])
       clear hx hsa g0 g1 g2 g3 g4 g5 g7 hvi
       cases vi with
       | false =>
        have HE := hide (show R = false from by rw [HRV.out, HBV.out, HIN.out]; simp)
        go_wp2_with (go_at_call 76; (with_reducible refine HIT.out.mono ?_); rintro e _ ⟨rfl, u2, rfl⟩)
        go_ret
        exact RetX.b HE.out.symm (HBwi.out.ext HBwi.out.size u2)
       | true =>
        have HIM := hide (show il.all insB = (il.drop (y + 1)).all insB from by rw [HIN.out]; rfl)
        go_wp2_with (go_at_call 76; (with_reducible refine HIT.out.mono ?_); rintro e _ ⟨rfl, u2, rfl⟩)
        go_roundw
        case rel => exact ⟨y + 1, by go_num, by omega, HIM.out, HBZ.out.ext HBZ.out.size u2⟩
        case measure => simp [intOf]; omega
      ·have hyi : ¬ (y : Int) < ni := by omega
       have HIE := hide (show il.all insB = true from by rw [HIL.out, drop_end HIS.out.len hlt2]; rfl)
       obtain ⟨gx0, hgx0⟩ : ∃ q, decide (t0 < 0) = q := ⟨_, rfl⟩
       obtain ⟨gx1, hgx1⟩ : ∃ q, decide (64 ≤ t0) = q := ⟨_, rfl⟩
       obtain ⟨gy0, hgy0⟩ : ∃ q, decide (t1 < 0) = q := ⟨_, rfl⟩
       obtain ⟨gy1, hgy1⟩ : ∃ q, decide (64 ≤ t1) = q := ⟨_, rfl⟩
       have HRW := hide (show R = ((!gx0 && !gx1) && (!gy0 && !gy1) && (bl.drop (k1 + 1)).all blockB) from by
        rw [HRV.out, HBV.out, HIE.out, e64, ← hgx0, ← hgx1, ← hgy0, ← hgy1,
         show decide (0 ≤ t0) = !decide (t0 < 0) from by rw [Bool.eq_iff_iff]; simp,
         show decide (t0 < 64) = !decide (64 ≤ t0) from by rw [Bool.eq_iff_iff]; simp,
         show decide (0 ≤ t1) = !decide (t1 < 0) from by rw [Bool.eq_iff_iff]; simp,
         show decide (t1 < 64) = !decide (64 ≤ t1) from by rw [Bool.eq_iff_iff]; simp]
        simp)
       clear HIL HRV HBV HIE
       go_wp2_with fail
       go_loop [8] (fun i => ∃ z : Nat, i = .int .i64 z ∧ z ≤ 2 ∧ (1 ≤ z → gx0 = false ∧ gx1 = false) ∧ (2 ≤ z → gy0 = false ∧ gy1 = false)) (fun i => 2 - (intOf i).toNat)
       case atStart => exact ⟨0, rfl, by omega, fun h => by omega, fun h => by omega⟩
       case round =>
        obtain ⟨z, rfl, hz, hz1, hz2⟩ := hrel
        have HZ1 := hide hz1; have HZ2 := hide hz2
        clear hz1 hz2
        rcases (by omega : z = 0 ∨ z = 1 ∨ z = 2) with rfl | rfl | rfl
        ·cases gx0 with
         | true =>
          have HE := hide (show R = false from by rw [HRW.out]; rfl)
          go_wp2_with fail
          go_ret
          exact RetX.b HE.out.symm HBwi.out
         | false =>
         cases gx1 with
         | true =>
          have HE := hide (show R = false from by rw [HRW.out]; rfl)
          go_wp2_with fail
          go_ret
          exact RetX.b HE.out.symm HBwi.out
         | false =>
          go_wp2_with fail
          go_round
          case rel => exact ⟨1, by go_num, by omega, fun _ => by first | exact ⟨rfl, rfl⟩ | simp, fun h => by omega⟩
          case measure => first | (simp [intOf]; done) | (simp [intOf]; omega)
        ·obtain ⟨rfl, rfl⟩ := HZ1.out (by omega)
         cases gy0 with
         | true =>
          have HE := hide (show R = false from by rw [HRW.out]; rfl)
          go_wp2_with fail
          go_ret
          exact RetX.b HE.out.symm HBwi.out
         | false =>
         cases gy1 with
         | true =>
          have HE := hide (show R = false from by rw [HRW.out]; rfl)
          go_wp2_with fail
          go_ret
          exact RetX.b HE.out.symm HBwi.out
         | false =>
          go_wp2_with fail
          go_round
          case rel => exact ⟨2, by go_num, by omega, fun _ => by first | exact ⟨rfl, rfl⟩ | simp, fun _ => by first | exact ⟨rfl, rfl⟩ | simp⟩
          case measure => first | (simp [intOf]; done) | (simp [intOf]; omega)
        ·obtain ⟨rfl, rfl⟩ := HZ1.out (by omega)
         obtain ⟨rfl, rfl⟩ := HZ2.out (by omega)
         have HAN := hide (show bl.all blockB = (bl.drop (k1 + 1)).all blockB from by rw [← HF3.out, HRW.out]; rfl)
         go_wp2_with fail
         go_roundw
         case rel => exact ⟨k1 + 1, by go_num, by omega, HAN.out, HB0i.out⟩
         case measure => simp [intOf]; omega
    ·have hki : ¬ (k1 : Int) < m := by omega
     have HE := hide (show R = true from by rw [HF3.out, HAL.out, drop_end HLM.out hlt1]; rfl)
     go_wp2_with fail
     go_ret
     exact RetX.b HE.out.symm HWw.out
end Go.Proofs.YtljglhaeonbfoaaGreatDoor
