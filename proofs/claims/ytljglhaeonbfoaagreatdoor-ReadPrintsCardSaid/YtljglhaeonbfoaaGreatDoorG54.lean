/- law04: walks: the document's Print. law04: walks: LentFunc, KeptFunc. law04: walks: ReadPrints. -/
import Derived.Test.YtljglhaeonbfoaaGreatDoorE4f
import Derived.Test.YtljglhaeonbfoaaGreatDoorG21
import Derived.Test.YtljglhaeonbfoaaGreatDoorG37
import Derived.Test.YtljglhaeonbfoaaGreatDoorK4
import Derived.Test.YtljglhaeonbfoaaGreatDoorG55
set_option linter.unusedSimpArgs false
set_option linter.unusedVariables false
namespace Go.Proofs.YtljglhaeonbfoaaGreatDoor
open Go.RowKit
theorem insFold_ge : ∀ (l : List Ins) (out : ByteArray), out.size ≤ (l.foldl (fun o i => o ++ docIns i) out).size
 | [], _ => Nat.le_refl _
 | i :: l, out => by
  rw [List.foldl_cons]
  exact Nat.le_trans (by rw [ByteArray.size_append]; omega) (insFold_ge l (out ++ docIns i))
theorem docBlocks_ge : ∀ (l : List Block) (n : Nat) (out : ByteArray), out.size ≤ (docBlocks out n l).size
 | [], _, _ => Nat.le_refl _
 | b :: l, n, out => by
  refine Nat.le_trans ?_ (docBlocks_ge l (n + 1) _)
  have h := insFold_ge b.ins (((out ++ ⟨#[98, 108, 111, 99, 107, 32]⟩) ++ itoaB n) ++ ⟨#[10]⟩)
  simp only [ByteArray.size_append] at h ⊢
  omega
set_option maxRecDepth 100000 in
set_option maxHeartbeats 32000000 in
theorem dprint04_any (f : Fnc) (w : World) (S : Nat → Prop) (A B : Option Addr) (n k m j : Nat) (hp : Sl w S A n k f.params) (hb : Sl w S B m j f.blocks) (hv : VarsP w) : Calls Tryz.prog 12 #[fnV A n k B m j] w (RetX (.tuple #[.string (print04 f).1, .int .i64 (print04 f).2]) w) := by
 obtain ⟨C, hC⟩ : ∃ C, w.heap.size = C := ⟨_, rfl⟩
 obtain ⟨W0, hW0⟩ : ∃ W, w.alloc (.cells #[.slice A n k, .slice B m j] 25) = W := ⟨_, rfl⟩
 have HR0 := hide (show W0.heap[C]? = some (.cells #[.slice A n k, .slice B m j] 25 (0, 0)) from by rw [← hW0, ← hC]; exact heap_alloc_new w _)
 have a0 : W0.cell? ⟨C, 0, none⟩ = some (.slice A n k) := cell_of_row W0 C _ _ _ (0, 0) HR0.out
 have a1 : W0.cell? ⟨C, 1, none⟩ = some (.slice B m j) := cell_of_row W0 C _ _ _ (0, 0) HR0.out
 have cl : C < W0.heap.size := (Array.getElem?_eq_some_iff.1 HR0.out).1
 have HB0 := hide (show Below w.heap.size w W0 from by rw [← hW0]; exact (Below.refl _ _).alloc (Nat.le_refl _) _)
 have HBL := hide (show w.heap.size ≤ W0.heap.size from HB0.out.size)
 have HV := hide (show VarsP W0 from by rw [← hW0]; exact hv.alloc _)
 have HCN := hide (can4_any f W0 S A B n k m j (by rw [← hW0]; exact hp.alloc _) (by rw [← hW0]; exact hb.alloc _))
 obtain ⟨ps, bl⟩ := f
 simp only at hp hb
 have HP := hide (show Sl W0 S A n k ps from by rw [← hW0]; exact hp.alloc _)
 have HBK := hide (show Sl W0 S B m j bl from by rw [← hW0]; exact hb.alloc _)
 have HLN := hide hp.len; have HLM := hide hb.len
 clear hp hb hv
 obtain ⟨fb, hfb⟩ : ∃ r, fncB ⟨ps, bl⟩ = r := ⟨_, rfl⟩
 rw [hfb] at HCN
 cases fb with
 | false =>
  have HE := hide (show print04 ⟨ps, bl⟩ = (ByteArray.empty, 2) from by unfold print04; rw [hfb]; rfl)
  rw [HE.out]
  clear hfb
  go_enter Tryz.func12, Tryz.ntmps12
  go_wp2_with (go_at_call 31; (with_reducible refine HCN.out.mono ?_); rintro e _ ⟨rfl, u1, rfl⟩)
  go_ret2
  exact ⟨rfl, (HB0.out.ext HBL.out u1).to_ext⟩
 | true =>
 have HFR := hide ((fncB_iff _).1 hfb)
 obtain ⟨TX, hTX⟩ : ∃ t, docPrint ⟨ps, bl⟩ = t := ⟨_, rfl⟩
 have HE := hide (show print04 ⟨ps, bl⟩ = (TX, 0) from by unfold print04; rw [hfb, ← hTX, docPrint_show HFR.out]; rfl)
 have HTZ := hide (show TX.size ≤ 2000000 from by rw [← hTX, docPrint_show HFR.out]; exact show_le HFR.out)
 obtain ⟨L0, hL0⟩ : ∃ t, docAll tFun ps = t := ⟨_, rfl⟩
 have HTX := hide (show docBlocks L0 0 bl = TX from by rw [← hTX, ← hL0]; rfl)
 have hn8 : n ≤ 8 := by rw [← HLN.out]; exact HFR.out.pn
 have hm64 : m ≤ 64 := by rw [← HLM.out]; exact HFR.out.b64
 have HAL := hide (fun (u : Ext) => show Calls Tryz.prog 32 #[.string ⟨#[102, 117, 110]⟩, .slice A n k] (W0.ext u) (RetX (.string L0) (W0.ext u)) from hL0 ▸ docAll_any tFun (W0.ext u) S A n k ps (HP.out.ext u) (HV.out.ext u) (by decide) (by omega))
 rw [HE.out]
 clear hfb hTX hL0 HE
 go_enter Tryz.func12, Tryz.ntmps12
 go_wp2_with (first | (go_at_call 31; (with_reducible refine HCN.out.mono ?_); rintro e _ ⟨rfl, u1, rfl⟩) | (go_at_call 32; (with_reducible refine (HAL.out _).mono ?_); rintro e _ ⟨rfl, u2, rfl⟩))
 have A0 := hide a0; have A1 := hide a1; have CL := hide cl
 go_loopw [4, 5, 6] (fun o i _ wr => ∃ (x : Nat) (acc : ByteArray), o = .string acc ∧ i = .int .i64 x ∧ x ≤ m ∧ docBlocks acc x (bl.drop x) = TX ∧ Below W0.heap.size W0 wr) (fun _ i _ _ => m - (intOf i).toNat)
 case atStart => exact ⟨0, L0, rfl, rfl, Nat.zero_le _, HTX.out, ((Below.refl _ W0).ext (Nat.le_refl _) u1).ext (by rw [size_ext]; omega) u2⟩
 case round =>
  clear a0 a1 cl hC hW0
  obtain ⟨x, acc, rfl, rfl, hx, hli, hbw⟩ := hrel
  obtain ⟨wq, hwq⟩ : ∃ V, V = wr := ⟨_, rfl⟩
  subst hwq
  have HLI := hide hli; have HBW := hide hbw
  have HWw := hide (show Below w.heap.size w wq from HB0.out.trans (hbw.mono HBL.out))
  have a1 : wq.cell? ⟨C, 1, none⟩ = some (.slice B m j) := (World.cell?_of_block (hbw.block C CL.out)).trans A1.out
  have cl : C < wq.heap.size := Nat.lt_of_lt_of_le CL.out hbw.size
  have HVq := hide (show VarsP wq from HV.out.below hbw HV.out.v.sz)
  clear hli hbw
  by_cases hlt : x < m
  ·obtain ⟨bb, off, blk, Ai, ni, ci, rfl, hbb, hxb, his, g1, g2, g3, g4, d0, d1, d2, d3, d4⟩ := at_Block HBK.out hlt
   have HDR := hide (drop_at hxb)
   have HBR := hide (HFR.out.b blk (mem_at hxb))
   obtain ⟨il, tk, ta, t0, t1⟩ := blk
   dsimp only at his g1 g2 g3 g4 d0 d1 d2 d3 d4
   have HIS := hide his
   have D0 := hide d0; have D1 := hide d1; have D2 := hide d2; have D3 := hide d3; have D4 := hide d4
   have hni : ni ≤ 64 := by rw [← his.len]; exact HBR.out.n
   have hxi : (x : Int) < m := by omega
   have HIT := hide (itoaP_any x (by unfold InI; omega) wq HVq.out)
   have hzt := itoa4_sz x (by unfold InI; omega)
   obtain ⟨tx, htx⟩ : ∃ t, itoaB x = t := ⟨_, rfl⟩
   rw [htx] at HIT hzt
   obtain ⟨TT, hTT⟩ : ∃ t, docTerm ⟨tk, ta, t0, t1⟩ = t := ⟨_, rfl⟩
   have HTT := hide hTT
   have HNX := hide (show docBlocks (il.foldl (fun o i => o ++ docIns i) (((acc ++ ⟨#[98, 108, 111, 99, 107, 32]⟩) ++ tx) ++ ⟨#[10]⟩) ++ TT) (x + 1) (bl.drop (x + 1)) = TX from by
    have h := HLI.out
    rw [HDR.out] at h
    rw [← h, ← htx, ← hTT]
    rfl)
   have hge : (((acc ++ ⟨#[98, 108, 111, 99, 107, 32]⟩) ++ tx) ++ ⟨#[10]⟩).size ≤ 2000000 := by
    have h1 := docBlocks_ge (bl.drop (x + 1)) (x + 1) (il.foldl (fun o i => o ++ docIns i) (((acc ++ ⟨#[98, 108, 111, 99, 107, 32]⟩) ++ tx) ++ ⟨#[10]⟩) ++ TT)
    have h2 := insFold_ge il (((acc ++ ⟨#[98, 108, 111, 99, 107, 32]⟩) ++ tx) ++ ⟨#[10]⟩)
    rw [HNX.out, ByteArray.size_append] at h1
    have := HTZ.out
    omega
   have z6 : (⟨#[98, 108, 111, 99, 107, 32]⟩ : ByteArray).size = 6 := rfl
   have z1 : (⟨#[10]⟩ : ByteArray).size = 1 := rfl
   simp only [ByteArray.size_append, z6, z1] at hge
   have q1 : acc.size + (⟨#[98, 108, 111, 99, 107, 32]⟩ : ByteArray).size ≤ 9223372036854775807 := by rw [z6]; omega
   have q2 : (acc ++ ⟨#[98, 108, 111, 99, 107, 32]⟩).size + tx.size ≤ 9223372036854775807 := by rw [ByteArray.size_append, z6]; omega
   have q3 : ((acc ++ ⟨#[98, 108, 111, 99, 107, 32]⟩) ++ tx).size + (⟨#[10]⟩ : ByteArray).size ≤ 9223372036854775807 := by simp only [ByteArray.size_append, z6, z1]; omega
   obtain ⟨FO, hFO⟩ : ∃ t, il.foldl (fun o i => o ++ docIns i) (((acc ++ ⟨#[98, 108, 111, 99, 107, 32]⟩) ++ tx) ++ ⟨#[10]⟩) = t := ⟨_, rfl⟩
   rw [hFO] at HNX
   have HFO := hide hFO
   have HFZ := hide (show FO.size + TT.size ≤ 2000000 from by
    have h1 := docBlocks_ge (bl.drop (x + 1)) (x + 1) (FO ++ TT)
    rw [HNX.out, ByteArray.size_append] at h1
    have := HTZ.out
    omega)
   have c0 : wq.cell? ⟨bb, off + x * 5, none⟩ = some (.slice Ai ni ci) := (World.cell?_of_block (HBW.out.block bb hbb)).trans d0
   have bbl : bb < wq.heap.size := Nat.lt_of_lt_of_le hbb HBW.out.size
   clear hxb his g1 g2 g3 g4 d0 d1 d2 d3 d4 htx hTT hge z6 z1 hFO
   go_wp2_with (first | (go_at_call 33; (with_reducible refine HIT.out.mono ?_); rintro e _ ⟨rfl, u3, rfl⟩) | (simp only [run_string_add_sum _ _ _ q1, run_string_add_sum _ _ _ q2, run_string_add_sum _ _ _ q3]))
   clear q1 q2 q3
   go_loopw [4, 6] (fun o i wr => ∃ (y : Nat) (acc2 : ByteArray), o = .string acc2 ∧ i = .int .i64 y ∧ y ≤ ni ∧ (il.drop y).foldl (fun o i => o ++ docIns i) acc2 = FO ∧ Below W0.heap.size W0 wr) (fun _ i _ => ni - (intOf i).toNat)
   case atStart => exact ⟨0, _, rfl, rfl, Nat.zero_le _, HFO.out, HBW.out.ext HBW.out.size u3⟩
   case round =>
    clear a1 cl c0 bbl
    obtain ⟨y, acc2, rfl, rfl, hy, hfo, hbz⟩ := hrel
    obtain ⟨wi, hwi⟩ : ∃ V, V = wr := ⟨_, rfl⟩
    subst hwi
    have HF2 := hide hfo; have HBZ := hide hbz
    have a1 : wi.cell? ⟨C, 1, none⟩ = some (.slice (some ⟨bb, off, none⟩) m j) := (World.cell?_of_block (hbz.block C CL.out)).trans A1.out
    have cl : C < wi.heap.size := Nat.lt_of_lt_of_le CL.out hbz.size
    have c0 : wi.cell? ⟨bb, off + x * 5, none⟩ = some (.slice Ai ni ci) := (World.cell?_of_block (hbz.block bb hbb)).trans D0.out
    have c1 : wi.cell? ⟨bb, off + x * 5 + 1, none⟩ = some (.int .i64 tk) := (World.cell?_of_block (hbz.block bb hbb)).trans D1.out
    have c2 : wi.cell? ⟨bb, off + x * 5 + 2, none⟩ = some (.int .i64 ta) := (World.cell?_of_block (hbz.block bb hbb)).trans D2.out
    have c3 : wi.cell? ⟨bb, off + x * 5 + 3, none⟩ = some (.int .i64 t0) := (World.cell?_of_block (hbz.block bb hbb)).trans D3.out
    have c4 : wi.cell? ⟨bb, off + x * 5 + 4, none⟩ = some (.int .i64 t1) := (World.cell?_of_block (hbz.block bb hbb)).trans D4.out
    have bbl : bb < wi.heap.size := Nat.lt_of_lt_of_le hbb hbz.size
    have HVi := hide (show VarsP wi from HV.out.below hbz HV.out.v.sz)
    clear hfo hbz
    by_cases hly : y < ni
    ·obtain ⟨b2, off2, ins, Ag, ng, cg, rfl, hb2, hxi2, g0, g1, g2, g3, g4, g5, hsa, g7, e0, e1, e2, e3, e4, e5, e6, e7⟩ := at_Ins HIS.out hly
     have HDI := hide (drop_at hxi2)
     have HIR := hide (HBR.out.i ins (mem_at hxi2))
     have hcp : ∀ o, wi.cell? ⟨b2, o, none⟩ = W0.cell? ⟨b2, o, none⟩ := fun o => World.cell?_of_block (HBZ.out.block b2 hb2)
     rw [← hcp] at e0 e1 e2 e3 e4 e5 e6 e7
     have b2l : b2 < wi.heap.size := Nat.lt_of_lt_of_le hb2 HBZ.out.size
     have hyi : (y : Int) < ni := by omega
     obtain ⟨LI, hLI⟩ : ∃ t, docIns ins = t := ⟨_, rfl⟩
     have HIL := hide (show Calls Tryz.prog 34 #[.agg #[.int .i64 ins.op, .int .i64 ins.dst, .int .i64 ins.a, .int .i64 ins.b, .int .i64 ins.imm, .int .i64 ins.callee, .slice Ag ng cg, .int .i64 ins.many]] wi (RetX (.string LI) wi) from hLI ▸ insLine_any ins HIR.out wi S Ag ng cg (hsa.belowAll HBZ.out) HVi.out)
     have HFN := hide (show (il.drop (y + 1)).foldl (fun o i => o ++ docIns i) (acc2 ++ LI) = FO from by
      have h := HF2.out
      rw [HDI.out, List.foldl_cons, hLI] at h
      exact h)
     have q1 : acc2.size + LI.size ≤ 9223372036854775807 := by
      have h := insFold_ge (il.drop (y + 1)) (acc2 ++ LI)
      rw [HFN.out, ByteArray.size_append] at h
      have := HFZ.out
      omega
     clear hxi2 hsa g0 g1 g2 g3 g4 g5 g7 hcp hLI c1 c2 c3 c4
     go_wp2_with (first | (go_at_call 34; (with_reducible refine HIL.out.mono ?_); rintro e _ ⟨rfl, u4, rfl⟩) | (simp only [run_string_add_sum _ _ _ q1]))
     go_roundw
     case rel => exact ⟨y + 1, acc2 ++ LI, rfl, by go_num, by omega, HFN.out, HBZ.out.ext HBZ.out.size u4⟩
     case measure => simp [intOf]; omega
    ·have hyi : ¬ (y : Int) < ni := by omega
     have HAE := hide (show acc2 = FO from by have h := HF2.out; rw [drop_end HIS.out.len hly] at h; exact h)
     have HTL := hide (show Calls Tryz.prog 35 #[.agg #[.int .i64 tk, .int .i64 ta, .int .i64 t0, .int .i64 t1]] wi (RetX (.string TT) wi) from HTT.out ▸ termLine_any ⟨tk, ta, t0, t1⟩ HBR.out.t wi HVi.out)
     have q1 : acc2.size + TT.size ≤ 9223372036854775807 := by rw [HAE.out]; have := HFZ.out; omega
     have HNY := hide (show docBlocks (acc2 ++ TT) (x + 1) (bl.drop (x + 1)) = TX from by rw [HAE.out]; exact HNX.out)
     go_wp2_with (first | (go_at_call 35; (with_reducible refine HTL.out.mono ?_); rintro e _ ⟨rfl, u4, rfl⟩) | (simp only [run_string_add_sum _ _ _ q1]))
     go_roundw
     case rel => exact ⟨x + 1, acc2 ++ TT, rfl, by go_num, by omega, HNY.out, HBZ.out.ext HBZ.out.size u4⟩
     case measure => simp [intOf]; omega
  ·have HACC := hide (show acc = TX from by have h := HLI.out; rw [drop_end HLM.out hlt] at h; exact h)
   have hxi : ¬ (x : Int) < m := by omega
   go_wp2_with fail
   go_ret2
   exact ⟨by rw [HACC.out]; rfl, HWw.out.to_ext⟩
end Go.Proofs.YtljglhaeonbfoaaGreatDoor
namespace Go.Proofs.YtljglhaeonbfoaaGreatDoor
open Go.RowKit
def SmallF (f : Fnc) : Prop := f.params.length ≤ 1048576 ∧ (f.blocks.length ≤ 1048576 ∧ ∀ y ∈ f.blocks, SmallB 1048576 y)
set_option maxRecDepth 100000 in
set_option maxHeartbeats 8000000 in
theorem lentFunc_any (f : Fnc) (w : World) (S : Nat → Prop) (A B : Option Addr) (n k m j : Nat) (hp : Sl w S A n k f.params) (hb : Sl w S B m j f.blocks) (hm : SmallF f) :
  Calls Tryz.prog 10 #[fnV A n k B m j] w (fun e w' => ∃ A' k' B' j', e = .returned (fnV A' n k' B' m j') ∧ Sl w' (fun b => w.heap.size ≤ b) A' (n + 12) k' (row f.params) ∧ Sl w' (fun b => w.heap.size ≤ b) B' (m + 12) j' (row f.blocks) ∧ ∃ u, w' = w.ext u) := by
 have HLN := hide hp.len; have HLM := hide hb.len
 have H1 := hide hp; have H2 := hide hb
 have HM1 := hide hm.1; have HM2 := hide hm.2
 clear hp hb hm
 go_enter Tryz.func10, Tryz.ntmps10
 go_wp2_with (first | (go_at_call 21; (with_reducible refine (lentInts_any _ S A n k f.params (by repeat (first | assumption | exact Hd.out (by assumption) | apply Sl.alloc | apply Sl.ext | apply Sl.drew | apply Sl.drewN)) HM1.out).mono ?_); rintro e _ ⟨B0, m0, e0, rfl, hl0, hs0, ux, rfl⟩; have HS0 := hide hs0; have HL0 := hide hl0; clear hs0 hl0) | (go_at_call 22; (with_reducible refine (lentBlocks_any _ S B m j f.blocks (by repeat (first | assumption | exact Hd.out (by assumption) | apply Sl.alloc | apply Sl.ext | apply Sl.drew | apply Sl.drewN)) HM2.out).mono ?_); rintro e _ ⟨B1, m1, e1, rfl, hl1, hs1, uy, rfl⟩; have HS1 := hide hs1; have HL1 := hide hl1; clear hs1 hl1))
 obtain rfl : n = m0 := HLN.out.symm.trans HL0.out
 obtain rfl : m = m1 := HLM.out.symm.trans HL1.out
 refine bodyPost_ret (v := fnV B0 n e0 B1 m e1) (by simp [results, Tryz.results10, go_sem]) rfl ⟨_, _, _, _, rfl, ?_, ?_, Below.to_ext (by repeat (first | exact Below.refl _ _ | assumption | refine Below.alloc ?_ (by simp [size_ext]; try omega) _ | refine Below.ext ?_ (by simp [size_ext]; try omega) _ | refine Below.drew ?_ | refine Below.setCell ?_ (by simp [size_ext]; try omega) _))⟩
 ·exact ((HS0.out.ext_swap (by simp) (fun b hb => hb)).ext uy).more (fun b _ hb => by simp at hb ⊢; omega)
 ·exact (HS1.out.ext_swap (by simp [size_ext]) (fun b hb => hb)).more (fun b _ hb => by simp [size_ext] at hb ⊢; omega)
set_option maxRecDepth 100000 in
set_option maxHeartbeats 8000000 in
theorem keptFunc_any (f : Fnc) (w : World) (S S' : Nat → Prop) (A A' B B' : Option Addr) (n k k' m j j' : Nat) (hp : Sl w S A (n + 12) k (row f.params)) (hp' : Sl w S' A' n k' f.params) (hb : Sl w S B (m + 12) j (row f.blocks)) (hb' : Sl w S' B' m j' f.blocks) (hm : SmallF f) :
  Calls Tryz.prog 13 #[fnV A n k B m j, fnV A' n k' B' m j'] w (RetX (.bool true) w) := by
 have HSF := hide (fun W (hW : Below w.heap.size w W) => sameFunc_any f W S S' S S' A A' B B' n k k' m j j' ((hp.forget hp'.len).belowAll hW) (hp'.belowAll hW) ((hb.forget hb'.len).belowAll hW) (hb'.belowAll hW))
 have HK1 := hide (fun W (hW : Below w.heap.size w W) => keptInts_any W S S' A A' n k k' f.params (hp.belowAll hW) (hp'.belowAll hW) hm.1)
 have HK2 := hide (fun W (hW : Below w.heap.size w W) => keptBlocks_any W S S' B B' m j j' f.blocks (hb.belowAll hW) (hb'.belowAll hW) hm.2)
 clear hp hp' hb hb' hm
 go_enter Tryz.func13, Tryz.ntmps13
 go_wp2_with (first | (go_at_call 16; refine (HSF.out _ (by repeat (first | exact Below.refl _ _ | assumption | refine Below.alloc ?_ (by simp [size_ext]; try omega) _ | refine Below.ext ?_ (by simp [size_ext]; try omega) _ | refine Below.drew ?_ | refine Below.setCell ?_ (by simp [size_ext]; try omega) _))).mono ?_; rintro e _ ⟨rfl, ux, rfl⟩) | (go_at_call 36; refine (HK1.out _ (by repeat (first | exact Below.refl _ _ | assumption | refine Below.alloc ?_ (by simp [size_ext]; try omega) _ | refine Below.ext ?_ (by simp [size_ext]; try omega) _ | refine Below.drew ?_ | refine Below.setCell ?_ (by simp [size_ext]; try omega) _))).mono ?_; rintro e _ ⟨rfl, ux, rfl⟩) | (go_at_call 37; refine (HK2.out _ (by repeat (first | exact Below.refl _ _ | assumption | refine Below.alloc ?_ (by simp [size_ext]; try omega) _ | refine Below.ext ?_ (by simp [size_ext]; try omega) _ | refine Below.drew ?_ | refine Below.setCell ?_ (by simp [size_ext]; try omega) _))).mono ?_; rintro e _ ⟨rfl, ux, rfl⟩))
 go_ret
 exact RetX.b rfl (by repeat (first | exact Below.refl _ _ | assumption | refine Below.alloc ?_ (by simp [size_ext]; try omega) _ | refine Below.ext ?_ (by simp [size_ext]; try omega) _ | refine Below.drew ?_ | refine Below.setCell ?_ (by simp [size_ext]; try omega) _))
end Go.Proofs.YtljglhaeonbfoaaGreatDoor
namespace Go.Proofs.YtljglhaeonbfoaaGreatDoor
open Go.RowKit
theorem argsS_mem : ∀ (l : List Ins) (i : Ins), i ∈ l → i.args.length ≤ argsS l
 | x :: l, i, h => by
  rcases List.mem_cons.1 h with rfl | h
  ·unfold argsS; omega
  ·have := argsS_mem l i h; unfold argsS; omega
theorem blksS_small : ∀ (l : List Block) (M : Nat), blksS l ≤ M → SmallT M l
 | [], M, _ => ⟨Nat.zero_le _, fun _ h => absurd h (by simp)⟩
 | b :: l, M, h => by
  unfold blksS at h
  have h1 := blksS_small l (M - 1) (by omega)
  refine ⟨by have := h1.1; simp only [List.length_cons]; omega, fun y hy => ?_⟩
  rcases List.mem_cons.1 hy with rfl | hy
  ·exact ⟨by omega, fun i hi => by have := argsS_mem _ i hi; unfold SmallI; omega⟩
  ·obtain ⟨h2, h3⟩ := (blksS_small l M (by omega)).2 y hy
   exact ⟨h2, h3⟩
theorem fnS_small {f : Fnc} (h : fnS f ≤ 700) : SmallF f := by
 unfold fnS at h
 have := blksS_small f.blocks 1048576 (by omega)
 exact ⟨by omega, this.1, this.2⟩
set_option maxRecDepth 100000 in
set_option maxHeartbeats 32000000 in
theorem readPrints_any (f : Fnc) (w : World) (S : Nat → Prop) (A B : Option Addr) (n k m j : Nat) (hp : Sl w S A n k f.params) (hb : Sl w S B m j f.blocks) (hm : SmallT 140737488355328 f.blocks) (hn : n ≤ 140737488355328) (hv : VarsP w) :
  Calls Tryz.prog 3 #[fnV A n k B m j] w (RetX (.bool true) w) := by
 obtain ⟨C, hC⟩ : ∃ C, w.heap.size = C := ⟨_, rfl⟩
 obtain ⟨W0, hW0⟩ : ∃ W, w.alloc (.cells #[.slice A n k, .slice B m j] 25) = W := ⟨_, rfl⟩
 have HR0 := hide (show W0.heap[C]? = some (.cells #[.slice A n k, .slice B m j] 25 (0, 0)) from by rw [← hW0, ← hC]; exact heap_alloc_new w _)
 have a0 : W0.cell? ⟨C, 0, none⟩ = some (.slice A n k) := cell_of_row W0 C _ _ _ (0, 0) HR0.out
 have a1 : W0.cell? ⟨C, 1, none⟩ = some (.slice B m j) := cell_of_row W0 C _ _ _ (0, 0) HR0.out
 have cl : C < W0.heap.size := (Array.getElem?_eq_some_iff.1 HR0.out).1
 have HB0 := hide (show Below w.heap.size w W0 from by rw [← hW0]; exact (Below.refl _ _).alloc (Nat.le_refl _) _)
 have HBL := hide (show w.heap.size ≤ W0.heap.size from HB0.out.size)
 have HV := hide (show VarsP W0 from by rw [← hW0]; exact hv.alloc _)
 have HP := hide (show Sl W0 S A n k f.params from by rw [← hW0]; exact hp.alloc _)
 have HBK := hide (show Sl W0 S B m j f.blocks from by rw [← hW0]; exact hb.alloc _)
 obtain ⟨T, hT⟩ : ∃ T, (n : Int) + blocksOf 700 0 f.blocks = T := ⟨_, rfl⟩
 have HFO := hide (show Calls Tryz.prog 8 #[fnV A n k B m j, .int .i64 700] W0 (RetX (.int .i64 T) W0) from hT ▸ funcOf_any f W0 S S A B n k m j HP.out HBK.out hm hn)
 have HFS := hide (show T ≤ 700 → fnS f ≤ 700 from fun h => by
  have h1 := blocksOf_sum 700 f.blocks 0 (by omega)
  unfold fnS
  have := hp.len
  omega)
 have HAW := hide (fun (W : World) (hW : VarsP W) => awake04_any W hW)
 clear hp hb hm hv hT
 by_cases hbig : 700 < T
 ·have hb1 : decide ((700 : Int) < T) = true := by simpa using hbig
  have HVu := hide (fun u : Ext => HAW.out _ (HV.out.ext u))
  go_enter Tryz.func3, Tryz.ntmps3
  go_wp2_with (first | (go_at_call 9; (with_reducible refine (HVu.out _).mono ?_); rintro e _ ⟨rfl, u1, rfl⟩) | (go_at_call 8; (with_reducible refine HFO.out.mono ?_); rintro e _ ⟨rfl, u2, rfl⟩))
  go_ret
  exact RetX.b rfl ((HB0.out.ext HBL.out _).ext (by rw [size_ext]; have := HBL.out; omega) _)
 have hb1 : decide ((700 : Int) < T) = false := by simp; omega
 have HSM := hide (fnS_small (HFS.out (by omega)))
 have HLF := hide (fun u : Ext => lentFunc_any f (W0.ext u) S A B n k m j (HP.out.ext u) (HBK.out.ext u) HSM.out)
 clear hbig HFS
 obtain ⟨⟨TX, tE⟩, hTX⟩ : ∃ t, print04 f = t := ⟨_, rfl⟩
 have HPR := hide (fun (W : World) (S : Nat → Prop) (A B : Option Addr) (n k m j : Nat) (hp : Sl W S A n k f.params) (hb : Sl W S B m j f.blocks) (hv : VarsP W) => show Calls Tryz.prog 11 #[fnV A n k B m j] W (RetX (.tuple #[.string TX, .int .i64 tE]) W) from by
  have h := print04_any f W S A B n k m j hp hb hv
  rw [hTX] at h
  exact h)
 have HDP := hide (fun (W : World) (S : Nat → Prop) (A B : Option Addr) (n k m j : Nat) (hp : Sl W S A n k f.params) (hb : Sl W S B m j f.blocks) (hv : VarsP W) => show Calls Tryz.prog 12 #[fnV A n k B m j] W (RetX (.tuple #[.string TX, .int .i64 tE]) W) from by
  have h := dprint04_any f W S A B n k m j hp hb hv
  rw [hTX] at h
  exact h)
 clear hTX
 go_enter Tryz.func3, Tryz.ntmps3
 go_upto_region 4 with (first | (go_at_call 8; (with_reducible refine HFO.out.mono ?_); rintro e _ ⟨rfl, u2, rfl⟩) | (go_at_call 10; (with_reducible refine (HLF.out _).mono ?_); rintro e W2 ⟨A2, k2, B2, j2, rfl, hs1, hs2, u3, hw2⟩; have HS1 := hide hs1; have HS2 := hide hs2; have HB2 := hide (show Below W0.heap.size W0 W2 from by rw [hw2]; exact ((Below.refl _ W0).ext (Nat.le_refl _) u2).ext (by rw [size_ext]; omega) u3); clear hs1 hs2 hw2))
 obtain ⟨D, hD⟩ : ∃ D, W2.heap.size = D := ⟨_, rfl⟩
 obtain ⟨W3, hW3⟩ : ∃ W, W2.alloc (.cells #[.slice A2 n k2, .slice B2 m j2] 25) = W := ⟨_, rfl⟩
 rw [hW3]
 try rw [hD]
 have HB3 := hide (show Below W0.heap.size W0 W3 from by rw [← hW3]; exact HB2.out.alloc HB2.out.size _)
 have HRD := hide (show W3.heap[D]? = some (.cells #[.slice A2 n k2, .slice B2 m j2] 25 (0, 0)) from by rw [← hW3, ← hD]; exact heap_alloc_new W2 _)
 have HT1 := hide (HS1.out.alloc (.cells #[.slice A2 n k2, .slice B2 m j2] 25))
 have HT2 := hide (HS2.out.alloc (.cells #[.slice A2 n k2, .slice B2 m j2] 25))
 rw [hW3] at HT1 HT2
 have HR3 := hide ((HB3.out.block C cl).trans HR0.out)
 have HP3 := hide (HP.out.belowAll HB3.out)
 have HK3 := hide (HBK.out.belowAll HB3.out)
 have HV3 := hide (show VarsP W3 from HV.out.below HB3.out HV.out.v.sz)
 have HB03 := hide (HB0.out.trans (HB3.out.mono HBL.out))
 clear a0 a1 cl HB2 HS1 HS2 hW3 hD hW0 hC HFO HLF
 have a0 : W3.cell? ⟨C, 0, none⟩ = some (.slice A n k) := cell_of_row W3 C _ _ _ (0, 0) HR3.out
 have a1 : W3.cell? ⟨C, 1, none⟩ = some (.slice B m j) := cell_of_row W3 C _ _ _ (0, 0) HR3.out
 have d0 : W3.cell? ⟨D, 0, none⟩ = some (.slice A2 n k2) := cell_of_row W3 D _ _ _ (0, 0) HRD.out
 have d1 : W3.cell? ⟨D, 1, none⟩ = some (.slice B2 m j2) := cell_of_row W3 D _ _ _ (0, 0) HRD.out
 have cl3 : C < W3.heap.size := (Array.getElem?_eq_some_iff.1 HR3.out).1
 have dl3 : D < W3.heap.size := (Array.getElem?_eq_some_iff.1 HRD.out).1
 have HX1 := hide (HPR.out W3 _ A2 B2 n k2 m j2 (HT1.out.forget HP3.out.len) (HT2.out.forget HK3.out.len) HV3.out)
 have HX2 := hide (fun u : Ext => HDP.out (W3.ext u) S A B n k m j (HP3.out.ext u) (HK3.out.ext u) (HV3.out.ext u))
 have HX3 := hide (fun (W : World) (hW : Below W3.heap.size W3 W) => keptFunc_any f W _ S A2 A B2 B n k2 k m j2 j (HT1.out.belowAll hW) (HP3.out.belowAll hW) (HT2.out.belowAll hW) (HK3.out.belowAll hW) HSM.out)
 have HX4 := hide (fun (W : World) (hW : Below W3.heap.size W3 W) => HAW.out W (HV3.out.below hW HV3.out.v.sz))
 clear HPR HDP HAW
 go_wp2_with (first | (go_at_call 11; (with_reducible refine HX1.out.mono ?_); rintro e _ ⟨rfl, u1, rfl⟩) | (go_at_call 12; (with_reducible refine (HX2.out _).mono ?_); rintro e _ ⟨rfl, u4, rfl⟩) | (go_at_call 13; refine (HX3.out _ (by repeat (first | exact Below.refl _ _ | assumption | refine Below.alloc ?_ (by simp [size_ext]; try omega) _ | refine Below.ext ?_ (by simp [size_ext]; try omega) _ | refine Below.drew ?_ | refine Below.setCell ?_ (by simp [size_ext]; try omega) _))).mono ?_; rintro e _ ⟨rfl, ux, rfl⟩) | (go_at_call 9; refine (HX4.out _ (by repeat (first | exact Below.refl _ _ | assumption | refine Below.alloc ?_ (by simp [size_ext]; try omega) _ | refine Below.ext ?_ (by simp [size_ext]; try omega) _ | refine Below.drew ?_ | refine Below.setCell ?_ (by simp [size_ext]; try omega) _))).mono ?_; rintro e _ ⟨rfl, ux, rfl⟩))
 go_ret
 exact RetX.b rfl (HB03.out.trans ((show Below W3.heap.size W3 _ from (by repeat (first | exact Below.refl _ _ | assumption | refine Below.alloc ?_ (by simp [size_ext]; try omega) _ | refine Below.ext ?_ (by simp [size_ext]; try omega) _ | refine Below.drew ?_ | refine Below.setCell ?_ (by simp [size_ext]; try omega) _))).mono HB03.out.size))
end Go.Proofs.YtljglhaeonbfoaaGreatDoor
