/- law04: walks: ReadBack. Printed by gen_w5b.py. -/
import Derived.Test.YtljglhaeonbfoaaGreatDoorG38
import Derived.Test.YtljglhaeonbfoaaGreatDoorG37
set_option linter.unusedSimpArgs false
set_option linter.unusedVariables false
namespace Go.Proofs.YtljglhaeonbfoaaGreatDoor
open Go.RowKit
set_option maxRecDepth 100000 in
set_option maxHeartbeats 32000000 in
theorem readBack_any (f : Fnc) (s : ByteArray) (w : World) (S : Nat → Prop) (A B : Option Addr) (n k m j : Nat) (hp : Sl w S A n k f.params) (hb : Sl w S B m j f.blocks) (hm : SmallT 140737488355328 f.blocks) (hn : n ≤ 140737488355328) (hs : s.size ≤ 140737488355328) (hv : VarsP w) :
  Calls Tryz.prog 7 #[fnV A n k B m j, .string s] w (RetX (.bool true) w) := by
 obtain ⟨C, hC⟩ : ∃ C, w.heap.size = C := ⟨_, rfl⟩
 obtain ⟨W0, hW0⟩ : ∃ W, w.alloc (.cells #[.slice A n k, .slice B m j] 25) = W := ⟨_, rfl⟩
 have HR0 := hide (show W0.heap[C]? = some (.cells #[.slice A n k, .slice B m j] 25 (0, 0)) from by rw [← hW0, ← hC]; exact heap_alloc_new w _)
 have a0 : W0.cell? ⟨C, 0, none⟩ = some (.slice A n k) := cell_of_row W0 C _ _ _ (0, 0) HR0.out
 have a1 : W0.cell? ⟨C, 1, none⟩ = some (.slice B m j) := cell_of_row W0 C _ _ _ (0, 0) HR0.out
 have cl : C < W0.heap.size := (Array.getElem?_eq_some_iff.1 HR0.out).1
 have HB0 := hide (show Below w.heap.size w W0 from by rw [← hW0]; exact (Below.refl _ _).alloc (Nat.le_refl _) _)
 have HBL := hide (show w.heap.size ≤ W0.heap.size from HB0.out.size)
 have HV := hide (show VarsP W0 from by rw [← hW0]; exact hv.alloc _)
 have HP := hide (show Sl W0 S A n k f.params from by rw [← hW0]; exact hp.alloc _)
 have HBK := hide (show Sl W0 S B m j f.blocks from by rw [← hW0]; exact hb.alloc _)
 have hbd := blocksOf_le4 700 (by decide) f.blocks 0 hm.2 (by decide) (by decide)
 have HAW := hide (awake04_any W0 HV.out)
 obtain ⟨T, hT⟩ : ∃ T, (n : Int) + blocksOf 700 0 f.blocks = T := ⟨_, rfl⟩
 have HFO := hide (fun u : Ext => show Calls Tryz.prog 8 #[fnV A n k B m j, .int .i64 700] (W0.ext u) (RetX (.int .i64 T) (W0.ext u)) from hT ▸ funcOf_any f (W0.ext u) S S A B n k m j (HP.out.ext u) (HBK.out.ext u) hm hn)
 have HFS := hide (show T ≤ 700 → fnS f ≤ 700 from fun h => by
  have h1 := blocksOf_sum 700 f.blocks 0 (by omega)
  unfold fnS
  have := hp.len
  omega)
 have HCQ := hide hC
 have hmj := hb.nle
 clear hp hb hm hv hT hbd
 by_cases hbig : 700 < T
 ·have hb1 : decide ((700 : Int) < T) = true := by simpa using hbig
  go_enter Tryz.func7, Tryz.ntmps7
  go_wp2_with (first | (go_at_call 9; (with_reducible refine HAW.out.mono ?_); rintro e _ ⟨rfl, u1, rfl⟩) | (go_at_call 8; (with_reducible refine (HFO.out _).mono ?_); rintro e _ ⟨rfl, u2, rfl⟩))
  go_ret
  exact RetX.b rfl ((HB0.out.ext HBL.out _).ext (by rw [size_ext]; have := HBL.out; omega) _)
 have hb1 : decide ((700 : Int) < T) = false := by simp; omega
 by_cases hlong : 3000 < s.size
 ·have hb2 : decide ((3000 : Int) < (s.size : Int)) = true := by simp; omega
  go_enter Tryz.func7, Tryz.ntmps7
  go_wp2_with (first | (go_at_call 9; (with_reducible refine HAW.out.mono ?_); rintro e _ ⟨rfl, u1, rfl⟩) | (go_at_call 8; (with_reducible refine (HFO.out _).mono ?_); rintro e _ ⟨rfl, u2, rfl⟩))
  go_ret
  exact RetX.b rfl ((HB0.out.ext HBL.out _).ext (by rw [size_ext]; have := HBL.out; omega) _)
 have hb2 : decide ((3000 : Int) < (s.size : Int)) = false := by simp; omega
 have HFN := hide (HFS.out (by omega))
 have HS3 := hide (show s.size ≤ 3000 from by omega)
 clear hbig hlong HFS hs
 have HPR := hide (fun u : Ext => print04_any f (W0.ext u) S A B n k m j (HP.out.ext u) (HBK.out.ext u) (HV.out.ext u))
 cases hfb : fncB f with
 | true =>
  have HFR := hide ((fncB_iff f).1 hfb)
  have hpx : print04 f = (show04 f, 0) := by unfold print04; rw [hfb]; rfl
  obtain ⟨TX, hTX⟩ : ∃ t, show04 f = t := ⟨_, rfl⟩
  rw [hpx, hTX] at HPR
  dsimp only at HPR
  have HPA := hide (fun (W : World) (hW : VarsP W) => show Calls Tryz.prog 14 #[.string TX] W (FncP (f, 0, 0, 0) W) from by
   have h := parse04_any TX W hW
   rw [← hTX, parse_show04 HFR.out (show_fit04 HFR.out HFN.out).1] at h
   rw [← hTX]
   exact h)
  clear hpx hTX hfb HFN
  go_enter Tryz.func7, Tryz.ntmps7
  go_upto_region 7 with (first | (go_at_call 9; (with_reducible refine HAW.out.mono ?_); rintro e _ ⟨rfl, u1, rfl⟩) | (go_at_call 8; (with_reducible refine (HFO.out _).mono ?_); rintro e _ ⟨rfl, u2, rfl⟩; obtain ⟨u4, hu4⟩ := ext_ext W0 u1 u2; rw [hu4]) | (go_at_call 11; (with_reducible refine (HPR.out _).mono ?_); rintro e W1 ⟨rfl, u3, hW1⟩; have HB1 := hide (show Below W0.heap.size W0 W1 from by rw [hW1]; exact (Below.of_ext W0 u4 (Nat.le_refl _)).ext (by rw [size_ext]; omega) u3); clear hW1))
  have HV1 := hide (show VarsP W1 from HV.out.below HB1.out HV.out.v.sz)
  have HR1 := hide ((HB1.out.block C cl).trans HR0.out)
  have HP1 := hide (show Sl W1 S A n k f.params from HP.out.belowAll HB1.out)
  have HBK1 := hide (show Sl W1 S B m j f.blocks from HBK.out.belowAll HB1.out)
  have HB01 := hide (HB0.out.trans (HB1.out.mono HBL.out))
  clear a0 a1 HB1 HPR HFO HAW hW0
  go_upto_region 8 with (go_at_call 14; (with_reducible refine (HPA.out _ HV1.out).mono ?_); rintro e W2 ⟨A2, n2, k2, B2, m2, j2, rfl, hp, hb, hw⟩; dsimp only at hp hb ⊢; have HS1 := hide hp; have HS2 := hide hb; have HB2 := hide hw; clear hp hb hw)
  obtain ⟨D, hD⟩ : ∃ D, W2.heap.size = D := ⟨_, rfl⟩
  obtain ⟨W3, hW3⟩ : ∃ W, W2.alloc (.cells #[.slice A2 n2 k2, .slice B2 m2 j2] 25) = W := ⟨_, rfl⟩
  rw [hW3]
  try rw [hD]
  have cl1 : C < W1.heap.size := (Array.getElem?_eq_some_iff.1 HR1.out).1
  have HB3 := hide (show Below W1.heap.size W1 W3 from by rw [← hW3]; exact HB2.out.alloc HB2.out.size _)
  have HRD := hide (show W3.heap[D]? = some (.cells #[.slice A2 n2 k2, .slice B2 m2 j2] 25 (0, 0)) from by rw [← hW3, ← hD]; exact heap_alloc_new W2 _)
  have HQ3 := hide (show Sl W3 (fun b => W1.heap.size ≤ b) A2 n2 k2 f.params from by rw [← hW3]; exact HS1.out.alloc _)
  have HQ4 := hide (show Sl W3 (fun b => W1.heap.size ≤ b) B2 m2 j2 f.blocks from by rw [← hW3]; exact HS2.out.alloc _)
  have HR3 := hide ((HB3.out.block C cl1).trans HR1.out)
  have a0 : W3.cell? ⟨C, 0, none⟩ = some (.slice A n k) := cell_of_row W3 C _ _ _ (0, 0) HR3.out
  have a1 : W3.cell? ⟨C, 1, none⟩ = some (.slice B m j) := cell_of_row W3 C _ _ _ (0, 0) HR3.out
  have d0 : W3.cell? ⟨D, 0, none⟩ = some (.slice A2 n2 k2) := cell_of_row W3 D _ _ _ (0, 0) HRD.out
  have d1 : W3.cell? ⟨D, 1, none⟩ = some (.slice B2 m2 j2) := cell_of_row W3 D _ _ _ (0, 0) HRD.out
  have cl3 : C < W3.heap.size := (Array.getElem?_eq_some_iff.1 HR3.out).1
  have dl3 : D < W3.heap.size := (Array.getElem?_eq_some_iff.1 HRD.out).1
  have hn2 : n2 = n := HQ3.out.len.symm.trans HP1.out.len
  have hm2 : m2 = m := HQ4.out.len.symm.trans HBK1.out.len
  subst hn2
  subst hm2
  have HSF := hide (sameFunc_any f W3 S (fun b => W1.heap.size ≤ b) S (fun b => W1.heap.size ≤ b) A A2 B B2 n2 k k2 m2 j j2 (HP1.out.belowAll HB3.out) HQ3.out (HBK1.out.belowAll HB3.out) HQ4.out)
  have HB03 := hide (HB01.out.trans (HB3.out.mono HB01.out.size))
  have HV3 := hide (show VarsP W3 from HV1.out.below HB3.out HV1.out.v.sz)
  clear HS1 HS2 HB2 hW3 hD HPA HB3 HRD HR1 cl1
  go_upto_region 12 with (go_at_call 16; (with_reducible refine HSF.out.mono ?_); rintro e W5 ⟨rfl, u5, hW5⟩; have HW5 := hide hW5; clear hW5)
  have HV5 := hide (show VarsP W5 from by rw [HW5.out]; exact HV3.out.ext u5)
  have HB05 := hide (show Below w.heap.size w W5 from by rw [HW5.out]; exact HB03.out.ext HB03.out.size u5)
  clear HW5 a0 a1 d0 d1 cl3 dl3 HSF
  obtain ⟨⟨f4, l4, c4, e4⟩, hr⟩ : ∃ r, parse04 false s = r := ⟨_, rfl⟩
  have HPS := hide (show Calls Tryz.prog 14 #[.string s] W5 (FncP (f4, l4, c4, e4) W5) from hr ▸ parse04_any s W5 HV5.out)
  have HRQ := hide hr
  clear hr
  have HBL5 := hide HB05.out.size
  by_cases he4 : e4 = 0
  ·subst he4
   obtain ⟨rfl, rfl, hfr, hsz⟩ := parse_right04 HS3.out HRQ.out
   have hpx4 : print04 f4 = (show04 f4, 0) := by unfold print04; rw [(fncB_iff f4).2 hfr]; rfl
   have hps4 := parse_show04 hfr hsz
   go_upto_region 13 with (go_at_call 14; (with_reducible refine HPS.out.mono ?_); rintro e W6 ⟨A6, n6, k6, B6, m6, j6, rfl, hp, hb, hw⟩; dsimp only at hp hb ⊢; have HS6 := hide hp; have HS7 := hide hb; have HB6 := hide hw; clear hp hb hw)
   obtain ⟨E, hE⟩ : ∃ E, W6.heap.size = E := ⟨_, rfl⟩
   obtain ⟨W7, hW7⟩ : ∃ W, W6.alloc (.cells #[.slice A6 n6 k6, .slice B6 m6 j6] 25) = W := ⟨_, rfl⟩
   rw [hW7]
   try rw [hE]
   have HB7 := hide (show Below W5.heap.size W5 W7 from by rw [← hW7]; exact HB6.out.alloc HB6.out.size _)
   have HRE := hide (show W7.heap[E]? = some (.cells #[.slice A6 n6 k6, .slice B6 m6 j6] 25 (0, 0)) from by rw [← hW7, ← hE]; exact heap_alloc_new W6 _)
   have HT3 := hide (show Sl W7 (fun b => W5.heap.size ≤ b) A6 n6 k6 f4.params from by rw [← hW7]; exact HS6.out.alloc _)
   have HT4 := hide (show Sl W7 (fun b => W5.heap.size ≤ b) B6 m6 j6 f4.blocks from by rw [← hW7]; exact HS7.out.alloc _)
   have HV7 := hide (show VarsP W7 from HV5.out.below HB7.out HV5.out.v.sz)
   have e0 : W7.cell? ⟨E, 0, none⟩ = some (.slice A6 n6 k6) := cell_of_row W7 E _ _ _ (0, 0) HRE.out
   have e1 : W7.cell? ⟨E, 1, none⟩ = some (.slice B6 m6 j6) := cell_of_row W7 E _ _ _ (0, 0) HRE.out
   have el7 : E < W7.heap.size := (Array.getElem?_eq_some_iff.1 HRE.out).1
   have HP4 := hide (show Calls Tryz.prog 11 #[fnV A6 n6 k6 B6 m6 j6] W7 (RetX (.tuple #[.string (show04 f4), .int .i64 0]) W7) from by
    have h := print04_any f4 W7 _ A6 B6 n6 k6 m6 j6 HT3.out HT4.out HV7.out
    rw [hpx4] at h
    exact h)
   have HPB := hide (fun (W : World) (hW : VarsP W) => show Calls Tryz.prog 14 #[.string (show04 f4)] W (FncP (f4, 0, 0, 0) W) from by
    have h := parse04_any (show04 f4) W hW
    rw [hps4] at h
    exact h)
   clear hpx4 hps4 hsz hfr HPS HRQ hW7 hE HS6 HS7 HB6
   obtain ⟨t4, ht4⟩ : ∃ t, show04 f4 = t := ⟨_, rfl⟩
   rw [ht4] at HP4 HPB
   clear ht4
   go_upto_region 16 with (go_at_call 11; (with_reducible refine HP4.out.mono ?_); rintro e W8 ⟨rfl, u8, hW8⟩; have HW8 := hide hW8; clear hW8)
   have HB8 := hide (show Below W7.heap.size W7 W8 from by rw [HW8.out]; exact Below.of_ext W7 u8 (Nat.le_refl _))
   have HV8 := hide (show VarsP W8 from HV7.out.below HB8.out HV7.out.v.sz)
   have HR8 := hide ((HB8.out.block E el7).trans HRE.out)
   have el8 : E < W8.heap.size := (Array.getElem?_eq_some_iff.1 HR8.out).1
   clear HW8 e0 e1
   go_upto_region 17 with (go_at_call 14; (with_reducible refine (HPB.out _ HV8.out).mono ?_); rintro e W9 ⟨A9, n9, k9, B9, m9, j9, rfl, hp, hb, hw⟩; dsimp only at hp hb ⊢; have HS6 := hide hp; have HS7 := hide hb; have HB9 := hide hw; clear hp hb hw)
   obtain ⟨G, hG⟩ : ∃ E, W9.heap.size = E := ⟨_, rfl⟩
   obtain ⟨X, hX⟩ : ∃ W, W9.alloc (.cells #[.slice A9 n9 k9, .slice B9 m9 j9] 25) = W := ⟨_, rfl⟩
   rw [hX]
   try rw [hG]
   have HBX := hide (show Below W8.heap.size W8 X from by rw [← hX]; exact HB9.out.alloc HB9.out.size _)
   have HB7X := hide (show Below W7.heap.size W7 X from HB8.out.trans (HBX.out.mono HB8.out.size))
   have HRG := hide (show X.heap[G]? = some (.cells #[.slice A9 n9 k9, .slice B9 m9 j9] 25 (0, 0)) from by rw [← hX, ← hG]; exact heap_alloc_new W9 _)
   have HU3 := hide (show Sl X (fun b => W8.heap.size ≤ b) A9 n9 k9 f4.params from by rw [← hX]; exact HS6.out.alloc _)
   have HU4 := hide (show Sl X (fun b => W8.heap.size ≤ b) B9 m9 j9 f4.blocks from by rw [← hX]; exact HS7.out.alloc _)
   have HREX := hide ((HBX.out.block E el8).trans HR8.out)
   have e0 : X.cell? ⟨E, 0, none⟩ = some (.slice A6 n6 k6) := cell_of_row X E _ _ _ (0, 0) HREX.out
   have e1 : X.cell? ⟨E, 1, none⟩ = some (.slice B6 m6 j6) := cell_of_row X E _ _ _ (0, 0) HREX.out
   have g0 : X.cell? ⟨G, 0, none⟩ = some (.slice A9 n9 k9) := cell_of_row X G _ _ _ (0, 0) HRG.out
   have g1 : X.cell? ⟨G, 1, none⟩ = some (.slice B9 m9 j9) := cell_of_row X G _ _ _ (0, 0) HRG.out
   have elx : E < X.heap.size := (Array.getElem?_eq_some_iff.1 HREX.out).1
   have glx : G < X.heap.size := (Array.getElem?_eq_some_iff.1 HRG.out).1
   have hn9 : n9 = n6 := HU3.out.len.symm.trans HT3.out.len
   have hm9 : m9 = m6 := HU4.out.len.symm.trans HT4.out.len
   subst hn9
   subst hm9
   have HSG := hide (sameFunc_any f4 X (fun b => W5.heap.size ≤ b) (fun b => W8.heap.size ≤ b) (fun b => W5.heap.size ≤ b) (fun b => W8.heap.size ≤ b) A6 A9 B6 B9 n9 k6 k9 m9 j6 j9 (HT3.out.belowAll HB7X.out) HU3.out (HT4.out.belowAll HB7X.out) HU4.out)
   have HBF := hide (show Below w.heap.size w X from (HB05.out.trans (HB7.out.mono HBL5.out)).trans (HB7X.out.mono (by have := HBL5.out; have := HB7.out.size; omega)))
   clear hX hG el7 el8 HR8 HRE HS6 HS7
   go_wp2_with (go_at_call 16; (with_reducible refine HSG.out.mono ?_); rintro e _ ⟨rfl, u9, rfl⟩)
   go_ret
   exact RetX.b rfl (HBF.out.ext HBF.out.size u9)
  ·have hf4 := parse_bad04 HRQ.out he4
   subst hf4
   have q4 : (e4 != 0) = true := by simpa using he4
   clear he4 HRQ
   go_upto_region 14 with (go_at_call 14; (with_reducible refine HPS.out.mono ?_); rintro e W6 ⟨A6, n6, k6, B6, m6, j6, rfl, hp, hb, hw⟩; dsimp only at hp hb ⊢; have HS6 := hide hp; have HS7 := hide hb; have HB6 := hide hw; clear hp hb hw)
   obtain ⟨E, hE⟩ : ∃ E, W6.heap.size = E := ⟨_, rfl⟩
   obtain ⟨W7, hW7⟩ : ∃ W, W6.alloc (.cells #[.slice A6 n6 k6, .slice B6 m6 j6] 25) = W := ⟨_, rfl⟩
   rw [hW7]
   try rw [hE]
   have HB7 := hide (show Below W5.heap.size W5 W7 from by rw [← hW7]; exact HB6.out.alloc HB6.out.size _)
   have HRE := hide (show W7.heap[E]? = some (.cells #[.slice A6 n6 k6, .slice B6 m6 j6] 25 (0, 0)) from by rw [← hW7, ← hE]; exact heap_alloc_new W6 _)
   have HT3 := hide (show Sl W7 (fun b => W5.heap.size ≤ b) A6 n6 k6 ([] : List Int) from by rw [← hW7]; exact HS6.out.alloc _)
   have HT4 := hide (show Sl W7 (fun b => W5.heap.size ≤ b) B6 m6 j6 ([] : List Block) from by rw [← hW7]; exact HS7.out.alloc _)
   have e0 : W7.cell? ⟨E, 0, none⟩ = some (.slice A6 n6 k6) := cell_of_row W7 E _ _ _ (0, 0) HRE.out
   have e1 : W7.cell? ⟨E, 1, none⟩ = some (.slice B6 m6 j6) := cell_of_row W7 E _ _ _ (0, 0) HRE.out
   have el7 : E < W7.heap.size := (Array.getElem?_eq_some_iff.1 HRE.out).1
   have hn6 : n6 = 0 := HT3.out.len.symm
   have hm6 : m6 = 0 := HT4.out.len.symm
   subst hn6
   subst hm6
   have HSG := hide (sameFunc_any ⟨[], []⟩ W7 (fun b => W5.heap.size ≤ b) (fun _ => False) (fun b => W5.heap.size ≤ b) (fun _ => False) A6 none B6 none 0 k6 0 0 j6 0 HT3.out Sl.zero_ HT4.out Sl.zero_)
   have HBF := hide (show Below w.heap.size w W7 from HB05.out.trans (HB7.out.mono HBL5.out))
   clear hW7 hE HS6 HS7 HRE HPS
   go_wp2_with (go_at_call 16; (with_reducible refine HSG.out.mono ?_); rintro e _ ⟨rfl, u9, rfl⟩)
   go_ret
   exact RetX.b rfl (HBF.out.ext HBF.out.size u9)
 | false =>
  have hpx : print04 f = (ByteArray.empty, 2) := by unfold print04; rw [hfb]; rfl
  rw [hpx] at HPR
  dsimp only at HPR
  have HR := hide (fun (W : World) (hW : Below W0.heap.size W0 W) (hm : m ≤ 64) => right_no f W S A B n k m j (HP.out.belowAll hW) (HBK.out.belowAll hW) hm hfb)
  clear hpx hfb HFN
  by_cases h64 : m ≤ 64
  ·have g1 : decide ((m : Int) ≤ 64) = true := by simp; omega
   go_enter Tryz.func7, Tryz.ntmps7
   go_upto_region 10 with (first | (go_at_call 9; (with_reducible refine HAW.out.mono ?_); rintro e _ ⟨rfl, u1, rfl⟩) | (go_at_call 8; (with_reducible refine (HFO.out _).mono ?_); rintro e _ ⟨rfl, u2, rfl⟩; obtain ⟨u4, hu4⟩ := ext_ext W0 u1 u2; rw [hu4]) | (go_at_call 11; (with_reducible refine (HPR.out _).mono ?_); rintro e W1 ⟨rfl, u3, hW1⟩; have HB1 := hide (show Below W0.heap.size W0 W1 from by rw [hW1]; exact (Below.of_ext W0 u4 (Nat.le_refl _)).ext (by rw [size_ext]; omega) u3); clear hW1))
   have HR1 := hide ((HB1.out.block C cl).trans HR0.out)
   have HB01 := hide (HB0.out.trans (HB1.out.mono HBL.out))
   have HV1 := hide (show VarsP W1 from HV.out.below HB1.out HV.out.v.sz)
   obtain ⟨er, her, hcr⟩ := HR.out W1 HB1.out h64
   have HRI := hide hcr
   clear a0 a1 HB1 HPR HFO HAW hW0 hcr cl
   have a0 : W1.cell? ⟨C, 0, none⟩ = some (.slice A n k) := cell_of_row W1 C _ _ _ (0, 0) HR1.out
   have a1 : W1.cell? ⟨C, 1, none⟩ = some (.slice B m j) := cell_of_row W1 C _ _ _ (0, 0) HR1.out
   have cl : C < W1.heap.size := (Array.getElem?_eq_some_iff.1 HR1.out).1
   go_upto_region 12 with (go_at_call 19; (with_reducible refine HRI.out.mono ?_); rintro e W5 ⟨rfl, u5, hW5⟩; have HW5 := hide hW5; clear hW5)
   have HV5 := hide (show VarsP W5 from by rw [HW5.out]; exact HV1.out.ext u5)
   have HB05 := hide (show Below w.heap.size w W5 from by rw [HW5.out]; exact HB01.out.ext HB01.out.size u5)
   clear HW5 a0 a1 cl HRI
   obtain ⟨⟨f4, l4, c4, e4⟩, hr⟩ : ∃ r, parse04 false s = r := ⟨_, rfl⟩
   have HPS := hide (show Calls Tryz.prog 14 #[.string s] W5 (FncP (f4, l4, c4, e4) W5) from hr ▸ parse04_any s W5 HV5.out)
   have HRQ := hide hr
   clear hr
   have HBL5 := hide HB05.out.size
   by_cases he4 : e4 = 0
   ·subst he4
    obtain ⟨rfl, rfl, hfr, hsz⟩ := parse_right04 HS3.out HRQ.out
    have hpx4 : print04 f4 = (show04 f4, 0) := by unfold print04; rw [(fncB_iff f4).2 hfr]; rfl
    have hps4 := parse_show04 hfr hsz
    go_upto_region 13 with (go_at_call 14; (with_reducible refine HPS.out.mono ?_); rintro e W6 ⟨A6, n6, k6, B6, m6, j6, rfl, hp, hb, hw⟩; dsimp only at hp hb ⊢; have HS6 := hide hp; have HS7 := hide hb; have HB6 := hide hw; clear hp hb hw)
    obtain ⟨E, hE⟩ : ∃ E, W6.heap.size = E := ⟨_, rfl⟩
    obtain ⟨W7, hW7⟩ : ∃ W, W6.alloc (.cells #[.slice A6 n6 k6, .slice B6 m6 j6] 25) = W := ⟨_, rfl⟩
    rw [hW7]
    try rw [hE]
    have HB7 := hide (show Below W5.heap.size W5 W7 from by rw [← hW7]; exact HB6.out.alloc HB6.out.size _)
    have HRE := hide (show W7.heap[E]? = some (.cells #[.slice A6 n6 k6, .slice B6 m6 j6] 25 (0, 0)) from by rw [← hW7, ← hE]; exact heap_alloc_new W6 _)
    have HT3 := hide (show Sl W7 (fun b => W5.heap.size ≤ b) A6 n6 k6 f4.params from by rw [← hW7]; exact HS6.out.alloc _)
    have HT4 := hide (show Sl W7 (fun b => W5.heap.size ≤ b) B6 m6 j6 f4.blocks from by rw [← hW7]; exact HS7.out.alloc _)
    have HV7 := hide (show VarsP W7 from HV5.out.below HB7.out HV5.out.v.sz)
    have e0 : W7.cell? ⟨E, 0, none⟩ = some (.slice A6 n6 k6) := cell_of_row W7 E _ _ _ (0, 0) HRE.out
    have e1 : W7.cell? ⟨E, 1, none⟩ = some (.slice B6 m6 j6) := cell_of_row W7 E _ _ _ (0, 0) HRE.out
    have el7 : E < W7.heap.size := (Array.getElem?_eq_some_iff.1 HRE.out).1
    have HP4 := hide (show Calls Tryz.prog 11 #[fnV A6 n6 k6 B6 m6 j6] W7 (RetX (.tuple #[.string (show04 f4), .int .i64 0]) W7) from by
     have h := print04_any f4 W7 _ A6 B6 n6 k6 m6 j6 HT3.out HT4.out HV7.out
     rw [hpx4] at h
     exact h)
    have HPB := hide (fun (W : World) (hW : VarsP W) => show Calls Tryz.prog 14 #[.string (show04 f4)] W (FncP (f4, 0, 0, 0) W) from by
     have h := parse04_any (show04 f4) W hW
     rw [hps4] at h
     exact h)
    clear hpx4 hps4 hsz hfr HPS HRQ hW7 hE HS6 HS7 HB6
    obtain ⟨t4, ht4⟩ : ∃ t, show04 f4 = t := ⟨_, rfl⟩
    rw [ht4] at HP4 HPB
    clear ht4
    go_upto_region 16 with (go_at_call 11; (with_reducible refine HP4.out.mono ?_); rintro e W8 ⟨rfl, u8, hW8⟩; have HW8 := hide hW8; clear hW8)
    have HB8 := hide (show Below W7.heap.size W7 W8 from by rw [HW8.out]; exact Below.of_ext W7 u8 (Nat.le_refl _))
    have HV8 := hide (show VarsP W8 from HV7.out.below HB8.out HV7.out.v.sz)
    have HR8 := hide ((HB8.out.block E el7).trans HRE.out)
    have el8 : E < W8.heap.size := (Array.getElem?_eq_some_iff.1 HR8.out).1
    clear HW8 e0 e1
    go_upto_region 17 with (go_at_call 14; (with_reducible refine (HPB.out _ HV8.out).mono ?_); rintro e W9 ⟨A9, n9, k9, B9, m9, j9, rfl, hp, hb, hw⟩; dsimp only at hp hb ⊢; have HS6 := hide hp; have HS7 := hide hb; have HB9 := hide hw; clear hp hb hw)
    obtain ⟨G, hG⟩ : ∃ E, W9.heap.size = E := ⟨_, rfl⟩
    obtain ⟨X, hX⟩ : ∃ W, W9.alloc (.cells #[.slice A9 n9 k9, .slice B9 m9 j9] 25) = W := ⟨_, rfl⟩
    rw [hX]
    try rw [hG]
    have HBX := hide (show Below W8.heap.size W8 X from by rw [← hX]; exact HB9.out.alloc HB9.out.size _)
    have HB7X := hide (show Below W7.heap.size W7 X from HB8.out.trans (HBX.out.mono HB8.out.size))
    have HRG := hide (show X.heap[G]? = some (.cells #[.slice A9 n9 k9, .slice B9 m9 j9] 25 (0, 0)) from by rw [← hX, ← hG]; exact heap_alloc_new W9 _)
    have HU3 := hide (show Sl X (fun b => W8.heap.size ≤ b) A9 n9 k9 f4.params from by rw [← hX]; exact HS6.out.alloc _)
    have HU4 := hide (show Sl X (fun b => W8.heap.size ≤ b) B9 m9 j9 f4.blocks from by rw [← hX]; exact HS7.out.alloc _)
    have HREX := hide ((HBX.out.block E el8).trans HR8.out)
    have e0 : X.cell? ⟨E, 0, none⟩ = some (.slice A6 n6 k6) := cell_of_row X E _ _ _ (0, 0) HREX.out
    have e1 : X.cell? ⟨E, 1, none⟩ = some (.slice B6 m6 j6) := cell_of_row X E _ _ _ (0, 0) HREX.out
    have g0 : X.cell? ⟨G, 0, none⟩ = some (.slice A9 n9 k9) := cell_of_row X G _ _ _ (0, 0) HRG.out
    have g1 : X.cell? ⟨G, 1, none⟩ = some (.slice B9 m9 j9) := cell_of_row X G _ _ _ (0, 0) HRG.out
    have elx : E < X.heap.size := (Array.getElem?_eq_some_iff.1 HREX.out).1
    have glx : G < X.heap.size := (Array.getElem?_eq_some_iff.1 HRG.out).1
    have hn9 : n9 = n6 := HU3.out.len.symm.trans HT3.out.len
    have hm9 : m9 = m6 := HU4.out.len.symm.trans HT4.out.len
    subst hn9
    subst hm9
    have HSG := hide (sameFunc_any f4 X (fun b => W5.heap.size ≤ b) (fun b => W8.heap.size ≤ b) (fun b => W5.heap.size ≤ b) (fun b => W8.heap.size ≤ b) A6 A9 B6 B9 n9 k6 k9 m9 j6 j9 (HT3.out.belowAll HB7X.out) HU3.out (HT4.out.belowAll HB7X.out) HU4.out)
    have HBF := hide (show Below w.heap.size w X from (HB05.out.trans (HB7.out.mono HBL5.out)).trans (HB7X.out.mono (by have := HBL5.out; have := HB7.out.size; omega)))
    clear hX hG el7 el8 HR8 HRE HS6 HS7
    go_wp2_with (go_at_call 16; (with_reducible refine HSG.out.mono ?_); rintro e _ ⟨rfl, u9, rfl⟩)
    go_ret
    exact RetX.b rfl (HBF.out.ext HBF.out.size u9)
   ·have hf4 := parse_bad04 HRQ.out he4
    subst hf4
    have q4 : (e4 != 0) = true := by simpa using he4
    clear he4 HRQ
    go_upto_region 14 with (go_at_call 14; (with_reducible refine HPS.out.mono ?_); rintro e W6 ⟨A6, n6, k6, B6, m6, j6, rfl, hp, hb, hw⟩; dsimp only at hp hb ⊢; have HS6 := hide hp; have HS7 := hide hb; have HB6 := hide hw; clear hp hb hw)
    obtain ⟨E, hE⟩ : ∃ E, W6.heap.size = E := ⟨_, rfl⟩
    obtain ⟨W7, hW7⟩ : ∃ W, W6.alloc (.cells #[.slice A6 n6 k6, .slice B6 m6 j6] 25) = W := ⟨_, rfl⟩
    rw [hW7]
    try rw [hE]
    have HB7 := hide (show Below W5.heap.size W5 W7 from by rw [← hW7]; exact HB6.out.alloc HB6.out.size _)
    have HRE := hide (show W7.heap[E]? = some (.cells #[.slice A6 n6 k6, .slice B6 m6 j6] 25 (0, 0)) from by rw [← hW7, ← hE]; exact heap_alloc_new W6 _)
    have HT3 := hide (show Sl W7 (fun b => W5.heap.size ≤ b) A6 n6 k6 ([] : List Int) from by rw [← hW7]; exact HS6.out.alloc _)
    have HT4 := hide (show Sl W7 (fun b => W5.heap.size ≤ b) B6 m6 j6 ([] : List Block) from by rw [← hW7]; exact HS7.out.alloc _)
    have e0 : W7.cell? ⟨E, 0, none⟩ = some (.slice A6 n6 k6) := cell_of_row W7 E _ _ _ (0, 0) HRE.out
    have e1 : W7.cell? ⟨E, 1, none⟩ = some (.slice B6 m6 j6) := cell_of_row W7 E _ _ _ (0, 0) HRE.out
    have el7 : E < W7.heap.size := (Array.getElem?_eq_some_iff.1 HRE.out).1
    have hn6 : n6 = 0 := HT3.out.len.symm
    have hm6 : m6 = 0 := HT4.out.len.symm
    subst hn6
    subst hm6
    have HSG := hide (sameFunc_any ⟨[], []⟩ W7 (fun b => W5.heap.size ≤ b) (fun _ => False) (fun b => W5.heap.size ≤ b) (fun _ => False) A6 none B6 none 0 k6 0 0 j6 0 HT3.out Sl.zero_ HT4.out Sl.zero_)
    have HBF := hide (show Below w.heap.size w W7 from HB05.out.trans (HB7.out.mono HBL5.out))
    clear hW7 hE HS6 HS7 HRE HPS
    go_wp2_with (go_at_call 16; (with_reducible refine HSG.out.mono ?_); rintro e _ ⟨rfl, u9, rfl⟩)
    go_ret
    exact RetX.b rfl (HBF.out.ext HBF.out.size u9)
  ·have g1 : decide ((m : Int) ≤ 64) = false := by simp; omega
   have g2 : ¬ (m : Int) ≤ 64 := by omega
   go_enter Tryz.func7, Tryz.ntmps7
   go_upto_region 10 with (first | (go_at_call 9; (with_reducible refine HAW.out.mono ?_); rintro e _ ⟨rfl, u1, rfl⟩) | (go_at_call 8; (with_reducible refine (HFO.out _).mono ?_); rintro e _ ⟨rfl, u2, rfl⟩; obtain ⟨u4, hu4⟩ := ext_ext W0 u1 u2; rw [hu4]) | (go_at_call 11; (with_reducible refine (HPR.out _).mono ?_); rintro e W5 ⟨rfl, u3, hW1⟩; have HB1 := hide (show Below W0.heap.size W0 W5 from by rw [hW1]; exact (Below.of_ext W0 u4 (Nat.le_refl _)).ext (by rw [size_ext]; omega) u3); clear hW1))
   have HV5 := hide (show VarsP W5 from HV.out.below HB1.out HV.out.v.sz)
   have HB05 := hide (show Below w.heap.size w W5 from HB0.out.trans (HB1.out.mono HBL.out))
   have HR1 := hide ((HB1.out.block C cl).trans HR0.out)
   clear a0 a1 cl HPR HFO HAW hW0
   have a0 : W5.cell? ⟨C, 0, none⟩ = some (.slice A n k) := cell_of_row W5 C _ _ _ (0, 0) HR1.out
   have a1 : W5.cell? ⟨C, 1, none⟩ = some (.slice B m j) := cell_of_row W5 C _ _ _ (0, 0) HR1.out
   have cl : C < W5.heap.size := (Array.getElem?_eq_some_iff.1 HR1.out).1
   go_upto_region 12 with fail
   clear a0 a1 cl
   obtain ⟨⟨f4, l4, c4, e4⟩, hr⟩ : ∃ r, parse04 false s = r := ⟨_, rfl⟩
   have HPS := hide (show Calls Tryz.prog 14 #[.string s] W5 (FncP (f4, l4, c4, e4) W5) from hr ▸ parse04_any s W5 HV5.out)
   have HRQ := hide hr
   clear hr
   have HBL5 := hide HB05.out.size
   by_cases he4 : e4 = 0
   ·subst he4
    obtain ⟨rfl, rfl, hfr, hsz⟩ := parse_right04 HS3.out HRQ.out
    have hpx4 : print04 f4 = (show04 f4, 0) := by unfold print04; rw [(fncB_iff f4).2 hfr]; rfl
    have hps4 := parse_show04 hfr hsz
    go_upto_region 13 with (go_at_call 14; (with_reducible refine HPS.out.mono ?_); rintro e W6 ⟨A6, n6, k6, B6, m6, j6, rfl, hp, hb, hw⟩; dsimp only at hp hb ⊢; have HS6 := hide hp; have HS7 := hide hb; have HB6 := hide hw; clear hp hb hw)
    obtain ⟨E, hE⟩ : ∃ E, W6.heap.size = E := ⟨_, rfl⟩
    obtain ⟨W7, hW7⟩ : ∃ W, W6.alloc (.cells #[.slice A6 n6 k6, .slice B6 m6 j6] 25) = W := ⟨_, rfl⟩
    rw [hW7]
    try rw [hE]
    have HB7 := hide (show Below W5.heap.size W5 W7 from by rw [← hW7]; exact HB6.out.alloc HB6.out.size _)
    have HRE := hide (show W7.heap[E]? = some (.cells #[.slice A6 n6 k6, .slice B6 m6 j6] 25 (0, 0)) from by rw [← hW7, ← hE]; exact heap_alloc_new W6 _)
    have HT3 := hide (show Sl W7 (fun b => W5.heap.size ≤ b) A6 n6 k6 f4.params from by rw [← hW7]; exact HS6.out.alloc _)
    have HT4 := hide (show Sl W7 (fun b => W5.heap.size ≤ b) B6 m6 j6 f4.blocks from by rw [← hW7]; exact HS7.out.alloc _)
    have HV7 := hide (show VarsP W7 from HV5.out.below HB7.out HV5.out.v.sz)
    have e0 : W7.cell? ⟨E, 0, none⟩ = some (.slice A6 n6 k6) := cell_of_row W7 E _ _ _ (0, 0) HRE.out
    have e1 : W7.cell? ⟨E, 1, none⟩ = some (.slice B6 m6 j6) := cell_of_row W7 E _ _ _ (0, 0) HRE.out
    have el7 : E < W7.heap.size := (Array.getElem?_eq_some_iff.1 HRE.out).1
    have HP4 := hide (show Calls Tryz.prog 11 #[fnV A6 n6 k6 B6 m6 j6] W7 (RetX (.tuple #[.string (show04 f4), .int .i64 0]) W7) from by
     have h := print04_any f4 W7 _ A6 B6 n6 k6 m6 j6 HT3.out HT4.out HV7.out
     rw [hpx4] at h
     exact h)
    have HPB := hide (fun (W : World) (hW : VarsP W) => show Calls Tryz.prog 14 #[.string (show04 f4)] W (FncP (f4, 0, 0, 0) W) from by
     have h := parse04_any (show04 f4) W hW
     rw [hps4] at h
     exact h)
    clear hpx4 hps4 hsz hfr HPS HRQ hW7 hE HS6 HS7 HB6
    obtain ⟨t4, ht4⟩ : ∃ t, show04 f4 = t := ⟨_, rfl⟩
    rw [ht4] at HP4 HPB
    clear ht4
    go_upto_region 16 with (go_at_call 11; (with_reducible refine HP4.out.mono ?_); rintro e W8 ⟨rfl, u8, hW8⟩; have HW8 := hide hW8; clear hW8)
    have HB8 := hide (show Below W7.heap.size W7 W8 from by rw [HW8.out]; exact Below.of_ext W7 u8 (Nat.le_refl _))
    have HV8 := hide (show VarsP W8 from HV7.out.below HB8.out HV7.out.v.sz)
    have HR8 := hide ((HB8.out.block E el7).trans HRE.out)
    have el8 : E < W8.heap.size := (Array.getElem?_eq_some_iff.1 HR8.out).1
    clear HW8 e0 e1
    go_upto_region 17 with (go_at_call 14; (with_reducible refine (HPB.out _ HV8.out).mono ?_); rintro e W9 ⟨A9, n9, k9, B9, m9, j9, rfl, hp, hb, hw⟩; dsimp only at hp hb ⊢; have HS6 := hide hp; have HS7 := hide hb; have HB9 := hide hw; clear hp hb hw)
    obtain ⟨G, hG⟩ : ∃ E, W9.heap.size = E := ⟨_, rfl⟩
    obtain ⟨X, hX⟩ : ∃ W, W9.alloc (.cells #[.slice A9 n9 k9, .slice B9 m9 j9] 25) = W := ⟨_, rfl⟩
    rw [hX]
    try rw [hG]
    have HBX := hide (show Below W8.heap.size W8 X from by rw [← hX]; exact HB9.out.alloc HB9.out.size _)
    have HB7X := hide (show Below W7.heap.size W7 X from HB8.out.trans (HBX.out.mono HB8.out.size))
    have HRG := hide (show X.heap[G]? = some (.cells #[.slice A9 n9 k9, .slice B9 m9 j9] 25 (0, 0)) from by rw [← hX, ← hG]; exact heap_alloc_new W9 _)
    have HU3 := hide (show Sl X (fun b => W8.heap.size ≤ b) A9 n9 k9 f4.params from by rw [← hX]; exact HS6.out.alloc _)
    have HU4 := hide (show Sl X (fun b => W8.heap.size ≤ b) B9 m9 j9 f4.blocks from by rw [← hX]; exact HS7.out.alloc _)
    have HREX := hide ((HBX.out.block E el8).trans HR8.out)
    have e0 : X.cell? ⟨E, 0, none⟩ = some (.slice A6 n6 k6) := cell_of_row X E _ _ _ (0, 0) HREX.out
    have e1 : X.cell? ⟨E, 1, none⟩ = some (.slice B6 m6 j6) := cell_of_row X E _ _ _ (0, 0) HREX.out
    have g0 : X.cell? ⟨G, 0, none⟩ = some (.slice A9 n9 k9) := cell_of_row X G _ _ _ (0, 0) HRG.out
    have g1 : X.cell? ⟨G, 1, none⟩ = some (.slice B9 m9 j9) := cell_of_row X G _ _ _ (0, 0) HRG.out
    have elx : E < X.heap.size := (Array.getElem?_eq_some_iff.1 HREX.out).1
    have glx : G < X.heap.size := (Array.getElem?_eq_some_iff.1 HRG.out).1
    have hn9 : n9 = n6 := HU3.out.len.symm.trans HT3.out.len
    have hm9 : m9 = m6 := HU4.out.len.symm.trans HT4.out.len
    subst hn9
    subst hm9
    have HSG := hide (sameFunc_any f4 X (fun b => W5.heap.size ≤ b) (fun b => W8.heap.size ≤ b) (fun b => W5.heap.size ≤ b) (fun b => W8.heap.size ≤ b) A6 A9 B6 B9 n9 k6 k9 m9 j6 j9 (HT3.out.belowAll HB7X.out) HU3.out (HT4.out.belowAll HB7X.out) HU4.out)
    have HBF := hide (show Below w.heap.size w X from (HB05.out.trans (HB7.out.mono HBL5.out)).trans (HB7X.out.mono (by have := HBL5.out; have := HB7.out.size; omega)))
    clear hX hG el7 el8 HR8 HRE HS6 HS7
    go_wp2_with (go_at_call 16; (with_reducible refine HSG.out.mono ?_); rintro e _ ⟨rfl, u9, rfl⟩)
    go_ret
    exact RetX.b rfl (HBF.out.ext HBF.out.size u9)
   ·have hf4 := parse_bad04 HRQ.out he4
    subst hf4
    have q4 : (e4 != 0) = true := by simpa using he4
    clear he4 HRQ
    go_upto_region 14 with (go_at_call 14; (with_reducible refine HPS.out.mono ?_); rintro e W6 ⟨A6, n6, k6, B6, m6, j6, rfl, hp, hb, hw⟩; dsimp only at hp hb ⊢; have HS6 := hide hp; have HS7 := hide hb; have HB6 := hide hw; clear hp hb hw)
    obtain ⟨E, hE⟩ : ∃ E, W6.heap.size = E := ⟨_, rfl⟩
    obtain ⟨W7, hW7⟩ : ∃ W, W6.alloc (.cells #[.slice A6 n6 k6, .slice B6 m6 j6] 25) = W := ⟨_, rfl⟩
    rw [hW7]
    try rw [hE]
    have HB7 := hide (show Below W5.heap.size W5 W7 from by rw [← hW7]; exact HB6.out.alloc HB6.out.size _)
    have HRE := hide (show W7.heap[E]? = some (.cells #[.slice A6 n6 k6, .slice B6 m6 j6] 25 (0, 0)) from by rw [← hW7, ← hE]; exact heap_alloc_new W6 _)
    have HT3 := hide (show Sl W7 (fun b => W5.heap.size ≤ b) A6 n6 k6 ([] : List Int) from by rw [← hW7]; exact HS6.out.alloc _)
    have HT4 := hide (show Sl W7 (fun b => W5.heap.size ≤ b) B6 m6 j6 ([] : List Block) from by rw [← hW7]; exact HS7.out.alloc _)
    have e0 : W7.cell? ⟨E, 0, none⟩ = some (.slice A6 n6 k6) := cell_of_row W7 E _ _ _ (0, 0) HRE.out
    have e1 : W7.cell? ⟨E, 1, none⟩ = some (.slice B6 m6 j6) := cell_of_row W7 E _ _ _ (0, 0) HRE.out
    have el7 : E < W7.heap.size := (Array.getElem?_eq_some_iff.1 HRE.out).1
    have hn6 : n6 = 0 := HT3.out.len.symm
    have hm6 : m6 = 0 := HT4.out.len.symm
    subst hn6
    subst hm6
    have HSG := hide (sameFunc_any ⟨[], []⟩ W7 (fun b => W5.heap.size ≤ b) (fun _ => False) (fun b => W5.heap.size ≤ b) (fun _ => False) A6 none B6 none 0 k6 0 0 j6 0 HT3.out Sl.zero_ HT4.out Sl.zero_)
    have HBF := hide (show Below w.heap.size w W7 from HB05.out.trans (HB7.out.mono HBL5.out))
    clear hW7 hE HS6 HS7 HRE HPS
    go_wp2_with (go_at_call 16; (with_reducible refine HSG.out.mono ?_); rintro e _ ⟨rfl, u9, rfl⟩)
    go_ret
    exact RetX.b rfl (HBF.out.ext HBF.out.size u9)
end Go.Proofs.YtljglhaeonbfoaaGreatDoor
