/- law04: walks: ReadBlank. -/
import Derived.Test.YtljglhaeonbfoaaGreatDoorG37
set_option linter.unusedSimpArgs false
set_option linter.unusedVariables false
namespace Go.Proofs.YtljglhaeonbfoaaGreatDoor
open Go.RowKit
set_option maxRecDepth 100000 in
set_option maxHeartbeats 32000000 in
theorem readBlank_any (f : Fnc) (cut : Int) (w : World) (S : Nat → Prop) (A B : Option Addr) (n k m j : Nat) (hp : Sl w S A n k f.params) (hb : Sl w S B m j f.blocks) (hm : SmallT 140737488355328 f.blocks) (hn : n ≤ 140737488355328) (hc : InI cut) (hv : VarsP w) :
  Calls Tryz.prog 6 #[fnV A n k B m j, .int .i64 cut] w (RetX (.bool true) w) := by
 obtain ⟨C, hC⟩ : ∃ C, w.heap.size = C := ⟨_, rfl⟩
 obtain ⟨W0, hW0⟩ : ∃ W, w.alloc (.cells #[.slice A n k, .slice B m j] 25) = W := ⟨_, rfl⟩
 have HR0 := hide (show W0.heap[C]? = some (.cells #[.slice A n k, .slice B m j] 25 (0, 0)) from by rw [← hW0, ← hC]; exact heap_alloc_new w _)
 have a0 : W0.cell? ⟨C, 0, none⟩ = some (.slice A n k) := cell_of_row W0 C _ _ _ (0, 0) HR0.out
 have a1 : W0.cell? ⟨C, 1, none⟩ = some (.slice B m j) := cell_of_row W0 C _ _ _ (0, 0) HR0.out
 have cl : C < W0.heap.size := (Array.getElem?_eq_some_iff.1 HR0.out).1
 have HB0 := hide (show Below w.heap.size w W0 from by rw [← hW0]; exact (Below.refl _ _).alloc (Nat.le_refl _) _)
 have HBL := hide (show w.heap.size ≤ W0.heap.size from HB0.out.size)
 have HV := hide (show VarsP W0 from by rw [← hW0]; exact hv.alloc _)
 have HP := hide (show Sl W0 S A n k f.params from by rw [← hW0]; exact hp.alloc _)
 have HBK := hide (show Sl W0 S B m j f.blocks from by rw [← hW0]; exact hb.alloc _)
 have hbd := blocksOf_le4 700 (by decide) f.blocks 0 hm.2 (by decide) (by decide)
 have HAW := hide (awake04_any W0 HV.out)
 obtain ⟨T, hT⟩ : ∃ T, (n : Int) + blocksOf 700 0 f.blocks = T := ⟨_, rfl⟩
 have HFO := hide (fun u : Ext => show Calls Tryz.prog 8 #[fnV A n k B m j, .int .i64 700] (W0.ext u) (RetX (.int .i64 T) (W0.ext u)) from hT ▸ funcOf_any f (W0.ext u) S S A B n k m j (HP.out.ext u) (HBK.out.ext u) hm hn)
 have HFS := hide (show T ≤ 700 → fnS f ≤ 700 from fun h => by
  have h1 := blocksOf_sum 700 f.blocks 0 (by omega)
  unfold fnS
  have := hp.len
  omega)
 have HCQ := hide hC
 have HLM := hide hb.len
 have HCI := hide hc
 clear hp hb hm hv hT hbd hc
 by_cases hbig : 700 < T
 ·have hb1 : decide ((700 : Int) < T) = true := by simpa using hbig
  go_enter Tryz.func6, Tryz.ntmps6
  go_wp2_with (first | (go_at_call 9; (with_reducible refine HAW.out.mono ?_); rintro e _ ⟨rfl, u1, rfl⟩) | (go_at_call 8; (with_reducible refine (HFO.out _).mono ?_); rintro e _ ⟨rfl, u2, rfl⟩))
  go_ret
  exact RetX.b rfl ((HB0.out.ext HBL.out _).ext (by rw [size_ext]; have := HBL.out; omega) _)
 have hb1 : decide ((700 : Int) < T) = false := by simp; omega
 have HFN := hide (HFS.out (by omega))
 clear hbig HFS
 have HPR := hide (fun u : Ext => print04_any f (W0.ext u) S A B n k m j (HP.out.ext u) (HBK.out.ext u) (HV.out.ext u))
 cases hfb : fncB f with
 | false =>
  have hpx : print04 f = (ByteArray.empty, 2) := by unfold print04; rw [hfb]; rfl
  rw [hpx] at HPR
  dsimp only at HPR
  go_enter Tryz.func6, Tryz.ntmps6
  go_wp2_with (first | (go_at_call 9; (with_reducible refine HAW.out.mono ?_); rintro e _ ⟨rfl, u1, rfl⟩) | (go_at_call 8; (with_reducible refine (HFO.out _).mono ?_); rintro e _ ⟨rfl, u2, rfl⟩; obtain ⟨u4, hu4⟩ := ext_ext W0 u1 u2; rw [hu4]) | (go_at_call 11; (with_reducible refine (HPR.out _).mono ?_); rintro e _ ⟨rfl, u3, rfl⟩))
  go_ret
  exact RetX.b rfl ((HB0.out.ext HBL.out _).ext (by rw [size_ext]; have := HBL.out; omega) _)
 | true =>
 have HFR := hide ((fncB_iff f).1 hfb)
 have hpx : print04 f = (show04 f, 0) := by unfold print04; rw [hfb]; rfl
 obtain ⟨TX, hTX⟩ : ∃ t, show04 f = t := ⟨_, rfl⟩
 rw [hpx, hTX] at HPR
 dsimp only at HPR
 have HTX := hide hTX
 have HTZ := hide (show TX.size ≤ 100000 from by have h1 := show_sz04 HFR.out; have h2 := fnN_le f; have := HFN.out; rw [hTX] at h1; omega)
 have HWX := hide (show parse04 false (wxT TX) = (f, 0, 0, 0) from hTX ▸ parse_wx04 HFR.out HFN.out)
 have HBH := hide (show ∃ (k e : Int), parse04 false (TX ++ tX) = ((⟨[], []⟩ : Fnc), 1 + (tens TX.data.toList : Int), k, e) ∧ (e = 7 ∨ e = 3) from by
  have h := parse_behind04 HFR.out (by rw [hTX]; have := HTZ.out; omega)
  rw [← tens_show04 HFR.out, hTX] at h
  exact h)
 have HCF := hide (show 1 ≤ TX.size ∧ 1 ≤ (cutN 1 TX).size ∧ (f.blocks.length ≤ 1 → (parse04 false (cutN 1 TX)).2.2.2 ≠ 0 ∧ (parse04 false (cutN 2 TX)).2.2.2 ≠ 0) from hTX ▸ cut_fn HFR.out)
 clear hpx hTX hfb HFN
 go_enter Tryz.func6, Tryz.ntmps6
 go_upto_region 8 with (first | (go_at_call 9; (with_reducible refine HAW.out.mono ?_); rintro e _ ⟨rfl, u1, rfl⟩) | (go_at_call 8; (with_reducible refine (HFO.out _).mono ?_); rintro e _ ⟨rfl, u2, rfl⟩; obtain ⟨u4, hu4⟩ := ext_ext W0 u1 u2; rw [hu4]) | (go_at_call 11; (with_reducible refine (HPR.out _).mono ?_); rintro e W1 ⟨rfl, u3, hW1⟩; have HB1 := hide (show Below W0.heap.size W0 W1 from by rw [hW1]; exact (Below.of_ext W0 u4 (Nat.le_refl _)).ext (by rw [size_ext]; omega) u3); clear hW1 hu4))
 have HV1 := hide (show VarsP W1 from HV.out.below HB1.out HV.out.v.sz)
 have HP1 := hide (show Sl W1 S A n k f.params from HP.out.belowAll HB1.out)
 have HBK1 := hide (show Sl W1 S B m j f.blocks from HBK.out.belowAll HB1.out)
 have HR1 := hide ((HB1.out.block C cl).trans HR0.out)
 have HB01 := hide (HB0.out.trans (HB1.out.mono HBL.out))
 clear a0 a1 cl HB1 HV HP HBK HR0 HPR HFO HAW hW0 HB0 HBL
 obtain ⟨l, hl⟩ : ∃ l, TX.data.toList = l := ⟨_, rfl⟩
 have HL := hide hl
 have hlz : TX.size = l.length := by rw [← hl]; exact size_list4 TX
 clear hl
 go_wp2_with fail
 go_loop [7, 8, 9] (fun v1 v2 v3 => ∃ i : Nat, v1 = .string (mkB (wxB (l.take i))) ∧ v2 = .int .i64 (tens (l.take i) : Nat) ∧ v3 = .int .i64 i ∧ i ≤ TX.size) (fun _ _ i => TX.size - (intOf i).toNat)
 case atStart => exact ⟨0, rfl, rfl, rfl, Nat.zero_le _⟩
 case round =>
  obtain ⟨i, rfl, rfl, rfl, hi⟩ := hrel
  by_cases hlt : i < TX.size
  ·have hli : i < l.length := by omega
   obtain ⟨c, hc⟩ : ∃ c, l[i] = c := ⟨_, rfl⟩
   have hx : l[i]? = some c := by rw [List.getElem?_eq_getElem hli, hc]
   have HWXT := hide (wx_take hx)
   have HTNT := hide (tens_take hx)
   have HBY := hide (show TX[i] = c from byte_at (by rw [HL.out]; exact hx) hlt)
   have hex : TX.extract i (i + 1) = mkB [c] := ext_one (by rw [HL.out]; exact hx)
   have HEX := hide hex
   have hxz : (TX.extract i (i + 1)).size = 1 := by rw [hex, mkB_size]; rfl
   obtain ⟨xt, hxt⟩ : ∃ x, TX.extract i (i + 1) = x := ⟨_, rfl⟩
   rw [hxt] at HEX hxz
   have g0 : (i : Int) < TX.size := by omega
   have HTZ' := HTZ.out
   have g2 : IntKind.i64.wrap ((i : Int) + 1) = (i : Int) + 1 := IntWalk.i64_in _ (by omega)
   have hpz : (mkB (wxB (l.take i))).size ≤ 1300000 := by rw [mkB_size]; have := wxB_len (l.take i); rw [List.length_take] at this; omega
   have htz : tens (l.take i) ≤ 100000 := by have := tens_le (l.take i); rw [List.length_take] at this; omega
   obtain ⟨pw, hpw⟩ : ∃ p, mkB (wxB (l.take i)) = p := ⟨_, rfl⟩
   obtain ⟨tn, htn⟩ : ∃ p, tens (l.take i) = p := ⟨_, rfl⟩
   rw [hpw] at HWXT hpz ⊢
   rw [htn] at HTNT htz ⊢
   have g1 : pw.size + xt.size ≤ 9223372036854775807 := by omega
   have g3 : (pw ++ xt).size + (⟨#[32, 59, 32, 226, 134, 144, 32, 206, 177, 10, 10, 9]⟩ : ByteArray).size ≤ 9223372036854775807 := by rw [ByteArray.size_append]; show pw.size + xt.size + 12 ≤ _; omega
   have g4 : (pw ++ xt).size + (⟨#[9, 32]⟩ : ByteArray).size ≤ 9223372036854775807 := by rw [ByteArray.size_append]; show pw.size + xt.size + 2 ≤ _; omega
   have g5 : IntKind.i64.wrap ((tn : Int) + 1) = (tn : Int) + 1 := IntWalk.i64_in _ (by omega)
   clear hpz htz hc hx hpw htn hex hxz
   cases q10 : ((TX[i].toNat : Int) == 10) with
   | true =>
    have hc10 : c = 10 := by rw [← HBY.out]; exact UInt8.toNat_inj.1 (by have := beq_iff_eq.1 q10; show _ = 10; omega)
    have q32 : ((TX[i].toNat : Int) == 32) = false := by rw [HBY.out, hc10]; rfl
    subst hc10
    go_wp2_with (first | (simp only [hxt]) | (simp only [run_string_add_sum _ _ _ g1, run_string_add_sum _ _ _ g3, run_string_add_sum _ _ _ g4]))
    go_round
    case rel => exact ⟨i + 1, by rw [HWXT.out, HEX.out, ByteArray.append_assoc]; rfl, by rw [HTNT.out]; rfl, by go_num, by omega⟩
    case measure => simp [intOf]; omega
   | false =>
   have hc10 : c ≠ 10 := by rintro rfl; rw [HBY.out] at q10; exact absurd q10 (by decide)
   cases q32 : ((TX[i].toNat : Int) == 32) with
   | true =>
    have hc32 : c = 32 := by rw [← HBY.out]; exact UInt8.toNat_inj.1 (by have := beq_iff_eq.1 q32; show _ = 32; omega)
    subst hc32
    clear hc10
    go_wp2_with (first | (simp only [hxt]) | (simp only [run_string_add_sum _ _ _ g1, run_string_add_sum _ _ _ g3, run_string_add_sum _ _ _ g4]))
    go_round
    case rel => exact ⟨i + 1, by rw [HWXT.out, HEX.out, ByteArray.append_assoc]; rfl, by rw [HTNT.out]; rfl, by go_num, by omega⟩
    case measure => simp [intOf]; omega
   | false =>
    have hc32 : c ≠ 32 := by rintro rfl; rw [HBY.out] at q32; exact absurd q32 (by decide)
    have HC := hide hc10; have HC2 := hide hc32
    clear hc10 hc32
    go_wp2_with (first | (simp only [hxt]) | (simp only [run_string_add_sum _ _ _ g1, run_string_add_sum _ _ _ g3, run_string_add_sum _ _ _ g4]))
    go_round
    case rel => exact ⟨i + 1, by rw [HWXT.out, HEX.out]; unfold wxb1; rw [if_neg HC.out, if_neg HC2.out], by rw [HTNT.out, if_neg HC.out]; rfl, by go_num, by omega⟩
    case measure => simp [intOf]; omega
  ·have hie : i = TX.size := by omega
   subst hie
   have hlt' : l.take TX.size = l := List.take_of_length_le (by omega)
   rw [hlt']
   have hwt : mkB (wxB l) = wxT TX := by unfold wxT; rw [HL.out]
   rw [hwt]
   obtain ⟨wt, hwte⟩ : ∃ t, wxT TX = t := ⟨_, rfl⟩
   rw [hwte] at HWX ⊢
   obtain ⟨kk, ee, hbh, hee⟩ := HBH.out
   have htz : tens l ≤ 100000 := by have := tens_le l; have := HTZ.out; omega
   rw [HL.out] at hbh
   obtain ⟨tn, htn⟩ : ∃ t, tens l = t := ⟨_, rfl⟩
   rw [htn] at hbh htz ⊢
   have HEE := hide hee
   have HPA := hide (show Calls Tryz.prog 14 #[.string wt] W1 (FncP (f, 0, 0, 0) W1) from HWX.out ▸ parse04_any wt W1 HV1.out)
   have HPB := hide (fun (W : World) (hW : VarsP W) => show Calls Tryz.prog 14 #[.string (TX ++ ⟨#[120]⟩)] W (FncP ((⟨[], []⟩ : Fnc), 1 + (tn : Int), kk, ee) W) from hbh ▸ parse04_any (TX ++ tX) W hW)
   clear hwt hwte hbh hee htn hlt' HBH HWX hi hlt
   obtain ⟨a0, a1⟩ : W1.cell? ⟨C, 0, none⟩ = some (.slice A n k) ∧ W1.cell? ⟨C, 1, none⟩ = some (.slice B m j) := ⟨cell_of_row W1 C _ _ _ (0, 0) HR1.out, cell_of_row W1 C _ _ _ (0, 0) HR1.out⟩
   have cl : C < W1.heap.size := (Array.getElem?_eq_some_iff.1 HR1.out).1
   have g1 : TX.size + (⟨#[120]⟩ : ByteArray).size ≤ 9223372036854775807 := by have := HTZ.out; show TX.size + 1 ≤ _; omega
   go_upto_region 20 with (go_at_call 14; (with_reducible refine HPA.out.mono ?_); rintro e W2 ⟨A2, n2, k2, B2, m2, j2, rfl, hp, hb, hw⟩; dsimp only at hp hb ⊢; have HS1 := hide hp; have HS2 := hide hb; have HB2 := hide hw; clear hp hb hw)
   obtain ⟨D, hD⟩ : ∃ D, W2.heap.size = D := ⟨_, rfl⟩
   obtain ⟨W3, hW3⟩ : ∃ W, W2.alloc (.cells #[.slice A2 n2 k2, .slice B2 m2 j2] 25) = W := ⟨_, rfl⟩
   rw [hW3]
   try rw [hD]
   have hbl1 : w.heap.size ≤ W1.heap.size := HB01.out.size
   have HB3 := hide (show Below W1.heap.size W1 W3 from by rw [← hW3]; exact HB2.out.alloc HB2.out.size _)
   have HRD := hide (show W3.heap[D]? = some (.cells #[.slice A2 n2 k2, .slice B2 m2 j2] 25 (0, 0)) from by rw [← hW3, ← hD]; exact heap_alloc_new W2 _)
   have HS3 := hide (show Sl W3 (fun b => W1.heap.size ≤ b) A2 n2 k2 f.params from by rw [← hW3]; exact HS1.out.alloc _)
   have HS4 := hide (show Sl W3 (fun b => W1.heap.size ≤ b) B2 m2 j2 f.blocks from by rw [← hW3]; exact HS2.out.alloc _)
   have HV3 := hide (show VarsP W3 from HV1.out.below HB3.out HV1.out.v.sz)
   have hD3 : D < W3.heap.size := (Array.getElem?_eq_some_iff.1 HRD.out).1
   clear HS1 HS2 HB2 hW3 hD a0 a1 HPA
   have hn2 : n2 = n := HS3.out.len.symm.trans HP1.out.len
   have hm2 : m2 = m := HS4.out.len.symm.trans HBK1.out.len
   subst hn2
   subst hm2
   go_upto_region 21 with (first | (simp only [run_string_add_sum _ _ _ g1]) | (go_at_call 14; (with_reducible refine (HPB.out _ HV3.out).mono ?_); rintro e W4 ⟨A3, n3, k3, B3, m3, j3, rfl, hp, hb, hw⟩; dsimp only at hp hb ⊢; have HB4 := hide hw; clear hp hb hw))
   obtain ⟨W5, hW5⟩ : ∃ W, W4.alloc (.cells #[.slice A3 n3 k3, .slice B3 m3 j3] 25) = W := ⟨_, rfl⟩
   rw [hW5]
   have HB5 := hide (show Below W3.heap.size W3 W5 from by rw [← hW5]; exact HB4.out.alloc HB4.out.size _)
   have hbl3 : W1.heap.size ≤ W3.heap.size := HB3.out.size
   have HB15 := hide (show Below W1.heap.size W1 W5 from HB3.out.trans (HB5.out.mono hbl3))
   have HRC5 := hide ((HB15.out.block C cl).trans HR1.out)
   have HRD5 := hide ((HB5.out.block D hD3).trans HRD.out)
   have a0 : W5.cell? ⟨C, 0, none⟩ = some (.slice A n2 k) := cell_of_row W5 C _ _ _ (0, 0) HRC5.out
   have a1 : W5.cell? ⟨C, 1, none⟩ = some (.slice B m2 j) := cell_of_row W5 C _ _ _ (0, 0) HRC5.out
   have d0 : W5.cell? ⟨D, 0, none⟩ = some (.slice A2 n2 k2) := cell_of_row W5 D _ _ _ (0, 0) HRD5.out
   have d1 : W5.cell? ⟨D, 1, none⟩ = some (.slice B2 m2 j2) := cell_of_row W5 D _ _ _ (0, 0) HRD5.out
   have cl5 : C < W5.heap.size := (Array.getElem?_eq_some_iff.1 HRC5.out).1
   have dl5 : D < W5.heap.size := (Array.getElem?_eq_some_iff.1 HRD5.out).1
   have HSF := hide (sameFunc_any f W5 S (fun b => W1.heap.size ≤ b) S (fun b => W1.heap.size ≤ b) A A2 B B2 n2 k k2 m2 j j2 (HP1.out.belowAll HB15.out) (HS3.out.belowAll HB5.out) (HBK1.out.belowAll HB15.out) (HS4.out.belowAll HB5.out))
   have HV5 := hide (show VarsP W5 from HV1.out.below HB15.out HV1.out.v.sz)
   have HB05 := hide (HB01.out.trans (HB15.out.mono hbl1))
   have hbl5 : W1.heap.size ≤ W5.heap.size := HB15.out.size
   have g7 : IntKind.i64.wrap ((tn : Int) + 1) = (tn : Int) + 1 := IntWalk.i64_in _ (by omega)
   have g8 : 1 + (tn : Int) = (tn : Int) + 1 := by omega
   obtain ⟨pk, hpk, hpk2⟩ : ∃ pk : Nat, pickI cut 2 = (pk : Int) ∧ pk ≤ 1 := by
    rcases pick_two cut with h | h
    ·exact ⟨0, h, by omega⟩
    ·exact ⟨1, h, by omega⟩
   have HPK := hide (fun W => show Calls Tryz.prog 18 #[.int .i64 cut, .int .i64 2] W (Ret (.int .i64 (pk : Int)) W) from hpk ▸ pick_any cut 2 W HCI.out (by unfold InI; decide))
   clear hW5 HB4 HPB HB3 HB5 HRD HS3 HS4 HV3 hD3 HR1 hpk
   rcases HEE.out with rfl | rfl
   all_goals
    clear HEE
    go_wp2_with (go_at_call 16; (with_reducible refine HSF.out.mono ?_); rintro e _ ⟨rfl, u9, rfl⟩)
    go_loop [18, 19, 20] (fun v1 v2 _ => ∃ q : Nat, v1 = .string (cutN q TX) ∧ v2 = .int .i64 q ∧ q ≤ 1 + pk) (fun _ i _ => 1 + pk - (intOf i).toNat)
    case atStart => exact ⟨0, rfl, rfl, Nat.zero_le _⟩
    case round =>
     obtain ⟨q, rfl, rfl, hq⟩ := hrel
     by_cases hlt : q < 1 + pk
     ·have g9 : (q : Int) < 1 + (pk : Int) := by omega
      obtain ⟨s, hs⟩ : ∃ s, cutN q TX = s := ⟨_, rfl⟩
      have hsz : 1 ≤ s.size := by
       rw [← hs]
       rcases (by omega : q = 0 ∨ q = 1) with rfl | rfl
       ·exact HCF.out.1
       ·exact HCF.out.2.1
      have HSN := hide (show cutN (q + 1) TX = mkB (s.data.toList.take (endL s.data.toList (s.size - 1))) from by rw [← hs]; rfl)
      have hsl : s.size ≤ 100000 := by
       have h0 := HTZ.out
       rw [← hs]
       rcases (by omega : q = 0 ∨ q = 1) with rfl | rfl
       ·exact h0
       ·show (cutB TX).size ≤ _
        unfold cutB
        rw [mkB_size, List.length_take, ← size_list4]
        omega
      rw [hs]
      clear hs
      go_wp2_with (go_at_call 18; (with_reducible refine (HPK.out _).mono ?_); rintro e _ ⟨rfl, rfl⟩)
      obtain ⟨E, hE⟩ : ∃ E, endL s.data.toList (s.size - 1) = E := ⟨_, rfl⟩
      rw [hE] at HSN
      have HEQ := hide hE
      have hEle : E ≤ s.size - 1 := by rw [← hE]; exact endL_le _ _
      clear hE
      go_loop [20] (fun v => ∃ e : Nat, v = .int .i64 e ∧ e ≤ s.size - 1 ∧ endL s.data.toList e = E) (fun v => (intOf v).toNat)
      case atStart => exact ⟨s.size - 1, by congr 1; omega, Nat.le_refl _, HEQ.out⟩
      case round =>
       obtain ⟨e, rfl, he, hen⟩ := hrel
       have HEN := hide hen
       clear hen
       cases e with
       | zero =>
        have hE0 : E = 0 := HEN.out.symm
        go_wp2_with fail
        go_round
        case rel => exact ⟨q + 1, by rw [HSN.out, hE0]; rfl, by go_num, by omega⟩
        case measure => simp [intOf]; omega
       | succ e =>
        have hes : e < s.size := by omega
        have hel : e < s.data.toList.length := by rw [← size_list4]; exact hes
        obtain ⟨c, hc⟩ : ∃ c, s.data.toList[e]? = some c := ⟨_, List.getElem?_eq_getElem hel⟩
        have HBY := hide (byte_at hc hes)
        have HES := hide (show endL s.data.toList (e + 1) = if c = 10 then e + 1 else endL s.data.toList e from by
         show (if s.data.toList[e]? = some 10 then e + 1 else endL s.data.toList e) = _
         rw [hc]
         by_cases h : c = 10
         ·rw [if_pos h, if_pos (by rw [h])]
         ·rw [if_neg h, if_neg (fun e => h (Option.some.inj e))])
        have p1 : ((e + 1 : Nat) : Int) - 1 = (e : Int) := by omega
        have p2 : ((e : Int) + 1) - 1 = (e : Int) := by omega
        have p3 : IntKind.i64.wrap (e : Int) = (e : Int) := IntWalk.i64_in _ (by omega)
        have p4 : (0 : Int) < (e : Int) + 1 := by omega
        have p5 : (e : Int) < s.size := by omega
        clear hc hel
        cases q10 : ((s[e].toNat : Int) == 10) with
        | true =>
         have hE1 : E = e + 1 := by
          have hc10 : c = 10 := by rw [← HBY.out]; exact UInt8.toNat_inj.1 (by have := beq_iff_eq.1 q10; show _ = 10; omega)
          rw [← HEN.out, HES.out, if_pos hc10]
         go_wp2_with fail
         go_round
         case rel => exact ⟨q + 1, by rw [HSN.out, hE1, show (max ((e : Int) + 1) 0).toNat = e + 1 by omega, ext_take], by go_num, by omega⟩
         case measure => simp [intOf]; omega
        | false =>
         have hE1 : endL s.data.toList e = E := by
          have hc10 : ¬ c = 10 := by rintro rfl; rw [HBY.out] at q10; exact absurd q10 (by decide)
          rw [← HEN.out, HES.out, if_neg hc10]
         have HE1 := hide hE1
         clear hE1
         go_wp2_with fail
         go_round
         case rel => exact ⟨e, by go_num, by omega, HE1.out⟩
         case measure => simp [intOf]
     ·have hqe : q = 1 + pk := by omega
      subst hqe
      have g9 : ¬ ((1 + pk : Nat) : Int) < 1 + (pk : Int) := by omega
      have HJ := hide (show f.blocks.length ≤ 1 → (parse04 false (cutN (1 + pk) TX)).2.2.2 ≠ 0 from fun h => by
       rcases (by omega : pk = 0 ∨ pk = 1) with rfl | rfl
       ·exact (HCF.out.2.2 h).1
       ·exact (HCF.out.2.2 h).2)
      obtain ⟨sh, hsh⟩ : ∃ s, cutN (1 + pk) TX = s := ⟨_, rfl⟩
      rw [hsh] at HJ ⊢
      obtain ⟨⟨f4, l4, c4, e4⟩, hr⟩ : ∃ r, parse04 false sh = r := ⟨_, rfl⟩
      rw [hr] at HJ
      have HPS := hide (show Calls Tryz.prog 14 #[.string sh] (W5.ext u9) (FncP (f4, l4, c4, e4) (W5.ext u9)) from hr ▸ parse04_any sh (W5.ext u9) (HV5.out.ext u9))
      have HRX := hide (ext_row u9 HRC5.out)
      clear hr hsh
      have hq1 : (e4 != 0) = true ∨ ((e4 != 0) = false ∧ decide ((1 : Int) < (m2 : Int)) = true) := by
       by_cases h : e4 = 0
       ·right
        refine ⟨by simp [h], ?_⟩
        have : ¬ f.blocks.length ≤ 1 := fun hl => HJ.out hl h
        rw [HLM.out] at this
        simp; omega
       ·left; simpa using h
      rcases hq1 with q4 | ⟨q4, q5⟩
      all_goals
       go_wp2_with (first | (go_at_call 18; (with_reducible refine (HPK.out _).mono ?_); rintro e _ ⟨rfl, rfl⟩) | (go_at_call 14; (with_reducible refine HPS.out.mono ?_); rintro e W6 ⟨A4, n4, k4, B4, m4, j4, rfl, hp, hb, hw⟩; dsimp only; have HB6 := hide hw; have HR6 := hide ((HB6.out.block C (by rw [size_ext]; omega)).trans HRX.out); have b1 : W6.cell? ⟨C, 1, none⟩ = some (.slice B m2 j) := cell_of_row W6 C _ _ _ (0, 0) HR6.out; have clx : C < W6.heap.size := (Array.getElem?_eq_some_iff.1 HR6.out).1; clear hp hb hw))
       go_ret
       have hs6 := HB6.out.size
       rw [size_ext] at hs6
       exact RetX.b rfl (((HB05.out.ext (by omega) u9).trans (HB6.out.mono (by rw [size_ext]; omega))).alloc (by omega) _)
end Go.Proofs.YtljglhaeonbfoaaGreatDoor
