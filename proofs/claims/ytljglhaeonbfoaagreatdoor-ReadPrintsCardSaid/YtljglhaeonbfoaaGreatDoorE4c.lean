/- law04: walks: the document's instructions: are they right? -/
import Derived.Test.YtljglhaeonbfoaaGreatDoorG50
import Derived.Test.YtljglhaeonbfoaaGreatDoorG28
set_option linter.unusedSimpArgs false
set_option linter.unusedVariables false
namespace Go.Proofs.YtljglhaeonbfoaaGreatDoor
open Go.RowKit
theorem hasS_split (o : Int) : (o = 1 ∨ o = 11 ∨ o = 12 ∨ o = 13 ∨ o = 14) ∨ (2 ≤ o ∧ o ≤ 10) ∨ (o < 1 ∨ 14 < o) := by omega
theorem hasS_mid {o : Int} (h : 2 ≤ o ∧ o ≤ 10) : hasS o = [100, 97, 98] := by unfold hasS; rw [if_neg (by omega), if_pos h]
theorem hasS_out {o : Int} (h : o < 1 ∨ 14 < o) : hasS o = [] := by unfold hasS; rw [if_neg (by omega), if_neg (by omega), if_neg (by omega), if_neg (by omega), if_neg (by omega), if_neg (by omega)]
theorem hasS_d (o : Int) : (hasS o).contains (UInt8.ofNat 100) = hasD04 o := by
 rcases hasS_split o with (rfl | rfl | rfl | rfl | rfl) | h | h
 ·rfl
 ·rfl
 ·rfl
 ·rfl
 ·rfl
 ·rw [hasS_mid h, (hasD04_iff o).2 (by omega)]; rfl
 ·rw [hasS_out h]; have : ¬ hasD04 o = true := fun e => by have := (hasD04_iff o).1 e; omega
  simpa using this
theorem hasS_a (o : Int) : (hasS o).contains (UInt8.ofNat 97) = hasA04 o := by
 rcases hasS_split o with (rfl | rfl | rfl | rfl | rfl) | h | h
 ·rfl
 ·rfl
 ·rfl
 ·rfl
 ·rfl
 ·rw [hasS_mid h, (hasA04_iff o).2 (by omega)]; rfl
 ·rw [hasS_out h]; have : ¬ hasA04 o = true := fun e => by have := (hasA04_iff o).1 e; omega
  simpa using this
theorem hasS_b (o : Int) : (hasS o).contains (UInt8.ofNat 98) = hasB04 o := by
 rcases hasS_split o with (rfl | rfl | rfl | rfl | rfl) | h | h
 ·rfl
 ·rfl
 ·rfl
 ·rfl
 ·rfl
 ·rw [hasS_mid h, (hasB04_iff o).2 (by omega)]; rfl
 ·rw [hasS_out h]; have : ¬ hasB04 o = true := fun e => by have := (hasB04_iff o).1 e; omega
  simpa using this
theorem hasS_i (o : Int) : (hasS o).contains (UInt8.ofNat 105) = hasI04 o := by
 rcases hasS_split o with (rfl | rfl | rfl | rfl | rfl) | h | h
 ·rfl
 ·rfl
 ·rfl
 ·rfl
 ·rfl
 ·rw [hasS_mid h]; have : ¬ hasI04 o = true := fun e => by have := (hasI04_iff o).1 e; omega
  rw [show hasI04 o = false by simpa using this]; rfl
 ·rw [hasS_out h]; have : ¬ hasI04 o = true := fun e => by have := (hasI04_iff o).1 e; omega
  simpa using this
theorem hasS_none (o : Int) : (hasS o == []) = !(decide (1 ≤ o) && decide (o ≤ 14)) := by
 rcases hasS_split o with (rfl | rfl | rfl | rfl | rfl) | h | h
 ·rfl
 ·rfl
 ·rfl
 ·rfl
 ·rfl
 ·rw [hasS_mid h, show decide (1 ≤ o) = true by simp; omega, show decide (o ≤ 14) = true by simp; omega]; rfl
 ·rw [hasS_out h]
  have : (decide (1 ≤ o) && decide (o ≤ 14)) = false := by simp; omega
  rw [this]; rfl
theorem hasS_call (o : Int) : (hasS o == [99]) = (o == 13) := by
 rcases hasS_split o with (rfl | rfl | rfl | rfl | rfl) | h | h
 ·rfl
 ·rfl
 ·rfl
 ·rfl
 ·rfl
 ·rw [hasS_mid h, show (o == 13) = false by simp; omega]; rfl
 ·rw [hasS_out h, show (o == 13) = false by simp; omega]; rfl
set_option maxRecDepth 100000 in
set_option maxHeartbeats 16000000 in
theorem isIns3_any (x : Ins) (w : World) (S : Nat → Prop) (A : Option Addr) (n c : Nat) (h : Sl w S A n c x.args) : Calls Tryz.prog 76 #[insV x A n c] w (RetX (.bool (insB x)) w) := by
 obtain ⟨o, d, a, b, m, k, args, q⟩ := x
 simp only at h
 obtain ⟨C, hC⟩ : ∃ C, w.heap.size = C := ⟨_, rfl⟩
 obtain ⟨W0, hW0⟩ : ∃ W, w.alloc (.cells #[.int .i64 o, .int .i64 d, .int .i64 a, .int .i64 b, .int .i64 m, .int .i64 k, .slice A n c, .int .i64 q] 45) = W := ⟨_, rfl⟩
 have hrow : W0.heap[C]? = some (.cells #[.int .i64 o, .int .i64 d, .int .i64 a, .int .i64 b, .int .i64 m, .int .i64 k, .slice A n c, .int .i64 q] 45 (0, 0)) := by rw [← hW0, ← hC]; exact heap_alloc_new w _
 have c0 : W0.cell? ⟨C, 0, none⟩ = some (.int .i64 o) := cell_of_row W0 C _ _ _ (0, 0) hrow
 have c1 : W0.cell? ⟨C, 1, none⟩ = some (.int .i64 d) := cell_of_row W0 C _ _ _ (0, 0) hrow
 have c2 : W0.cell? ⟨C, 2, none⟩ = some (.int .i64 a) := cell_of_row W0 C _ _ _ (0, 0) hrow
 have c3 : W0.cell? ⟨C, 3, none⟩ = some (.int .i64 b) := cell_of_row W0 C _ _ _ (0, 0) hrow
 have c4 : W0.cell? ⟨C, 4, none⟩ = some (.int .i64 m) := cell_of_row W0 C _ _ _ (0, 0) hrow
 have c5 : W0.cell? ⟨C, 5, none⟩ = some (.int .i64 k) := cell_of_row W0 C _ _ _ (0, 0) hrow
 have c6 : W0.cell? ⟨C, 6, none⟩ = some (.slice A n c) := cell_of_row W0 C _ _ _ (0, 0) hrow
 have c7 : W0.cell? ⟨C, 7, none⟩ = some (.int .i64 q) := cell_of_row W0 C _ _ _ (0, 0) hrow
 have cl : C < W0.heap.size := (Array.getElem?_eq_some_iff.1 hrow).1
 have HB0 := hide (show Below w.heap.size w W0 from by rw [← hW0]; exact (Below.refl _ _).alloc (Nat.le_refl _) _)
 have HSL := hide (show Sl W0 S A n c args from by rw [← hW0]; exact h.alloc _)
 have hnle := h.nle
 have HLN := hide h.len
 obtain ⟨s, hs⟩ : ∃ s : ByteArray, (⟨(hasS o).toArray⟩ : ByteArray) = s := ⟨_, rfl⟩
 have HH := hide (show Calls Tryz.prog 124 #[.int .i64 o] W0 (Ret (.string s) W0) from hs ▸ has3_any o W0)
 obtain ⟨pa, hpa⟩ : ∃ p, fits04 (hasA04 o) a = p := ⟨_, rfl⟩
 obtain ⟨pb, hpb⟩ : ∃ p, fits04 (hasB04 o) b = p := ⟨_, rfl⟩
 obtain ⟨pd, hpd⟩ : ∃ p, fits04 (hasD04 o) d = p := ⟨_, rfl⟩
 obtain ⟨hi, hhi⟩ : ∃ p, hasI04 o = p := ⟨_, rfl⟩
 have HPA := hide (show Calls Tryz.prog 125 #[.string s, .int .u8 97, .int .i64 a] W0 (Ret (.bool pa) W0) from by
  have h := part3_any (hasS o) 97 (by decide) (hasS_len o) a W0
  rw [hasS_a, hs, hpa] at h; exact h)
 have HPB := hide (show Calls Tryz.prog 125 #[.string s, .int .u8 98, .int .i64 b] W0 (Ret (.bool pb) W0) from by
  have h := part3_any (hasS o) 98 (by decide) (hasS_len o) b W0
  rw [hasS_b, hs, hpb] at h; exact h)
 have HPD := hide (show Calls Tryz.prog 125 #[.string s, .int .u8 100, .int .i64 d] W0 (Ret (.bool pd) W0) from by
  have h := part3_any (hasS o) 100 (by decide) (hasS_len o) d W0
  rw [hasS_d, hs, hpd] at h; exact h)
 have HIN := hide (show Calls Tryz.prog 126 #[.string s, .int .u8 105] W0 (Ret (.bool hi) W0) from by
  have h := in3_any (hasS o) 105 (by decide) (hasS_len o) W0
  rw [hasS_i, hs, hhi] at h; exact h)
 obtain ⟨e0, he0⟩ : ∃ p, s.toList.isEmpty = p := ⟨_, rfl⟩
 obtain ⟨ec, hec⟩ : ∃ p, (s.toList == [99]) = p := ⟨_, rfl⟩
 have HE0 := hide (show e0 = !(decide (1 ≤ o) && decide (o ≤ 14)) from by rw [← he0, ← hs, ← hasS_none, ByteArray.toList_eq]; show (hasS o).isEmpty = _; cases hasS o <;> rfl)
 have HEC := hide (show ec = (o == 13) from by rw [← hec, ← hs, ← hasS_call, ByteArray.toList_eq])
 obtain ⟨vd, hvd⟩ : ∃ p, vOk d = p := ⟨_, rfl⟩
 have HVD := hide (show Calls Tryz.prog 74 #[.int .i64 d] W0 (Ret (.bool vd) W0) from hvd ▸ var3_any d W0)
 obtain ⟨mq, hmq⟩ : ∃ p, (q == 0) = p := ⟨_, rfl⟩
 have hmq' : (q != 0) = !mq := by rw [bne, hmq]
 obtain ⟨im, him⟩ : ∃ p, (m == 0) = p := ⟨_, rfl⟩
 have HIQ := hide (show insB ⟨o, d, a, b, m, k, args, q⟩ = (!e0 && mq && if ec = true then ((a == 0 && b == 0 && im) && (decide (0 ≤ k) && decide (k ≤ 99)) && ((d == 0) || vd) && decide ((n : Int) ≤ 8) && args.all vOk) else ((hi || im) && immOk m && (k == 0) && (n == 0) && pd && pa && pb)) from by
  unfold insB
  simp only
  rw [HE0.out, Bool.not_not, hmq, HEC.out, hhi, hpd, hpa, hpb, him]
  have hf : fits04 (d != 0) d = ((d == 0) || vd) := by
   unfold fits04
   rw [bne, ← hvd]
   cases h : (d == 0) <;> simp
  rw [hf]
  have h8 : decide (args.length ≤ 8) = decide ((n : Int) ≤ 8) := by rw [HLN.out, Bool.eq_iff_iff]; simp; try omega
  have hz : decide (args = []) = (n == 0) := by
   rw [← HLN.out, Bool.eq_iff_iff]
   simp [List.length_eq_zero_iff]
  rw [h8, hz]
  by_cases h13 : o = 13
  ·rw [if_pos h13, if_pos (by simpa using h13)]
  ·rw [if_neg h13, if_neg (by simpa using h13)])
 have HPX := hide (show ec = true → pa = (a == 0) ∧ pb = (b == 0) from fun h => by
  rw [HEC.out] at h
  have h13 : o = 13 := by simpa using h
  subst h13
  exact ⟨by rw [← hpa]; rfl, by rw [← hpb]; rfl⟩)
 clear hrow h hs hpa hpb hpd hhi hvd HE0 HEC
 generalize insB ⟨o, d, a, b, m, k, args, q⟩ = R at HIQ ⊢
 cases e0 with
 | true =>
  have HR := hide (show R = false from by rw [HIQ.out]; rfl)
  go_enter Tryz.func76, Tryz.ntmps76
  go_wp2_with (go_at_call 124; (with_reducible refine HH.out.mono ?_); rintro e w' ⟨rfl, rfl⟩)
  all_goals
   go_ret
   exact RetX.b HR.out.symm HB0.out
 | false =>
 cases mq with
 | false =>
  have HR := hide (show R = false from by rw [HIQ.out]; rfl)
  go_enter Tryz.func76, Tryz.ntmps76
  go_wp2_with (go_at_call 124; (with_reducible refine HH.out.mono ?_); rintro e w' ⟨rfl, rfl⟩)
  go_ret
  exact RetX.b HR.out.symm HB0.out
 | true =>
 by_cases hpp : pa = true ∧ pb = true
 case neg =>
  have HR := hide (show R = false from by
   rw [HIQ.out]
   cases hc : ec with
   | true =>
    obtain ⟨h1, h2⟩ := HPX.out hc
    rw [← h1, ← h2]
    cases pa <;> cases pb <;> simp at hpp ⊢
   | false => cases pa <;> cases pb <;> simp at hpp ⊢)
  clear HIQ HPX
  cases pa with
  | false =>
   go_enter Tryz.func76, Tryz.ntmps76
   go_wp2_with (first | (go_at_call 124; (with_reducible refine HH.out.mono ?_); rintro e w' ⟨rfl, rfl⟩) | (go_at_call 125; (with_reducible refine HPA.out.mono ?_); rintro e w' ⟨rfl, rfl⟩))
   go_ret
   exact RetX.b HR.out.symm HB0.out
  | true =>
   have hpb : pb = false := by cases pb <;> simp at hpp ⊢
   subst hpb
   go_enter Tryz.func76, Tryz.ntmps76
   go_wp2_with (first | (go_at_call 124; (with_reducible refine HH.out.mono ?_); rintro e w' ⟨rfl, rfl⟩) | (go_at_call 125; (with_reducible refine HPA.out.mono ?_); rintro e w' ⟨rfl, rfl⟩) | (go_at_call 125; (with_reducible refine HPB.out.mono ?_); rintro e w' ⟨rfl, rfl⟩))
   go_ret
   exact RetX.b HR.out.symm HB0.out
 obtain ⟨rfl, rfl⟩ := hpp
 cases ec with
 | true =>
  obtain ⟨h1, h2⟩ := HPX.out rfl
  have HR := hide (show R = (im && (decide (0 ≤ k) && decide (k ≤ 99)) && ((d == 0) || vd) && decide ((n : Int) ≤ 8) && args.all vOk) from by
   rw [HIQ.out, ← h1, ← h2]; simp)
  clear h1 h2 HIQ HPX
  go_enter Tryz.func76, Tryz.ntmps76
  go_wp2_with (first | (go_at_call 124; (with_reducible refine HH.out.mono ?_); rintro e w' ⟨rfl, rfl⟩) | (go_at_call 125; (with_reducible refine HPA.out.mono ?_); rintro e w' ⟨rfl, rfl⟩) | (go_at_call 125; (with_reducible refine HPB.out.mono ?_); rintro e w' ⟨rfl, rfl⟩))
  go_loop [4] (fun v => ∃ j : Nat, v = .int .i64 j ∧ j ≤ n ∧ args.all vOk = (args.drop j).all vOk) (fun v => n - (intOf v).toNat)
  case atStart => exact ⟨0, rfl, Nat.zero_le _, rfl⟩
  case round =>
   obtain ⟨j, rfl, hj, hrj⟩ := hrel
   have HRJ := hide hrj
   clear hrj
   by_cases hlt : j < n
   ·obtain ⟨bb, off, z, rfl, hbb, hz, hzi, d0⟩ := at_int HSL.out hlt
    have HZD := hide (drop_at hz)
    have ji : (j : Int) < n := by omega
    clear hz
    obtain ⟨vz, hvz⟩ : ∃ p, vOk z = p := ⟨_, rfl⟩
    have HVZ := hide (show Calls Tryz.prog 74 #[.int .i64 z] W0 (Ret (.bool vz) W0) from hvz ▸ var3_any z W0)
    have HNX := hide (show args.all vOk = (vz && (args.drop (j + 1)).all vOk) from by rw [HRJ.out, HZD.out, List.all_cons, hvz])
    clear hvz
    cases vz with
    | true =>
     go_wp2_with (go_at_call 74; (with_reducible refine HVZ.out.mono ?_); rintro e w' ⟨rfl, rfl⟩)
     go_round
     case rel => exact ⟨j + 1, by go_num, by omega, by rw [HNX.out]; rfl⟩
     case measure => simp [intOf]; omega
    | false =>
     have HRF := hide (show R = false from by rw [HR.out, HNX.out]; simp)
     go_wp2_with (go_at_call 74; (with_reducible refine HVZ.out.mono ?_); rintro e w' ⟨rfl, rfl⟩)
     go_ret
     exact RetX.b HRF.out.symm HB0.out
   ·have ji : ¬ (j : Int) < n := by omega
    have HAL := hide (show args.all vOk = true from by rw [HRJ.out, drop_end HLN.out hlt]; rfl)
    have HR2 := hide (show R = (im && (decide (0 ≤ k) && decide (k ≤ 99)) && ((d == 0) || vd) && decide ((n : Int) ≤ 8)) from by rw [HR.out, HAL.out]; simp)
    obtain ⟨l8, h8⟩ : ∃ p, decide ((n : Int) ≤ 8) = p := ⟨_, rfl⟩
    obtain ⟨k0, hk0⟩ : ∃ p, decide (0 ≤ k) = p := ⟨_, rfl⟩
    obtain ⟨k9, hk9⟩ : ∃ p, decide (k ≤ 99) = p := ⟨_, rfl⟩
    obtain ⟨d0, hd0⟩ : ∃ p, (d == 0) = p := ⟨_, rfl⟩
    have HR3 := hide (show R = (im && (k0 && k9) && (d0 || vd) && l8) from by rw [HR2.out, h8, hk0, hk9, hd0])
    clear HR HR2 HAL
    cases l8 with
    | false =>
     go_wp2_with fail
     go_ret
     exact RetX.b (by rw [HR3.out]; simp) HB0.out
    | true =>
    cases k0 with
    | false =>
     go_wp2_with fail
     go_ret
     exact RetX.b (by rw [HR3.out]; simp) HB0.out
    | true =>
    cases k9 with
    | false =>
     go_wp2_with fail
     go_ret
     exact RetX.b (by rw [HR3.out]; simp) HB0.out
    | true =>
    cases d0 with
    | true =>
     go_wp2_with fail
     go_ret
     exact RetX.b (by rw [HR3.out]; simp) HB0.out
    | false =>
     cases vd
     all_goals
      go_wp2_with (go_at_call 74; (with_reducible refine HVD.out.mono ?_); rintro e w' ⟨rfl, rfl⟩)
      go_ret
      exact RetX.b (by rw [HR3.out]; simp) HB0.out
 | false =>
  obtain ⟨m1, hm1⟩ : ∃ p, decide (-1099511627776 ≤ m) = p := ⟨_, rfl⟩
  obtain ⟨m2, hm2⟩ : ∃ p, decide (m ≤ 1099511627776) = p := ⟨_, rfl⟩
  obtain ⟨kz, hkz⟩ : ∃ p, (k == 0) = p := ⟨_, rfl⟩
  obtain ⟨nz, hnz⟩ : ∃ p, (n == 0) = p := ⟨_, rfl⟩
  have hnz' : ((n : Int) == 0) = nz := by rw [← hnz, Bool.eq_iff_iff]; simp
  have HR := hide (show R = ((hi || im) && (m1 && m2) && kz && nz && pd) from by
   rw [HIQ.out, hkz, hnz, show immOk m = (m1 && m2) from by rw [← hm1, ← hm2]; rfl]
   simp)
  have HIM := hide (show im = true → m1 = true ∧ m2 = true from fun h => by
   rw [h] at him
   have : m = 0 := by simpa using him
   subst this
   exact ⟨hm1 ▸ rfl, hm2 ▸ rfl⟩)
  clear HIQ HPX hnz
  cases im with
  | true =>
   obtain ⟨rfl, rfl⟩ := HIM.out rfl
   cases pd with
   | false =>
    go_enter Tryz.func76, Tryz.ntmps76
    go_wp2_with (first | (go_at_call 124; (with_reducible refine HH.out.mono ?_); rintro e w' ⟨rfl, rfl⟩) | (go_at_call 125; (with_reducible refine HPA.out.mono ?_); rintro e w' ⟨rfl, rfl⟩) | (go_at_call 125; (with_reducible refine HPB.out.mono ?_); rintro e w' ⟨rfl, rfl⟩) | (go_at_call 125; (with_reducible refine HPD.out.mono ?_); rintro e w' ⟨rfl, rfl⟩))
    go_ret
    exact RetX.b (by rw [HR.out]; simp) HB0.out
   | true =>
    cases kz
    all_goals
     go_enter Tryz.func76, Tryz.ntmps76
     go_wp2_with (first | (go_at_call 124; (with_reducible refine HH.out.mono ?_); rintro e w' ⟨rfl, rfl⟩) | (go_at_call 125; (with_reducible refine HPA.out.mono ?_); rintro e w' ⟨rfl, rfl⟩) | (go_at_call 125; (with_reducible refine HPB.out.mono ?_); rintro e w' ⟨rfl, rfl⟩) | (go_at_call 125; (with_reducible refine HPD.out.mono ?_); rintro e w' ⟨rfl, rfl⟩))
     go_ret
     exact RetX.b (by rw [HR.out]; simp) HB0.out
  | false =>
   clear HIM
   cases hi with
   | false =>
    cases pd
    all_goals
     go_enter Tryz.func76, Tryz.ntmps76
     go_wp2_with (first | (go_at_call 124; (with_reducible refine HH.out.mono ?_); rintro e w' ⟨rfl, rfl⟩) | (go_at_call 126; (with_reducible refine HIN.out.mono ?_); rintro e w' ⟨rfl, rfl⟩) | (go_at_call 125; (with_reducible refine HPA.out.mono ?_); rintro e w' ⟨rfl, rfl⟩) | (go_at_call 125; (with_reducible refine HPB.out.mono ?_); rintro e w' ⟨rfl, rfl⟩) | (go_at_call 125; (with_reducible refine HPD.out.mono ?_); rintro e w' ⟨rfl, rfl⟩))
     go_ret
     exact RetX.b (by rw [HR.out]; simp) HB0.out
   | true =>
   cases m1 with
   | false =>
    cases pd
    all_goals
     go_enter Tryz.func76, Tryz.ntmps76
     go_wp2_with (first | (go_at_call 124; (with_reducible refine HH.out.mono ?_); rintro e w' ⟨rfl, rfl⟩) | (go_at_call 126; (with_reducible refine HIN.out.mono ?_); rintro e w' ⟨rfl, rfl⟩) | (go_at_call 125; (with_reducible refine HPA.out.mono ?_); rintro e w' ⟨rfl, rfl⟩) | (go_at_call 125; (with_reducible refine HPB.out.mono ?_); rintro e w' ⟨rfl, rfl⟩) | (go_at_call 125; (with_reducible refine HPD.out.mono ?_); rintro e w' ⟨rfl, rfl⟩))
     go_ret
     exact RetX.b (by rw [HR.out]; simp) HB0.out
   | true =>
   cases m2 <;> cases pd <;> cases kz
   all_goals
    go_enter Tryz.func76, Tryz.ntmps76
    go_wp2_with (first | (go_at_call 124; (with_reducible refine HH.out.mono ?_); rintro e w' ⟨rfl, rfl⟩) | (go_at_call 126; (with_reducible refine HIN.out.mono ?_); rintro e w' ⟨rfl, rfl⟩) | (go_at_call 125; (with_reducible refine HPA.out.mono ?_); rintro e w' ⟨rfl, rfl⟩) | (go_at_call 125; (with_reducible refine HPB.out.mono ?_); rintro e w' ⟨rfl, rfl⟩) | (go_at_call 125; (with_reducible refine HPD.out.mono ?_); rintro e w' ⟨rfl, rfl⟩))
    go_ret
    exact RetX.b (by rw [HR.out]; simp) HB0.out
end Go.Proofs.YtljglhaeonbfoaaGreatDoor
