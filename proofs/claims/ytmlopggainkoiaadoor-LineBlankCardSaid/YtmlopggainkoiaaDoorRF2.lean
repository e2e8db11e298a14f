/- The document's at: the walk. -/
import Derived.Test.YtmlopggainkoiaaDoorRF1
set_option linter.unusedSimpArgs false
set_option linter.unusedVariables false
namespace Go.Proofs.YtmlopggainkoiaaDoor
open Go.RowKit

theorem get_elem {s : ByteArray} {i : Nat} (h : i < s.size) : (s[i]'h) = s.get! i := by
  have := (get_drop (s := s) (pos := i) (List.drop_eq_getElem_cons (by simpa using h))).2.1
  rw [this]; rfl
theorem accR_bound (s : ByteArray) (i : Nat) (r0 : Int) (h0 : 0 ≤ r0) (h1 : r0 ≤ 31) : ∀ k, k ≤ 3 → contR s i k = true → 0 ≤ accR s i r0 k ∧ accR s i r0 k ≤ 31 * 64 ^ k + 64 ^ k - 1
  | 0, _, _ => by simp [accR]; omega
  | k + 1, hk, hc => by
    simp only [contR, Bool.and_eq_true, decide_eq_true_eq] at hc
    obtain ⟨h2, h3⟩ := accR_bound s i r0 h0 h1 k (by omega) hc.1
    simp only [accR, Int.pow_succ]
    omega
theorem contR_mono (s : ByteArray) (i : Nat) {j k : Nat} (h : j ≤ k) (hc : contR s i k = true) : contR s i j = true := by
  rw [contR_bytes] at hc ⊢
  exact fun a ha => hc a (by omega)
def RetAt (p : Nat × Nat) (w : World) (e : Ending) (w' : World) : Prop := e = .returned (.tuple #[.int .i32 p.1, .int .i64 p.2]) ∧ w = w'
theorem RetAt.of {p : Nat × Nat} {w : World} {a : Int} {b : Nat} (h : (a, b) = ((p.1 : Int), p.2)) : RetAt p w (.returned (.tuple #[.int .i32 a, .int .i64 b])) w := by
  injection h with h1 h2; subst h1 h2; exact ⟨rfl, rfl⟩
theorem RetAt.zero {p : Nat × Nat} {w : World} (h : p = (0, 0)) : RetAt p w (.returned (.tuple #[.int .i32 0, .int .i64 0])) w := by subst h; exact ⟨rfl, rfl⟩

set_option maxRecDepth 100000 in
set_option maxHeartbeats 40000000 in
theorem at_any (s : ByteArray) (i : Nat) (w : World) (hs : s.size ≤ 34359738368) (hi : i ≤ 34359738368) : Calls Tryd.prog 48 #[.string s, .int .i64 i] w (RetAt (atR s i) w) := by
  by_cases hlt : i < s.size
  · have hx0 := congrArg UInt8.toNat (get_elem hlt)
    have HB0 := hide (byte_lt (s.get! i))
    have HE2 := hide (slow_eq2 s i hlt); have HE3 := hide (slow_eq3 s i hlt); have HE4 := hide (slow_eq4 s i hlt)
    have HA := hide (@atR_ascii s i hlt); have HZ := hide (@atR_zero s i hlt)
    obtain ⟨c, hc⟩ : ∃ c, (s.get! i).toNat = c := ⟨_, rfl⟩
    rw [hc] at hx0 HB0 HE2 HE3 HE4 HA HZ
    clear hc
    by_cases ha : c < 128
    · go_enter Tryd.func48, Tryd.ntmps48
      go_wp2_with fail
      go_ret2
      rw [HA.out ha]
      exact ⟨rfl, rfl⟩
    by_cases h2 : 192 ≤ c ∧ c ≤ 223
    · have HEQ := hide (HE2.out h2.1 h2.2)
      obtain ⟨b1, b2⟩ := h2
      clear HE2 HE3 HE4 HA HZ
      have w2 : (decide ((192 : Int) ≤ (c : Int)) && decide ((c : Int) ≤ 223)) = true := by simp; omega
      have w3 : (decide ((224 : Int) ≤ (c : Int)) && decide ((c : Int) ≤ 239)) = false := by simp; omega
      have w4 : (decide ((240 : Int) ≤ (c : Int)) && decide ((c : Int) ≤ 247)) = false := by simp; omega
      by_cases hfit : i + 2 ≤ s.size
      · obtain ⟨r0, hr0⟩ : ∃ r0 : Int, (c : Int) - 192 = r0 := ⟨_, rfl⟩
        have hr0' : (c : Int) - 192 = r0 := hr0
        have HR0 := hide (show 0 ≤ r0 ∧ r0 ≤ 31 by omega)
        rw [hr0] at HEQ
        go_enter Tryd.func48, Tryd.ntmps48
        go_wp2_with (go_at_call 60; (with_reducible refine (within_any _ _ _ _).mono ?_); rintro e w' ⟨rfl, rfl⟩)
        clear hr0 hr0'
        go_loop [9, 10] (fun r k => ∃ j : Nat, j ≤ 1 ∧ r = .int .i32 (accR s i r0 j) ∧ k = .int .i64 (j + 1 : Nat) ∧ contR s i j = true) (fun _ k => 2 - (intOf k).toNat)
        case atStart => exact ⟨0, by omega, rfl, by go_num, rfl⟩
        case round =>
          obtain ⟨j, hj, rfl, rfl, hcont⟩ := hrel
          have HC := hide hcont
          have hab := accR_bound s i r0 HR0.out.1 HR0.out.2 j (by omega) hcont
          clear hcont
          have ha1 : accR s i r0 j ≤ 8388607 := by have := hab.2; rcases (show j = 0 ∨ j = 1 ∨ j = 2 ∨ j = 3 by omega) with rfl | rfl | rfl | rfl <;> omega
          have ha0 := hab.1; clear hab
          have HACC := hide (show accR s i r0 (j + 1) = 64 * accR s i r0 j + ((s.get! (i + (j + 1))).toNat : Int) - 128 from rfl)
          have HCONT := hide (show contR s i (j + 1) = (contR s i j && (decide (128 ≤ (s.get! (i + (j + 1))).toNat) && decide ((s.get! (i + (j + 1))).toNat ≤ 191))) from rfl)
          generalize hacc : accR s i r0 j = a at HACC ha0 ha1 ⊢
          by_cases hjm : j < 1
          · have hi2 : i + (j + 1) < s.size := by omega
            have hxj := congrArg UInt8.toNat (get_elem hi2)
            have hbj := byte_lt (s.get! (i + (j + 1)))
            generalize hx : (s.get! (i + (j + 1))).toNat = x at hxj hbj HACC HCONT
            have HX := hide hx; have HA0 := hide hacc; clear hx hacc
            have htn : ((i : Int) + ((j + 1 : Nat) : Int)).toNat = i + (j + 1) := by omega
            by_cases hcx : 128 ≤ x ∧ x ≤ 191
            · obtain ⟨x1, x2⟩ := hcx
              have wx : (decide ((128 : Int) ≤ (x : Int)) && decide ((x : Int) ≤ 191)) = true := by simp; omega
              go_wp2_with (go_at_call 60; (with_reducible refine (within_any _ _ _ _).mono ?_); rintro e w' ⟨rfl, rfl⟩)
              go_round
              case rel => exact ⟨j + 1, by omega, by rw [HACC.out], by go_num, by rw [HCONT.out, HC.out]; simp; omega⟩
              case measure => simp [intOf]; omega
            · have wx : (decide ((128 : Int) ≤ (x : Int)) && decide ((x : Int) ≤ 191)) = false := by simp; omega
              go_wp2_with (go_at_call 60; (with_reducible refine (within_any _ _ _ _).mono ?_); rintro e w' ⟨rfl, rfl⟩)
              go_ret2
              have hno : contR s i 1 = false := by
                cases hq : contR s i 1 with
                | false => rfl
                | true => have := contR_mono s i (show j + 1 ≤ 1 by omega) hq; rw [HCONT.out, HC.out] at this; simp at this; omega
              have hsl : slowR s i 2 128 r0 = (0, 0) := by unfold slowR; rw [if_pos (.inr hno)]
              rw [HEQ.out] at hsl
              refine RetAt.zero (Prod.ext ?_ ?_)
              · have := congrArg Prod.fst hsl; simp only at this ⊢; omega
              · exact (Prod.mk.inj hsl).2
          · obtain rfl : j = 1 := by omega
            have HA0 := hide hacc; clear hacc HACC HCONT
            have HSL := hide (show slowR s i 2 128 r0 = if a < 128 ∨ 1114111 < a ∨ (55296 ≤ a ∧ a ≤ 57343) then (0, 0) else (a, 2) by unfold slowR; rw [if_neg (by simp [HC.out]; omega), show (2 : Nat) - 1 = 1 from rfl, HA0.out])
            by_cases hbad : a < 128 ∨ 1114111 < a ∨ (55296 ≤ a ∧ a ≤ 57343)
            · have hsl : slowR s i 2 128 r0 = (0, 0) := by rw [HSL.out, if_pos hbad]
              rw [HEQ.out] at hsl
              have HZZ := hide (show atR s i = (0, 0) from Prod.ext (by have := congrArg Prod.fst hsl; simp only at this ⊢; omega) (Prod.mk.inj hsl).2)
              clear hsl HSL
              by_cases q1 : a < 128
              · clear hbad
                go_wp2_with (go_at_call 60; (with_reducible refine (within_any _ _ _ _).mono ?_); rintro e w' ⟨rfl, rfl⟩)
                go_ret2
                exact RetAt.zero HZZ.out
              · by_cases q2 : 1114111 < a
                · clear hbad
                  go_wp2_with (go_at_call 60; (with_reducible refine (within_any _ _ _ _).mono ?_); rintro e w' ⟨rfl, rfl⟩)
                  go_ret2
                  exact RetAt.zero HZZ.out
                · have wz : (decide ((55296 : Int) ≤ a) && decide (a ≤ 57343)) = true := by simp; omega
                  clear hbad
                  go_wp2_with (go_at_call 60; (with_reducible refine (within_any _ _ _ _).mono ?_); rintro e w' ⟨rfl, rfl⟩)
                  go_ret2
                  exact RetAt.zero HZZ.out
            · have hsl := HSL.out
              rw [if_neg hbad, HEQ.out] at hsl
              have HZZ := hide hsl.symm
              clear hsl HSL
              have q1 : ¬ a < 128 := by omega
              have q2 : ¬ 1114111 < a := by omega
              have wz : (decide ((55296 : Int) ≤ a) && decide (a ≤ 57343)) = false := by simp; omega
              clear hbad
              go_wp2_with (go_at_call 60; (with_reducible refine (within_any _ _ _ _).mono ?_); rintro e w' ⟨rfl, rfl⟩)
              go_ret2
              exact RetAt.of HZZ.out
      · go_enter Tryd.func48, Tryd.ntmps48
        go_wp2_with (go_at_call 60; (with_reducible refine (within_any _ _ _ _).mono ?_); rintro e w' ⟨rfl, rfl⟩)
        go_ret2
        refine RetAt.zero (Prod.ext ?_ ?_)
        · have := congrArg Prod.fst HEQ.out; simp only [slowR] at this; rw [if_pos (by omega)] at this; simp only at this ⊢; omega
        · have := congrArg Prod.snd HEQ.out; simp only [slowR] at this; rw [if_pos (by omega)] at this; exact this.symm
    by_cases h3 : 224 ≤ c ∧ c ≤ 239
    · have HEQ := hide (HE3.out h3.1 h3.2)
      obtain ⟨b1, b2⟩ := h3
      clear HE2 HE3 HE4 HA HZ
      have w2 : (decide ((192 : Int) ≤ (c : Int)) && decide ((c : Int) ≤ 223)) = false := by simp; omega
      have w3 : (decide ((224 : Int) ≤ (c : Int)) && decide ((c : Int) ≤ 239)) = true := by simp; omega
      have w4 : (decide ((240 : Int) ≤ (c : Int)) && decide ((c : Int) ≤ 247)) = false := by simp; omega
      by_cases hfit : i + 3 ≤ s.size
      · obtain ⟨r0, hr0⟩ : ∃ r0 : Int, (c : Int) - 224 = r0 := ⟨_, rfl⟩
        have hr0' : (c : Int) - 224 = r0 := hr0
        have HR0 := hide (show 0 ≤ r0 ∧ r0 ≤ 31 by omega)
        rw [hr0] at HEQ
        go_enter Tryd.func48, Tryd.ntmps48
        go_wp2_with (go_at_call 60; (with_reducible refine (within_any _ _ _ _).mono ?_); rintro e w' ⟨rfl, rfl⟩)
        clear hr0 hr0'
        go_loop [9, 10] (fun r k => ∃ j : Nat, j ≤ 2 ∧ r = .int .i32 (accR s i r0 j) ∧ k = .int .i64 (j + 1 : Nat) ∧ contR s i j = true) (fun _ k => 3 - (intOf k).toNat)
        case atStart => exact ⟨0, by omega, rfl, by go_num, rfl⟩
        case round =>
          obtain ⟨j, hj, rfl, rfl, hcont⟩ := hrel
          have HC := hide hcont
          have hab := accR_bound s i r0 HR0.out.1 HR0.out.2 j (by omega) hcont
          clear hcont
          have ha1 : accR s i r0 j ≤ 8388607 := by have := hab.2; rcases (show j = 0 ∨ j = 1 ∨ j = 2 ∨ j = 3 by omega) with rfl | rfl | rfl | rfl <;> omega
          have ha0 := hab.1; clear hab
          have HACC := hide (show accR s i r0 (j + 1) = 64 * accR s i r0 j + ((s.get! (i + (j + 1))).toNat : Int) - 128 from rfl)
          have HCONT := hide (show contR s i (j + 1) = (contR s i j && (decide (128 ≤ (s.get! (i + (j + 1))).toNat) && decide ((s.get! (i + (j + 1))).toNat ≤ 191))) from rfl)
          generalize hacc : accR s i r0 j = a at HACC ha0 ha1 ⊢
          by_cases hjm : j < 2
          · have hi2 : i + (j + 1) < s.size := by omega
            have hxj := congrArg UInt8.toNat (get_elem hi2)
            have hbj := byte_lt (s.get! (i + (j + 1)))
            generalize hx : (s.get! (i + (j + 1))).toNat = x at hxj hbj HACC HCONT
            have HX := hide hx; have HA0 := hide hacc; clear hx hacc
            have htn : ((i : Int) + ((j + 1 : Nat) : Int)).toNat = i + (j + 1) := by omega
            by_cases hcx : 128 ≤ x ∧ x ≤ 191
            · obtain ⟨x1, x2⟩ := hcx
              have wx : (decide ((128 : Int) ≤ (x : Int)) && decide ((x : Int) ≤ 191)) = true := by simp; omega
              go_wp2_with (go_at_call 60; (with_reducible refine (within_any _ _ _ _).mono ?_); rintro e w' ⟨rfl, rfl⟩)
              go_round
              case rel => exact ⟨j + 1, by omega, by rw [HACC.out], by go_num, by rw [HCONT.out, HC.out]; simp; omega⟩
              case measure => simp [intOf]; omega
            · have wx : (decide ((128 : Int) ≤ (x : Int)) && decide ((x : Int) ≤ 191)) = false := by simp; omega
              go_wp2_with (go_at_call 60; (with_reducible refine (within_any _ _ _ _).mono ?_); rintro e w' ⟨rfl, rfl⟩)
              go_ret2
              have hno : contR s i 2 = false := by
                cases hq : contR s i 2 with
                | false => rfl
                | true => have := contR_mono s i (show j + 1 ≤ 2 by omega) hq; rw [HCONT.out, HC.out] at this; simp at this; omega
              have hsl : slowR s i 3 2048 r0 = (0, 0) := by unfold slowR; rw [if_pos (.inr hno)]
              rw [HEQ.out] at hsl
              refine RetAt.zero (Prod.ext ?_ ?_)
              · have := congrArg Prod.fst hsl; simp only at this ⊢; omega
              · exact (Prod.mk.inj hsl).2
          · obtain rfl : j = 2 := by omega
            have HA0 := hide hacc; clear hacc HACC HCONT
            have HSL := hide (show slowR s i 3 2048 r0 = if a < 2048 ∨ 1114111 < a ∨ (55296 ≤ a ∧ a ≤ 57343) then (0, 0) else (a, 3) by unfold slowR; rw [if_neg (by simp [HC.out]; omega), show (3 : Nat) - 1 = 2 from rfl, HA0.out])
            by_cases hbad : a < 2048 ∨ 1114111 < a ∨ (55296 ≤ a ∧ a ≤ 57343)
            · have hsl : slowR s i 3 2048 r0 = (0, 0) := by rw [HSL.out, if_pos hbad]
              rw [HEQ.out] at hsl
              have HZZ := hide (show atR s i = (0, 0) from Prod.ext (by have := congrArg Prod.fst hsl; simp only at this ⊢; omega) (Prod.mk.inj hsl).2)
              clear hsl HSL
              by_cases q1 : a < 2048
              · clear hbad
                go_wp2_with (go_at_call 60; (with_reducible refine (within_any _ _ _ _).mono ?_); rintro e w' ⟨rfl, rfl⟩)
                go_ret2
                exact RetAt.zero HZZ.out
              · by_cases q2 : 1114111 < a
                · clear hbad
                  go_wp2_with (go_at_call 60; (with_reducible refine (within_any _ _ _ _).mono ?_); rintro e w' ⟨rfl, rfl⟩)
                  go_ret2
                  exact RetAt.zero HZZ.out
                · have wz : (decide ((55296 : Int) ≤ a) && decide (a ≤ 57343)) = true := by simp; omega
                  clear hbad
                  go_wp2_with (go_at_call 60; (with_reducible refine (within_any _ _ _ _).mono ?_); rintro e w' ⟨rfl, rfl⟩)
                  go_ret2
                  exact RetAt.zero HZZ.out
            · have hsl := HSL.out
              rw [if_neg hbad, HEQ.out] at hsl
              have HZZ := hide hsl.symm
              clear hsl HSL
              have q1 : ¬ a < 2048 := by omega
              have q2 : ¬ 1114111 < a := by omega
              have wz : (decide ((55296 : Int) ≤ a) && decide (a ≤ 57343)) = false := by simp; omega
              clear hbad
              go_wp2_with (go_at_call 60; (with_reducible refine (within_any _ _ _ _).mono ?_); rintro e w' ⟨rfl, rfl⟩)
              go_ret2
              exact RetAt.of HZZ.out
      · go_enter Tryd.func48, Tryd.ntmps48
        go_wp2_with (go_at_call 60; (with_reducible refine (within_any _ _ _ _).mono ?_); rintro e w' ⟨rfl, rfl⟩)
        go_ret2
        refine RetAt.zero (Prod.ext ?_ ?_)
        · have := congrArg Prod.fst HEQ.out; simp only [slowR] at this; rw [if_pos (by omega)] at this; simp only at this ⊢; omega
        · have := congrArg Prod.snd HEQ.out; simp only [slowR] at this; rw [if_pos (by omega)] at this; exact this.symm
    by_cases h4 : 240 ≤ c ∧ c ≤ 247
    · have HEQ := hide (HE4.out h4.1 h4.2)
      obtain ⟨b1, b2⟩ := h4
      clear HE2 HE3 HE4 HA HZ
      have w2 : (decide ((192 : Int) ≤ (c : Int)) && decide ((c : Int) ≤ 223)) = false := by simp; omega
      have w3 : (decide ((224 : Int) ≤ (c : Int)) && decide ((c : Int) ≤ 239)) = false := by simp; omega
      have w4 : (decide ((240 : Int) ≤ (c : Int)) && decide ((c : Int) ≤ 247)) = true := by simp; omega
      by_cases hfit : i + 4 ≤ s.size
      · obtain ⟨r0, hr0⟩ : ∃ r0 : Int, (c : Int) - 240 = r0 := ⟨_, rfl⟩
        have hr0' : (c : Int) - 240 = r0 := hr0
        have HR0 := hide (show 0 ≤ r0 ∧ r0 ≤ 31 by omega)
        rw [hr0] at HEQ
        go_enter Tryd.func48, Tryd.ntmps48
        go_wp2_with (go_at_call 60; (with_reducible refine (within_any _ _ _ _).mono ?_); rintro e w' ⟨rfl, rfl⟩)
        clear hr0 hr0'
        go_loop [9, 10] (fun r k => ∃ j : Nat, j ≤ 3 ∧ r = .int .i32 (accR s i r0 j) ∧ k = .int .i64 (j + 1 : Nat) ∧ contR s i j = true) (fun _ k => 4 - (intOf k).toNat)
        case atStart => exact ⟨0, by omega, rfl, by go_num, rfl⟩
        case round =>
          obtain ⟨j, hj, rfl, rfl, hcont⟩ := hrel
          have HC := hide hcont
          have hab := accR_bound s i r0 HR0.out.1 HR0.out.2 j (by omega) hcont
          clear hcont
          have ha1 : accR s i r0 j ≤ 8388607 := by have := hab.2; rcases (show j = 0 ∨ j = 1 ∨ j = 2 ∨ j = 3 by omega) with rfl | rfl | rfl | rfl <;> omega
          have ha0 := hab.1; clear hab
          have HACC := hide (show accR s i r0 (j + 1) = 64 * accR s i r0 j + ((s.get! (i + (j + 1))).toNat : Int) - 128 from rfl)
          have HCONT := hide (show contR s i (j + 1) = (contR s i j && (decide (128 ≤ (s.get! (i + (j + 1))).toNat) && decide ((s.get! (i + (j + 1))).toNat ≤ 191))) from rfl)
          generalize hacc : accR s i r0 j = a at HACC ha0 ha1 ⊢
          by_cases hjm : j < 3
          · have hi2 : i + (j + 1) < s.size := by omega
            have hxj := congrArg UInt8.toNat (get_elem hi2)
            have hbj := byte_lt (s.get! (i + (j + 1)))
            generalize hx : (s.get! (i + (j + 1))).toNat = x at hxj hbj HACC HCONT
            have HX := hide hx; have HA0 := hide hacc; clear hx hacc
            have htn : ((i : Int) + ((j + 1 : Nat) : Int)).toNat = i + (j + 1) := by omega
            by_cases hcx : 128 ≤ x ∧ x ≤ 191
            · obtain ⟨x1, x2⟩ := hcx
              have wx : (decide ((128 : Int) ≤ (x : Int)) && decide ((x : Int) ≤ 191)) = true := by simp; omega
              go_wp2_with (go_at_call 60; (with_reducible refine (within_any _ _ _ _).mono ?_); rintro e w' ⟨rfl, rfl⟩)
              go_round
              case rel => exact ⟨j + 1, by omega, by rw [HACC.out], by go_num, by rw [HCONT.out, HC.out]; simp; omega⟩
              case measure => simp [intOf]; omega
            · have wx : (decide ((128 : Int) ≤ (x : Int)) && decide ((x : Int) ≤ 191)) = false := by simp; omega
              go_wp2_with (go_at_call 60; (with_reducible refine (within_any _ _ _ _).mono ?_); rintro e w' ⟨rfl, rfl⟩)
              go_ret2
              have hno : contR s i 3 = false := by
                cases hq : contR s i 3 with
                | false => rfl
                | true => have := contR_mono s i (show j + 1 ≤ 3 by omega) hq; rw [HCONT.out, HC.out] at this; simp at this; omega
              have hsl : slowR s i 4 65536 r0 = (0, 0) := by unfold slowR; rw [if_pos (.inr hno)]
              rw [HEQ.out] at hsl
              refine RetAt.zero (Prod.ext ?_ ?_)
              · have := congrArg Prod.fst hsl; simp only at this ⊢; omega
              · exact (Prod.mk.inj hsl).2
          · obtain rfl : j = 3 := by omega
            have HA0 := hide hacc; clear hacc HACC HCONT
            have HSL := hide (show slowR s i 4 65536 r0 = if a < 65536 ∨ 1114111 < a ∨ (55296 ≤ a ∧ a ≤ 57343) then (0, 0) else (a, 4) by unfold slowR; rw [if_neg (by simp [HC.out]; omega), show (4 : Nat) - 1 = 3 from rfl, HA0.out])
            by_cases hbad : a < 65536 ∨ 1114111 < a ∨ (55296 ≤ a ∧ a ≤ 57343)
            · have hsl : slowR s i 4 65536 r0 = (0, 0) := by rw [HSL.out, if_pos hbad]
              rw [HEQ.out] at hsl
              have HZZ := hide (show atR s i = (0, 0) from Prod.ext (by have := congrArg Prod.fst hsl; simp only at this ⊢; omega) (Prod.mk.inj hsl).2)
              clear hsl HSL
              by_cases q1 : a < 65536
              · clear hbad
                go_wp2_with (go_at_call 60; (with_reducible refine (within_any _ _ _ _).mono ?_); rintro e w' ⟨rfl, rfl⟩)
                go_ret2
                exact RetAt.zero HZZ.out
              · by_cases q2 : 1114111 < a
                · clear hbad
                  go_wp2_with (go_at_call 60; (with_reducible refine (within_any _ _ _ _).mono ?_); rintro e w' ⟨rfl, rfl⟩)
                  go_ret2
                  exact RetAt.zero HZZ.out
                · have wz : (decide ((55296 : Int) ≤ a) && decide (a ≤ 57343)) = true := by simp; omega
                  clear hbad
                  go_wp2_with (go_at_call 60; (with_reducible refine (within_any _ _ _ _).mono ?_); rintro e w' ⟨rfl, rfl⟩)
                  go_ret2
                  exact RetAt.zero HZZ.out
            · have hsl := HSL.out
              rw [if_neg hbad, HEQ.out] at hsl
              have HZZ := hide hsl.symm
              clear hsl HSL
              have q1 : ¬ a < 65536 := by omega
              have q2 : ¬ 1114111 < a := by omega
              have wz : (decide ((55296 : Int) ≤ a) && decide (a ≤ 57343)) = false := by simp; omega
              clear hbad
              go_wp2_with (go_at_call 60; (with_reducible refine (within_any _ _ _ _).mono ?_); rintro e w' ⟨rfl, rfl⟩)
              go_ret2
              exact RetAt.of HZZ.out
      · go_enter Tryd.func48, Tryd.ntmps48
        go_wp2_with (go_at_call 60; (with_reducible refine (within_any _ _ _ _).mono ?_); rintro e w' ⟨rfl, rfl⟩)
        go_ret2
        refine RetAt.zero (Prod.ext ?_ ?_)
        · have := congrArg Prod.fst HEQ.out; simp only [slowR] at this; rw [if_pos (by omega)] at this; simp only at this ⊢; omega
        · have := congrArg Prod.snd HEQ.out; simp only [slowR] at this; rw [if_pos (by omega)] at this; exact this.symm
    have hzero := HZ.out (by omega) (by omega)
    have HZZ := hide hzero; clear hzero HE2 HE3 HE4 HA HZ
    have hc1 : c ≤ 255 := by have := HB0.out; omega
    have hc0 : 128 ≤ c := by omega
    have w2 : (decide ((192 : Int) ≤ (c : Int)) && decide ((c : Int) ≤ 223)) = false := by simp; omega
    have w3 : (decide ((224 : Int) ≤ (c : Int)) && decide ((c : Int) ≤ 239)) = false := by simp; omega
    have w4 : (decide ((240 : Int) ≤ (c : Int)) && decide ((c : Int) ≤ 247)) = false := by simp; omega
    clear h2 h3 h4
    go_enter Tryd.func48, Tryd.ntmps48
    go_wp2_with (go_at_call 60; (with_reducible refine (within_any _ _ _ _).mono ?_); rintro e w' ⟨rfl, rfl⟩)
    go_ret2
    exact RetAt.zero HZZ.out
  · have e : atR s i = (0, 0) := by unfold atR; rw [if_neg (by omega)]
    rw [e]
    go_enter Tryd.func48, Tryd.ntmps48
    go_wp2_with fail
    go_ret2
    exact ⟨rfl, rfl⟩
end Go.Proofs.YtmlopggainkoiaaDoor
