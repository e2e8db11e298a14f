/- The document's reading of a rune: at. The document's at: the walk. Texts as the runes that they are written of: pieces, and what they read as. The document's run, numbers. The number that a text tells: the document's value, and Atoi. The document's value, numbers: the walks. -/
import Derived.Test.YtljglhaeonbfoaaGreatDoorG4
import Derived.Test.YtljglhaeonbfoaaGreatDoorG6
import Derived.Test.YtljglhaeonbfoaaGreatDoorG5
set_option linter.unusedSimpArgs false
set_option linter.unusedVariables false
namespace Go.Proofs.YtljglhaeonbfoaaGreatDoor
open Go.RowKit
def atR (s : ByteArray) (i : Nat) : Nat × Nat := if i < s.size ∧ goodAt s i = true then Utf8.decode s i else (0, 0)
def accR (s : ByteArray) (i : Nat) (r0 : Int) : Nat → Int
 | 0 => r0
 | k + 1 => 64 * accR s i r0 k + ((s.get! (i + (k + 1))).toNat : Int) - 128
def contR (s : ByteArray) (i : Nat) : Nat → Bool
 | 0 => true
 | k + 1 => contR s i k && (decide (128 ≤ (s.get! (i + (k + 1))).toNat) && decide ((s.get! (i + (k + 1))).toNat ≤ 191))
def slowR (s : ByteArray) (i m : Nat) (least r0 : Int) : Int × Nat :=
 if s.size < i + m ∨ contR s i (m - 1) = false then (0, 0)
 else if accR s i r0 (m - 1) < least ∨ 1114111 < accR s i r0 (m - 1) ∨ (55296 ≤ accR s i r0 (m - 1) ∧ accR s i r0 (m - 1) ≤ 57343) then (0, 0)
 else (accR s i r0 (m - 1), m)
theorem contR_bytes (s : ByteArray) (i : Nat) : ∀ k, contR s i k = true ↔ ∀ j, j < k → 128 ≤ (s.get! (i + (j + 1))).toNat ∧ (s.get! (i + (j + 1))).toNat ≤ 191
 | 0 => ⟨fun _ j h => by omega, fun _ => rfl⟩
 | k + 1 => by
  simp only [contR, Bool.and_eq_true, decide_eq_true_eq, contR_bytes s i k]
  constructor
  ·rintro ⟨h1, h2⟩ j hj
   rcases Nat.lt_or_ge j k with h | h
   ·exact h1 j h
   ·obtain rfl : j = k := by omega
    exact h2
  ·intro h
   exact ⟨fun j hj => h j (by omega), h k (by omega)⟩
set_option maxRecDepth 100000 in
theorem lead2 (n b0 b1 b2 b3 : Nat) (h0 : 192 ≤ b0) (h1 : b0 ≤ 223) : Lib.decodeN n b0 b1 b2 b3 = if 1 < n ∧ b1 / 64 = 2 ∧ 128 ≤ b0 % 32 * 64 + b1 % 64 then (b0 % 32 * 64 + b1 % 64, 2) else (65533, 1) := by
 unfold Lib.decodeN
 repeat' split
 all_goals first | (exfalso; omega) | rfl | (apply Prod.ext <;> simp only <;> omega)
set_option maxRecDepth 100000 in
theorem lead3 (n b0 b1 b2 b3 : Nat) (h0 : 224 ≤ b0) (h1 : b0 ≤ 239) : Lib.decodeN n b0 b1 b2 b3 = if 2 < n ∧ b1 / 64 = 2 ∧ b2 / 64 = 2 ∧ 2048 ≤ b0 % 16 * 4096 + b1 % 64 * 64 + b2 % 64 ∧ (b0 % 16 * 4096 + b1 % 64 * 64 + b2 % 64 < 55296 ∨ 57344 ≤ b0 % 16 * 4096 + b1 % 64 * 64 + b2 % 64) then (b0 % 16 * 4096 + b1 % 64 * 64 + b2 % 64, 3) else (65533, 1) := by
 unfold Lib.decodeN
 repeat' split
 all_goals first | (exfalso; omega) | rfl | (apply Prod.ext <;> simp only <;> omega)
set_option maxRecDepth 100000 in
theorem lead4 (n b0 b1 b2 b3 : Nat) (h0 : 240 ≤ b0) (h1 : b0 ≤ 247) : Lib.decodeN n b0 b1 b2 b3 = if 3 < n ∧ b1 / 64 = 2 ∧ b2 / 64 = 2 ∧ b3 / 64 = 2 ∧ 65536 ≤ b0 % 8 * 262144 + b1 % 64 * 4096 + b2 % 64 * 64 + b3 % 64 ∧ b0 % 8 * 262144 + b1 % 64 * 4096 + b2 % 64 * 64 + b3 % 64 ≤ 1114111 then (b0 % 8 * 262144 + b1 % 64 * 4096 + b2 % 64 * 64 + b3 % 64, 4) else (65533, 1) := by
 unfold Lib.decodeN
 repeat' split
 all_goals first | (exfalso; omega) | rfl | (apply Prod.ext <;> simp only <;> omega)
set_option maxRecDepth 100000 in
theorem lead0 (n b0 b1 b2 b3 : Nat) (h0 : 128 ≤ b0) (h1 : b0 < 192 ∨ 248 ≤ b0) : Lib.decodeN n b0 b1 b2 b3 = (65533, 1) := by
 unfold Lib.decodeN
 repeat' split
 all_goals first | (exfalso; omega) | rfl | (apply Prod.ext <;> simp only <;> omega)
theorem atR_if {s : ByteArray} {i : Nat} (h : i < s.size) (h0 : 128 ≤ (s.get! i).toNat) {c : Prop} [Decidable c] {r w : Nat} (hw : 1 < w) (hd : Utf8.decode s i = if c then (r, w) else (65533, 1)) : atR s i = if c then (r, w) else (0, 0) := by
 unfold atR goodAt
 have e : decide ((s.get! i).toNat < 128) = false := by simpa using h0
 rw [hd, e]
 by_cases hc : c
 ·rw [if_pos hc, if_pos hc, if_pos ⟨h, by simp [hw]⟩]
 ·rw [if_neg hc, if_neg hc, if_neg (by simp)]
theorem atR_ascii {s : ByteArray} {i : Nat} (h : i < s.size) (h0 : (s.get! i).toNat < 128) : atR s i = ((s.get! i).toNat, 1) := by
 unfold atR goodAt
 have e : decide ((s.get! i).toNat < 128) = true := by simpa using h0
 rw [e, if_pos ⟨h, rfl⟩, Lib.decode_at]
 unfold Lib.decodeN
 rw [if_pos h0]
theorem atR_zero {s : ByteArray} {i : Nat} (h : i < s.size) (h0 : 128 ≤ (s.get! i).toNat) (h1 : (s.get! i).toNat < 192 ∨ 248 ≤ (s.get! i).toNat) : atR s i = (0, 0) := by
 have hd := (Lib.decode_at s i).trans (lead0 _ _ _ _ _ h0 h1)
 unfold atR goodAt
 have e : decide ((s.get! i).toNat < 128) = false := by simpa using h0
 rw [hd, e, if_neg (by simp)]
theorem pair_cast (c : Prop) [Decidable c] (r w : Nat) : ((((if c then (r, w) else (0, 0)) : Nat × Nat).1 : Int), ((if c then (r, w) else (0, 0)) : Nat × Nat).2) = if c then ((r : Int), w) else (0, 0) := by split <;> rfl
theorem slow_eq2 (s : ByteArray) (i : Nat) (h : i < s.size) (h0 : 192 ≤ (s.get! i).toNat) (h1 : (s.get! i).toNat ≤ 223) : slowR s i 2 128 ((s.get! i).toNat - 192) = (((atR s i).1 : Int), (atR s i).2) := by
 rw [atR_if h (by omega) (by decide) ((Lib.decode_at s i).trans (lead2 _ _ _ _ _ h0 h1)), pair_cast]
 unfold slowR
 have b1 := byte_lt (s.get! (i + 1))
 simp only [show (2 : Nat) - 1 = 0 + 1 from rfl, contR, accR]
 generalize (s.get! i).toNat = x0 at *
 generalize (s.get! (i + (0 + 1))).toNat = x1 at *
 by_cases hc : 1 < s.size - i ∧ x1 / 64 = 2 ∧ 128 ≤ x0 % 32 * 64 + x1 % 64
 ·rw [if_pos hc, if_neg (by simp; omega), if_neg (by omega)]
  refine Prod.ext ?_ rfl
  simp only; omega
 ·rw [if_neg hc]
  split
  ·rfl
  ·rename_i hn
   simp at hn
   rw [if_pos (by omega)]
theorem slow_eq3 (s : ByteArray) (i : Nat) (h : i < s.size) (h0 : 224 ≤ (s.get! i).toNat) (h1 : (s.get! i).toNat ≤ 239) : slowR s i 3 2048 ((s.get! i).toNat - 224) = (((atR s i).1 : Int), (atR s i).2) := by
 rw [atR_if h (by omega) (by decide) ((Lib.decode_at s i).trans (lead3 _ _ _ _ _ h0 h1)), pair_cast]
 unfold slowR
 have b1 := byte_lt (s.get! (i + 1)); have b2 := byte_lt (s.get! (i + 2))
 simp only [show (3 : Nat) - 1 = 0 + 1 + 1 from rfl, contR, accR]
 generalize (s.get! i).toNat = x0 at *
 generalize (s.get! (i + (0 + 1))).toNat = x1 at *
 generalize (s.get! (i + (0 + 1 + 1))).toNat = x2 at *
 by_cases hc : 2 < s.size - i ∧ x1 / 64 = 2 ∧ x2 / 64 = 2 ∧ 2048 ≤ x0 % 16 * 4096 + x1 % 64 * 64 + x2 % 64 ∧ (x0 % 16 * 4096 + x1 % 64 * 64 + x2 % 64 < 55296 ∨ 57344 ≤ x0 % 16 * 4096 + x1 % 64 * 64 + x2 % 64)
 ·rw [if_pos hc, if_neg (by simp; omega), if_neg (by omega)]
  refine Prod.ext ?_ rfl
  simp only; omega
 ·rw [if_neg hc]
  split
  ·rfl
  ·rename_i hn
   simp at hn
   rw [if_pos (by omega)]
theorem slow_eq4 (s : ByteArray) (i : Nat) (h : i < s.size) (h0 : 240 ≤ (s.get! i).toNat) (h1 : (s.get! i).toNat ≤ 247) : slowR s i 4 65536 ((s.get! i).toNat - 240) = (((atR s i).1 : Int), (atR s i).2) := by
 rw [atR_if h (by omega) (by decide) ((Lib.decode_at s i).trans (lead4 _ _ _ _ _ h0 h1)), pair_cast]
 unfold slowR
 have b1 := byte_lt (s.get! (i + 1)); have b2 := byte_lt (s.get! (i + 2)); have b3 := byte_lt (s.get! (i + 3))
 simp only [show (4 : Nat) - 1 = 0 + 1 + 1 + 1 from rfl, contR, accR]
 generalize (s.get! i).toNat = x0 at *
 generalize (s.get! (i + (0 + 1))).toNat = x1 at *
 generalize (s.get! (i + (0 + 1 + 1))).toNat = x2 at *
 generalize (s.get! (i + (0 + 1 + 1 + 1))).toNat = x3 at *
 by_cases hc : 3 < s.size - i ∧ x1 / 64 = 2 ∧ x2 / 64 = 2 ∧ x3 / 64 = 2 ∧ 65536 ≤ x0 % 8 * 262144 + x1 % 64 * 4096 + x2 % 64 * 64 + x3 % 64 ∧ x0 % 8 * 262144 + x1 % 64 * 4096 + x2 % 64 * 64 + x3 % 64 ≤ 1114111
 ·rw [if_pos hc, if_neg (by simp; omega), if_neg (by omega)]
  refine Prod.ext ?_ rfl
  simp only; omega
 ·rw [if_neg hc]
  split
  ·rfl
  ·rename_i hn
   simp at hn
   rw [if_pos (by omega)]
end Go.Proofs.YtljglhaeonbfoaaGreatDoor
namespace Go.Proofs.YtljglhaeonbfoaaGreatDoor
open Go.RowKit
theorem get_elem {s : ByteArray} {i : Nat} (h : i < s.size) : (s[i]'h) = s.get! i := by
 have := (get_drop (s := s) (pos := i) (List.drop_eq_getElem_cons (by simpa using h))).2.1
 rw [this]; rfl
theorem accR_bound (s : ByteArray) (i : Nat) (r0 : Int) (h0 : 0 ≤ r0) (h1 : r0 ≤ 31) : ∀ k, k ≤ 3 → contR s i k = true → 0 ≤ accR s i r0 k ∧ accR s i r0 k ≤ 31 * 64 ^ k + 64 ^ k - 1
 | 0, _, _ => by simp [accR]; omega
 | k + 1, hk, hc => by
  simp only [contR, Bool.and_eq_true, decide_eq_true_eq] at hc
  obtain ⟨h2, h3⟩ := accR_bound s i r0 h0 h1 k (by omega) hc.1
  simp only [accR, Int.pow_succ]
  omega
theorem contR_mono (s : ByteArray) (i : Nat) {j k : Nat} (h : j ≤ k) (hc : contR s i k = true) : contR s i j = true := by
 rw [contR_bytes] at hc ⊢
 exact fun a ha => hc a (by omega)
def RetAt (p : Nat × Nat) (w : World) (e : Ending) (w' : World) : Prop := e = .returned (.tuple #[.int .i32 p.1, .int .i64 p.2]) ∧ w = w'
theorem RetAt.of {p : Nat × Nat} {w : World} {a : Int} {b : Nat} (h : (a, b) = ((p.1 : Int), p.2)) : RetAt p w (.returned (.tuple #[.int .i32 a, .int .i64 b])) w := by
 injection h with h1 h2; subst h1 h2; exact ⟨rfl, rfl⟩
theorem RetAt.zero {p : Nat × Nat} {w : World} (h : p = (0, 0)) : RetAt p w (.returned (.tuple #[.int .i32 0, .int .i64 0])) w := by subst h; exact ⟨rfl, rfl⟩
set_option maxRecDepth 100000 in
set_option maxHeartbeats 40000000 in
theorem at_any (s : ByteArray) (i : Nat) (w : World) (hs : s.size ≤ 34359738368) (hi : i ≤ 34359738368) : Calls Tryz.prog 146 #[.string s, .int .i64 i] w (RetAt (atR s i) w) := by
 by_cases hlt : i < s.size
 ·have hx0 := congrArg UInt8.toNat (get_elem hlt)
  have HB0 := hide (byte_lt (s.get! i))
  have HE2 := hide (slow_eq2 s i hlt); have HE3 := hide (slow_eq3 s i hlt); have HE4 := hide (slow_eq4 s i hlt)
  have HA := hide (@atR_ascii s i hlt); have HZ := hide (@atR_zero s i hlt)
  obtain ⟨c, hc⟩ : ∃ c, (s.get! i).toNat = c := ⟨_, rfl⟩
  rw [hc] at hx0 HB0 HE2 HE3 HE4 HA HZ
  clear hc
  by_cases ha : c < 128
  ·go_enter Tryz.func146, Tryz.ntmps146
   go_wp2_with fail
   go_ret2
   rw [HA.out ha]
   exact ⟨rfl, rfl⟩
  by_cases h2 : 192 ≤ c ∧ c ≤ 223
  ·have HEQ := hide (HE2.out h2.1 h2.2)
   obtain ⟨b1, b2⟩ := h2
   clear HE2 HE3 HE4 HA HZ
   have w2 : (decide ((192 : Int) ≤ (c : Int)) && decide ((c : Int) ≤ 223)) = true := by simp; omega
   have w3 : (decide ((224 : Int) ≤ (c : Int)) && decide ((c : Int) ≤ 239)) = false := by simp; omega
   have w4 : (decide ((240 : Int) ≤ (c : Int)) && decide ((c : Int) ≤ 247)) = false := by simp; omega
   by_cases hfit : i + 2 ≤ s.size
   ·obtain ⟨r0, hr0⟩ : ∃ r0 : Int, (c : Int) - 192 = r0 := ⟨_, rfl⟩
    have hr0' : (c : Int) - 192 = r0 := hr0
    have HR0 := hide (show 0 ≤ r0 ∧ r0 ≤ 31 by omega)
    rw [hr0] at HEQ
    go_enter Tryz.func146, Tryz.ntmps146
    go_wp2_with (go_at_call 180; (with_reducible refine (within_any _ _ _ _).mono ?_); rintro e w' ⟨rfl, rfl⟩)
    clear hr0 hr0'
    go_loop [9, 10] (fun r k => ∃ j : Nat, j ≤ 1 ∧ r = .int .i32 (accR s i r0 j) ∧ k = .int .i64 (j + 1 : Nat) ∧ contR s i j = true) (fun _ k => 2 - (intOf k).toNat)
    case atStart => exact ⟨0, by omega, rfl, by go_num, rfl⟩
    case round =>
     obtain ⟨j, hj, rfl, rfl, hcont⟩ := hrel
     have HC := hide hcont
     have hab := accR_bound s i r0 HR0.out.1 HR0.out.2 j (by omega) hcont
     clear hcont
     have ha1 : accR s i r0 j ≤ 8388607 := by have := hab.2; rcases (show j = 0 ∨ j = 1 ∨ j = 2 ∨ j = 3 by omega) with rfl | rfl | rfl | rfl <;> omega
     have ha0 := hab.1; clear hab
     have HACC := hide (show accR s i r0 (j + 1) = 64 * accR s i r0 j + ((s.get! (i + (j + 1))).toNat : Int) - 128 from rfl)
     have HCONT := hide (show contR s i (j + 1) = (contR s i j && (decide (128 ≤ (s.get! (i + (j + 1))).toNat) && decide ((s.get! (i + (j + 1))).toNat ≤ 191))) from rfl)
     generalize hacc : accR s i r0 j = a at HACC ha0 ha1 ⊢
     by_cases hjm : j < 1
     ·have hi2 : i + (j + 1) < s.size := by omega
      have hxj := congrArg UInt8.toNat (get_elem hi2)
      have hbj := byte_lt (s.get! (i + (j + 1)))
      generalize hx : (s.get! (i + (j + 1))).toNat = x at hxj hbj HACC HCONT
      have HX := hide hx; have HA0 := hide hacc; clear hx hacc
      have htn : ((i : Int) + ((j + 1 : Nat) : Int)).toNat = i + (j + 1) := by omega
      by_cases hcx : 128 ≤ x ∧ x ≤ 191
      ·obtain ⟨x1, x2⟩ := hcx
       have wx : (decide ((128 : Int) ≤ (x : Int)) && decide ((x : Int) ≤ 191)) = true := by simp; omega
       go_wp2_with (go_at_call 180; (with_reducible refine (within_any _ _ _ _).mono ?_); rintro e w' ⟨rfl, rfl⟩)
       go_round
       case rel => exact ⟨j + 1, by omega, by rw [HACC.out], by go_num, by rw [HCONT.out, HC.out]; simp; omega⟩
       case measure => simp [intOf]; omega
      ·have wx : (decide ((128 : Int) ≤ (x : Int)) && decide ((x : Int) ≤ 191)) = false := by simp; omega
       go_wp2_with (go_at_call 180; (with_reducible refine (within_any _ _ _ _).mono ?_); rintro e w' ⟨rfl, rfl⟩)
       go_ret2
       have hno : contR s i 1 = false := by
        cases hq : contR s i 1 with
        | false => rfl
        | true => have := contR_mono s i (show j + 1 ≤ 1 by omega) hq; rw [HCONT.out, HC.out] at this; simp at this; omega
       have hsl : slowR s i 2 128 r0 = (0, 0) := by unfold slowR; rw [if_pos (.inr hno)]
       rw [HEQ.out] at hsl
       refine RetAt.zero (Prod.ext ?_ ?_)
       ·have := congrArg Prod.fst hsl; simp only at this ⊢; omega
       ·exact (Prod.mk.inj hsl).2
     ·obtain rfl : j = 1 := by omega
      have HA0 := hide hacc; clear hacc HACC HCONT
      have HSL := hide (show slowR s i 2 128 r0 = if a < 128 ∨ 1114111 < a ∨ (55296 ≤ a ∧ a ≤ 57343) then (0, 0) else (a, 2) by unfold slowR; rw [if_neg (by simp [HC.out]; omega), show (2 : Nat) - 1 = 1 from rfl, HA0.out])
      by_cases hbad : a < 128 ∨ 1114111 < a ∨ (55296 ≤ a ∧ a ≤ 57343)
      ·have hsl : slowR s i 2 128 r0 = (0, 0) := by rw [HSL.out, if_pos hbad]
       rw [HEQ.out] at hsl
       have HZZ := hide (show atR s i = (0, 0) from Prod.ext (by have := congrArg Prod.fst hsl; simp only at this ⊢; omega) (Prod.mk.inj hsl).2)
       clear hsl HSL
       by_cases q1 : a < 128
       ·clear hbad
        go_wp2_with (go_at_call 180; (with_reducible refine (within_any _ _ _ _).mono ?_); rintro e w' ⟨rfl, rfl⟩)
        go_ret2
        exact RetAt.zero HZZ.out
       ·by_cases q2 : 1114111 < a
        ·clear hbad
         go_wp2_with (go_at_call 180; (with_reducible refine (within_any _ _ _ _).mono ?_); rintro e w' ⟨rfl, rfl⟩)
         go_ret2
         exact RetAt.zero HZZ.out
        ·have wz : (decide ((55296 : Int) ≤ a) && decide (a ≤ 57343)) = true := by simp; omega
         clear hbad
         go_wp2_with (go_at_call 180; (with_reducible refine (within_any _ _ _ _).mono ?_); rintro e w' ⟨rfl, rfl⟩)
         go_ret2
         exact RetAt.zero HZZ.out
      ·have hsl := HSL.out
       rw [if_neg hbad, HEQ.out] at hsl
       have HZZ := hide hsl.symm
       clear hsl HSL
       have q1 : ¬ a < 128 := by omega
       have q2 : ¬ 1114111 < a := by omega
       have wz : (decide ((55296 : Int) ≤ a) && decide (a ≤ 57343)) = false := by simp; omega
       clear hbad
       go_wp2_with (go_at_call 180; (with_reducible refine (within_any _ _ _ _).mono ?_); rintro e w' ⟨rfl, rfl⟩)
       go_ret2
       exact RetAt.of HZZ.out
   ·go_enter Tryz.func146, Tryz.ntmps146
    go_wp2_with (go_at_call 180; (with_reducible refine (within_any _ _ _ _).mono ?_); rintro e w' ⟨rfl, rfl⟩)
    go_ret2
    refine RetAt.zero (Prod.ext ?_ ?_)
    ·have := congrArg Prod.fst HEQ.out; simp only [slowR] at this; rw [if_pos (by omega)] at this; simp only at this ⊢; omega
    ·have := congrArg Prod.snd HEQ.out; simp only [slowR] at this; rw [if_pos (by omega)] at this; exact this.symm
  by_cases h3 : 224 ≤ c ∧ c ≤ 239
  ·have HEQ := hide (HE3.out h3.1 h3.2)
   obtain ⟨b1, b2⟩ := h3
   clear HE2 HE3 HE4 HA HZ
   have w2 : (decide ((192 : Int) ≤ (c : Int)) && decide ((c : Int) ≤ 223)) = false := by simp; omega
   have w3 : (decide ((224 : Int) ≤ (c : Int)) && decide ((c : Int) ≤ 239)) = true := by simp; omega
   have w4 : (decide ((240 : Int) ≤ (c : Int)) && decide ((c : Int) ≤ 247)) = false := by simp; omega
   by_cases hfit : i + 3 ≤ s.size
   ·obtain ⟨r0, hr0⟩ : ∃ r0 : Int, (c : Int) - 224 = r0 := ⟨_, rfl⟩
    have hr0' : (c : Int) - 224 = r0 := hr0
    have HR0 := hide (show 0 ≤ r0 ∧ r0 ≤ 31 by omega)
    rw [hr0] at HEQ
    go_enter Tryz.func146, Tryz.ntmps146
    go_wp2_with (go_at_call 180; (with_reducible refine (within_any _ _ _ _).mono ?_); rintro e w' ⟨rfl, rfl⟩)
    clear hr0 hr0'
    go_loop [9, 10] (fun r k => ∃ j : Nat, j ≤ 2 ∧ r = .int .i32 (accR s i r0 j) ∧ k = .int .i64 (j + 1 : Nat) ∧ contR s i j = true) (fun _ k => 3 - (intOf k).toNat)
    case atStart => exact ⟨0, by omega, rfl, by go_num, rfl⟩
    case round =>
     obtain ⟨j, hj, rfl, rfl, hcont⟩ := hrel
     have HC := hide hcont
     have hab := accR_bound s i r0 HR0.out.1 HR0.out.2 j (by omega) hcont
     clear hcont
     have ha1 : accR s i r0 j ≤ 8388607 := by have := hab.2; rcases (show j = 0 ∨ j = 1 ∨ j = 2 ∨ j = 3 by omega) with rfl | rfl | rfl | rfl <;> omega
     have ha0 := hab.1; clear hab
     have HACC := hide (show accR s i r0 (j + 1) = 64 * accR s i r0 j + ((s.get! (i + (j + 1))).toNat : Int) - 128 from rfl)
     have HCONT := hide (show contR s i (j + 1) = (contR s i j && (decide (128 ≤ (s.get! (i + (j + 1))).toNat) && decide ((s.get! (i + (j + 1))).toNat ≤ 191))) from rfl)
     generalize hacc : accR s i r0 j = a at HACC ha0 ha1 ⊢
     by_cases hjm : j < 2
     ·have hi2 : i + (j + 1) < s.size := by omega
      have hxj := congrArg UInt8.toNat (get_elem hi2)
      have hbj := byte_lt (s.get! (i + (j + 1)))
      generalize hx : (s.get! (i + (j + 1))).toNat = x at hxj hbj HACC HCONT
      have HX := hide hx; have HA0 := hide hacc; clear hx hacc
      have htn : ((i : Int) + ((j + 1 : Nat) : Int)).toNat = i + (j + 1) := by omega
      by_cases hcx : 128 ≤ x ∧ x ≤ 191
      ·obtain ⟨x1, x2⟩ := hcx
       have wx : (decide ((128 : Int) ≤ (x : Int)) && decide ((x : Int) ≤ 191)) = true := by simp; omega
       go_wp2_with (go_at_call 180; (with_reducible refine (within_any _ _ _ _).mono ?_); rintro e w' ⟨rfl, rfl⟩)
       go_round
       case rel => exact ⟨j + 1, by omega, by rw [HACC.out], by go_num, by rw [HCONT.out, HC.out]; simp; omega⟩
       case measure => simp [intOf]; omega
      ·have wx : (decide ((128 : Int) ≤ (x : Int)) && decide ((x : Int) ≤ 191)) = false := by simp; omega
       go_wp2_with (go_at_call 180; (with_reducible refine (within_any _ _ _ _).mono ?_); rintro e w' ⟨rfl, rfl⟩)
       go_ret2
       have hno : contR s i 2 = false := by
        cases hq : contR s i 2 with
        | false => rfl
        | true => have := contR_mono s i (show j + 1 ≤ 2 by omega) hq; rw [HCONT.out, HC.out] at this; simp at this; omega
       have hsl : slowR s i 3 2048 r0 = (0, 0) := by unfold slowR; rw [if_pos (.inr hno)]
       rw [HEQ.out] at hsl
       refine RetAt.zero (Prod.ext ?_ ?_)
       ·have := congrArg Prod.fst hsl; simp only at this ⊢; omega
       ·exact (Prod.mk.inj hsl).2
     ·obtain rfl : j = 2 := by omega
      have HA0 := hide hacc; clear hacc HACC HCONT
      have HSL := hide (show slowR s i 3 2048 r0 = if a < 2048 ∨ 1114111 < a ∨ (55296 ≤ a ∧ a ≤ 57343) then (0, 0) else (a, 3) by unfold slowR; rw [if_neg (by simp [HC.out]; omega), show (3 : Nat) - 1 = 2 from rfl, HA0.out])
      by_cases hbad : a < 2048 ∨ 1114111 < a ∨ (55296 ≤ a ∧ a ≤ 57343)
      ·have hsl : slowR s i 3 2048 r0 = (0, 0) := by rw [HSL.out, if_pos hbad]
       rw [HEQ.out] at hsl
       have HZZ := hide (show atR s i = (0, 0) from Prod.ext (by have := congrArg Prod.fst hsl; simp only at this ⊢; omega) (Prod.mk.inj hsl).2)
       clear hsl HSL
       by_cases q1 : a < 2048
       ·clear hbad
        go_wp2_with (go_at_call 180; (with_reducible refine (within_any _ _ _ _).mono ?_); rintro e w' ⟨rfl, rfl⟩)
        go_ret2
        exact RetAt.zero HZZ.out
       ·by_cases q2 : 1114111 < a
        ·clear hbad
         go_wp2_with (go_at_call 180; (with_reducible refine (within_any _ _ _ _).mono ?_); rintro e w' ⟨rfl, rfl⟩)
         go_ret2
         exact RetAt.zero HZZ.out
        ·have wz : (decide ((55296 : Int) ≤ a) && decide (a ≤ 57343)) = true := by simp; omega
         clear hbad
         go_wp2_with (go_at_call 180; (with_reducible refine (within_any _ _ _ _).mono ?_); rintro e w' ⟨rfl, rfl⟩)
         go_ret2
         exact RetAt.zero HZZ.out
      ·have hsl := HSL.out
       rw [if_neg hbad, HEQ.out] at hsl
       have HZZ := hide hsl.symm
       clear hsl HSL
       have q1 : ¬ a < 2048 := by omega
       have q2 : ¬ 1114111 < a := by omega
       have wz : (decide ((55296 : Int) ≤ a) && decide (a ≤ 57343)) = false := by simp; omega
       clear hbad
       go_wp2_with (go_at_call 180; (with_reducible refine (within_any _ _ _ _).mono ?_); rintro e w' ⟨rfl, rfl⟩)
       go_ret2
       exact RetAt.of HZZ.out
   ·go_enter Tryz.func146, Tryz.ntmps146
    go_wp2_with (go_at_call 180; (with_reducible refine (within_any _ _ _ _).mono ?_); rintro e w' ⟨rfl, rfl⟩)
    go_ret2
    refine RetAt.zero (Prod.ext ?_ ?_)
    ·have := congrArg Prod.fst HEQ.out; simp only [slowR] at this; rw [if_pos (by omega)] at this; simp only at this ⊢; omega
    ·have := congrArg Prod.snd HEQ.out; simp only [slowR] at this; rw [if_pos (by omega)] at this; exact this.symm
  by_cases h4 : 240 ≤ c ∧ c ≤ 247
  ·have HEQ := hide (HE4.out h4.1 h4.2)
   obtain ⟨b1, b2⟩ := h4
   clear HE2 HE3 HE4 HA HZ
   have w2 : (decide ((192 : Int) ≤ (c : Int)) && decide ((c : Int) ≤ 223)) = false := by simp; omega
   have w3 : (decide ((224 : Int) ≤ (c : Int)) && decide ((c : Int) ≤ 239)) = false := by simp; omega
   have w4 : (decide ((240 : Int) ≤ (c : Int)) && decide ((c : Int) ≤ 247)) = true := by simp; omega
   by_cases hfit : i + 4 ≤ s.size
   ·obtain ⟨r0, hr0⟩ : ∃ r0 : Int, (c : Int) - 240 = r0 := ⟨_, rfl⟩
    have hr0' : (c : Int) - 240 = r0 := hr0
    have HR0 := hide (show 0 ≤ r0 ∧ r0 ≤ 31 by omega)
    rw [hr0] at HEQ
    go_enter Tryz.func146, Tryz.ntmps146
    go_wp2_with (go_at_call 180; (with_reducible refine (within_any _ _ _ _).mono ?_); rintro e w' ⟨rfl, rfl⟩)
    clear hr0 hr0'
    go_loop [9, 10] (fun r k => ∃ j : Nat, j ≤ 3 ∧ r = .int .i32 (accR s i r0 j) ∧ k = .int .i64 (j + 1 : Nat) ∧ contR s i j = true) (fun _ k => 4 - (intOf k).toNat)
    case atStart => exact ⟨0, by omega, rfl, by go_num, rfl⟩
    case round =>
     obtain ⟨j, hj, rfl, rfl, hcont⟩ := hrel
     have HC := hide hcont
     have hab := accR_bound s i r0 HR0.out.1 HR0.out.2 j (by omega) hcont
     clear hcont
     have ha1 : accR s i r0 j ≤ 8388607 := by have := hab.2; rcases (show j = 0 ∨ j = 1 ∨ j = 2 ∨ j = 3 by omega) with rfl | rfl | rfl | rfl <;> omega
     have ha0 := hab.1; clear hab
     have HACC := hide (show accR s i r0 (j + 1) = 64 * accR s i r0 j + ((s.get! (i + (j + 1))).toNat : Int) - 128 from rfl)
     have HCONT := hide (show contR s i (j + 1) = (contR s i j && (decide (128 ≤ (s.get! (i + (j + 1))).toNat) && decide ((s.get! (i + (j + 1))).toNat ≤ 191))) from rfl)
     generalize hacc : accR s i r0 j = a at HACC ha0 ha1 ⊢
     by_cases hjm : j < 3
     ·have hi2 : i + (j + 1) < s.size := by omega
      have hxj := congrArg UInt8.toNat (get_elem hi2)
      have hbj := byte_lt (s.get! (i + (j + 1)))
      generalize hx : (s.get! (i + (j + 1))).toNat = x at hxj hbj HACC HCONT
      have HX := hide hx; have HA0 := hide hacc; clear hx hacc
      have htn : ((i : Int) + ((j + 1 : Nat) : Int)).toNat = i + (j + 1) := by omega
      by_cases hcx : 128 ≤ x ∧ x ≤ 191
      ·obtain ⟨x1, x2⟩ := hcx
       have wx : (decide ((128 : Int) ≤ (x : Int)) && decide ((x : Int) ≤ 191)) = true := by simp; omega
       go_wp2_with (go_at_call 180; (with_reducible refine (within_any _ _ _ _).mono ?_); rintro e w' ⟨rfl, rfl⟩)
       go_round
       case rel => exact ⟨j + 1, by omega, by rw [HACC.out], by go_num, by rw [HCONT.out, HC.out]; simp; omega⟩
       case measure => simp [intOf]; omega
      ·have wx : (decide ((128 : Int) ≤ (x : Int)) && decide ((x : Int) ≤ 191)) = false := by simp; omega
       go_wp2_with (go_at_call 180; (with_reducible refine (within_any _ _ _ _).mono ?_); rintro e w' ⟨rfl, rfl⟩)
       go_ret2
       have hno : contR s i 3 = false := by
        cases hq : contR s i 3 with
        | false => rfl
        | true => have := contR_mono s i (show j + 1 ≤ 3 by omega) hq; rw [HCONT.out, HC.out] at this; simp at this; omega
       have hsl : slowR s i 4 65536 r0 = (0, 0) := by unfold slowR; rw [if_pos (.inr hno)]
       rw [HEQ.out] at hsl
       refine RetAt.zero (Prod.ext ?_ ?_)
       ·have := congrArg Prod.fst hsl; simp only at this ⊢; omega
       ·exact (Prod.mk.inj hsl).2
     ·obtain rfl : j = 3 := by omega
      have HA0 := hide hacc; clear hacc HACC HCONT
      have HSL := hide (show slowR s i 4 65536 r0 = if a < 65536 ∨ 1114111 < a ∨ (55296 ≤ a ∧ a ≤ 57343) then (0, 0) else (a, 4) by unfold slowR; rw [if_neg (by simp [HC.out]; omega), show (4 : Nat) - 1 = 3 from rfl, HA0.out])
      by_cases hbad : a < 65536 ∨ 1114111 < a ∨ (55296 ≤ a ∧ a ≤ 57343)
      ·have hsl : slowR s i 4 65536 r0 = (0, 0) := by rw [HSL.out, if_pos hbad]
       rw [HEQ.out] at hsl
       have HZZ := hide (show atR s i = (0, 0) from Prod.ext (by have := congrArg Prod.fst hsl; simp only at this ⊢; omega) (Prod.mk.inj hsl).2)
       clear hsl HSL
       by_cases q1 : a < 65536
       ·clear hbad
        go_wp2_with (go_at_call 180; (with_reducible refine (within_any _ _ _ _).mono ?_); rintro e w' ⟨rfl, rfl⟩)
        go_ret2
        exact RetAt.zero HZZ.out
       ·by_cases q2 : 1114111 < a
        ·clear hbad
         go_wp2_with (go_at_call 180; (with_reducible refine (within_any _ _ _ _).mono ?_); rintro e w' ⟨rfl, rfl⟩)
         go_ret2
         exact RetAt.zero HZZ.out
        ·have wz : (decide ((55296 : Int) ≤ a) && decide (a ≤ 57343)) = true := by simp; omega
         clear hbad
         go_wp2_with (go_at_call 180; (with_reducible refine (within_any _ _ _ _).mono ?_); rintro e w' ⟨rfl, rfl⟩)
         go_ret2
         exact RetAt.zero HZZ.out
      ·have hsl := HSL.out
       rw [if_neg hbad, HEQ.out] at hsl
       have HZZ := hide hsl.symm
       clear hsl HSL
       have q1 : ¬ a < 65536 := by omega
       have q2 : ¬ 1114111 < a := by omega
       have wz : (decide ((55296 : Int) ≤ a) && decide (a ≤ 57343)) = false := by simp; omega
       clear hbad
       go_wp2_with (go_at_call 180; (with_reducible refine (within_any _ _ _ _).mono ?_); rintro e w' ⟨rfl, rfl⟩)
       go_ret2
       exact RetAt.of HZZ.out
   ·go_enter Tryz.func146, Tryz.ntmps146
    go_wp2_with (go_at_call 180; (with_reducible refine (within_any _ _ _ _).mono ?_); rintro e w' ⟨rfl, rfl⟩)
    go_ret2
    refine RetAt.zero (Prod.ext ?_ ?_)
    ·have := congrArg Prod.fst HEQ.out; simp only [slowR] at this; rw [if_pos (by omega)] at this; simp only at this ⊢; omega
    ·have := congrArg Prod.snd HEQ.out; simp only [slowR] at this; rw [if_pos (by omega)] at this; exact this.symm
  have hzero := HZ.out (by omega) (by omega)
  have HZZ := hide hzero; clear hzero HE2 HE3 HE4 HA HZ
  have hc1 : c ≤ 255 := by have := HB0.out; omega
  have hc0 : 128 ≤ c := by omega
  have w2 : (decide ((192 : Int) ≤ (c : Int)) && decide ((c : Int) ≤ 223)) = false := by simp; omega
  have w3 : (decide ((224 : Int) ≤ (c : Int)) && decide ((c : Int) ≤ 239)) = false := by simp; omega
  have w4 : (decide ((240 : Int) ≤ (c : Int)) && decide ((c : Int) ≤ 247)) = false := by simp; omega
  clear h2 h3 h4
  go_enter Tryz.func146, Tryz.ntmps146
  go_wp2_with (go_at_call 180; (with_reducible refine (within_any _ _ _ _).mono ?_); rintro e w' ⟨rfl, rfl⟩)
  go_ret2
  exact RetAt.zero HZZ.out
 ·have e : atR s i = (0, 0) := by unfold atR; rw [if_neg (by omega)]
  rw [e]
  go_enter Tryz.func146, Tryz.ntmps146
  go_wp2_with fail
  go_ret2
  exact ⟨rfl, rfl⟩
end Go.Proofs.YtljglhaeonbfoaaGreatDoor
namespace Go.Proofs.YtljglhaeonbfoaaGreatDoor
theorem bytes_ext {a b : ByteArray} (h : a.data.toList = b.data.toList) : a = b := by
 cases a; cases b; congr 1; exact Array.toList_inj.1 h
theorem foldl_bytes (l : List Int) (a : ByteArray) : (l.foldl (fun r n => r ++ Utf8.encode n) a).data.toList = a.data.toList ++ l.flatMap fun n => (Utf8.encode n).data.toList := by
 induction l generalizing a with
 | nil => simp
 | cons x l ih => rw [List.foldl_cons, ih]; simp [List.flatMap_cons]
theorem runesBytes_list (l : List Int) : (runesBytes l).data.toList = l.flatMap fun n => (Utf8.encode n).data.toList := by
 unfold runesBytes; rw [foldl_bytes]; simp
theorem runesBytes_append (a b : List Int) : runesBytes (a ++ b) = runesBytes a ++ runesBytes b := by
 apply bytes_ext; rw [runesBytes_list, List.flatMap_append]; simp [runesBytes_list]
theorem runesBytes_one (c : Int) : runesBytes [c] = Utf8.encode c := by apply bytes_ext; rw [runesBytes_list]; simp
theorem runesBytes_cons (c : Int) (l : List Int) : runesBytes (c :: l) = Utf8.encode c ++ runesBytes l := by
 rw [← runesBytes_one, ← runesBytes_append]; rfl
theorem size_list (s : ByteArray) : s.size = s.data.toList.length := by simp
theorem u8 (x : UInt8) (n : Nat) (h : x.toNat = n) : UInt8.ofNat n = x := by subst h; simp
set_option maxRecDepth 1000000 in
theorem enc1 {c : Nat} (h : c < 128) : (Utf8.encode (c : Int)).data.toList = [UInt8.ofNat c] := by
 unfold Utf8.encode Utf8.valid
 have e : (decide ((0 : Int) ≤ c) && decide ((c : Int) < 55296) || decide ((57344 : Int) ≤ c) && decide ((c : Int) ≤ 1114111)) = true := by simp; omega
 simp only [e, if_true]
 rw [if_pos (by simpa using h)]; simp
set_option maxRecDepth 1000000 in
theorem enc2 {c : Nat} (h : 128 ≤ c) (h' : c < 2048) : (Utf8.encode (c : Int)).data.toList = [UInt8.ofNat (192 + c / 64), UInt8.ofNat (128 + c % 64)] := by
 unfold Utf8.encode Utf8.valid
 have e : (decide ((0 : Int) ≤ c) && decide ((c : Int) < 55296) || decide ((57344 : Int) ≤ c) && decide ((c : Int) ≤ 1114111)) = true := by simp; omega
 simp only [e, if_true]
 rw [if_neg (by simp; omega), if_pos (by simp; omega)]; simp
set_option maxRecDepth 1000000 in
theorem enc3 {c : Nat} (h : 2048 ≤ c) (h' : c < 65536) (hs : c < 55296 ∨ 57344 ≤ c) : (Utf8.encode (c : Int)).data.toList = [UInt8.ofNat (224 + c / 4096), UInt8.ofNat (128 + c / 64 % 64), UInt8.ofNat (128 + c % 64)] := by
 unfold Utf8.encode Utf8.valid
 have e : (decide ((0 : Int) ≤ c) && decide ((c : Int) < 55296) || decide ((57344 : Int) ≤ c) && decide ((c : Int) ≤ 1114111)) = true := by simp; omega
 simp only [e, if_true]
 rw [if_neg (by simp; omega), if_neg (by simp; omega), if_pos (by simp; omega)]; simp
set_option maxRecDepth 1000000 in
theorem enc4 {c : Nat} (h : 65536 ≤ c) (h' : c ≤ 1114111) : (Utf8.encode (c : Int)).data.toList = [UInt8.ofNat (240 + c / 262144), UInt8.ofNat (128 + c / 4096 % 64), UInt8.ofNat (128 + c / 64 % 64), UInt8.ofNat (128 + c % 64)] := by
 unfold Utf8.encode Utf8.valid
 have e : (decide ((0 : Int) ≤ c) && decide ((c : Int) < 55296) || decide ((57344 : Int) ≤ c) && decide ((c : Int) ≤ 1114111)) = true := by simp; omega
 simp only [e, if_true]
 rw [if_neg (by simp; omega), if_neg (by simp; omega), if_neg (by simp; omega)]; simp
theorem encode_decode {s : ByteArray} {i : Nat} (h : i < s.size) (hg : goodAt s i = true) : (Utf8.encode ((Utf8.decode s i).1 : Int)).data.toList = (s.data.toList.drop i).take (Utf8.decode s i).2 := by
 have l0 := byte_lt (s.get! i); have l1 := byte_lt (s.get! (i + 1)); have l2 := byte_lt (s.get! (i + 2)); have l3 := byte_lt (s.get! (i + 3))
 rcases decodeN_cases (s.size - i) _ _ _ _ l0 l1 l2 l3 (Utf8.decode s i) (Lib.decode_at s i).symm with ⟨a, e⟩ | ⟨a, e, no⟩ | ⟨a, b, c, d, f, g, k, l⟩ | ⟨a, b, c, d, f, g, k, l, m⟩ | ⟨a, b, c, d, f, g, k, l, m, n⟩
 ·rw [e]
  simp only
  rw [enc1 a, drop_get h, List.take_succ_cons, List.take_zero, u8 _ _ rfl]
 ·unfold goodAt at hg
  rw [e] at hg; simp at hg; omega
 ·rw [c, enc2 d f, drop_get h, drop_get (show i + 1 < s.size by omega)]
  simp only [List.take_succ_cons, List.take_zero]
  rw [u8 (s.get! i) _ (by omega), u8 (s.get! (i + 1)) _ (by omega)]
 ·rw [c, enc3 l (by omega) m, drop_get h, drop_get (show i + 1 < s.size by omega), drop_get (show i + 1 + 1 < s.size by omega)]
  simp only [List.take_succ_cons, List.take_zero]
  rw [show i + 1 + 1 = i + 2 from rfl, u8 (s.get! i) _ (by omega), u8 (s.get! (i + 1)) _ (by omega), u8 (s.get! (i + 2)) _ (by omega)]
 ·rw [c, enc4 d f, drop_get h, drop_get (show i + 1 < s.size by omega), drop_get (show i + 1 + 1 < s.size by omega), drop_get (show i + 1 + 1 + 1 < s.size by omega)]
  simp only [List.take_succ_cons, List.take_zero]
  rw [show i + 1 + 1 + 1 = i + 3 from rfl, show i + 1 + 1 = i + 2 from rfl, u8 (s.get! i) _ (by omega), u8 (s.get! (i + 1)) _ (by omega), u8 (s.get! (i + 2)) _ (by omega), u8 (s.get! (i + 3)) _ (by omega)]
theorem encode_width {s : ByteArray} {i : Nat} (h : i < s.size) (hg : goodAt s i = true) : (Utf8.encode ((Utf8.decode s i).1 : Int)).size = (Utf8.decode s i).2 := by
 have hw := width_le h
 rw [size_list, encode_decode h hg, List.length_take, List.length_drop]
 have := size_list s; omega
theorem items_head {s : ByteArray} {i : Nat} {c : Int} {l : List Int} (h : items s i = c :: l) (hc : 0 ≤ c) : i < s.size ∧ goodAt s i = true ∧ ((Utf8.decode s i).1 : Int) = c ∧ items s (i + (Utf8.decode s i).2) = l := by
 by_cases hp : i < s.size
 ·cases hg : goodAt s i with
  | true => rw [items_good hp hg] at h; injection h with h1 h2; exact ⟨hp, rfl, h1, h2⟩
  | false => rw [items_bad hp hg] at h; injection h with h1 h2; omega
 ·rw [items_end hp] at h; cases h
theorem items_seg {s : ByteArray} : ∀ (t : List Int) (i : Nat) (l : List Int), items s i = t ++ l → (∀ x ∈ t, 0 ≤ x) → i ≤ s.size →
  items s (i + (runesBytes t).size) = l ∧ i + (runesBytes t).size ≤ s.size ∧ (runesBytes t).data.toList = (s.data.toList.drop i).take (runesBytes t).size
 | [], i, l, h, _, hi => by
  have e : (runesBytes []).size = 0 := rfl
  rw [e]; exact ⟨h, hi, by rw [runesBytes_list]; simp⟩
 | c :: t, i, l, h, ht, hi => by
  obtain ⟨hp, hg, hc, hr⟩ := items_head (c := c) (l := t ++ l) h (ht c (by simp))
  have hw := width_le hp
  obtain ⟨h1, h2, h3⟩ := items_seg t (i + (Utf8.decode s i).2) l hr (fun x hx => ht x (by simp [hx])) hw
  have hsz : (runesBytes (c :: t)).size = (Utf8.decode s i).2 + (runesBytes t).size := by
   rw [runesBytes_cons, ByteArray.size_append, ← hc, encode_width hp hg]
  rw [hsz]
  refine ⟨by rw [← h1, Nat.add_assoc], by omega, ?_⟩
  rw [runesBytes_list, List.flatMap_cons, ← runesBytes_list, ← hc, encode_decode hp hg, h3, List.take_add, List.drop_drop]
theorem seg_extract {s : ByteArray} {t : List Int} {i : Nat} {l : List Int} (h : items s i = t ++ l) (ht : ∀ x ∈ t, 0 ≤ x) (hi : i ≤ s.size) : s.extract i (i + (runesBytes t).size) = runesBytes t := by
 obtain ⟨_, _, h3⟩ := items_seg t i l h ht hi
 apply bytes_ext
 rw [extract_list, h3]; congr 1; omega
end Go.Proofs.YtljglhaeonbfoaaGreatDoor
namespace Go.Proofs.YtljglhaeonbfoaaGreatDoor
open Go.RowKit
def PB (d : Bool) (r : Int) : Bool := if d then isD r else isLD r
theorem PB_pos {d : Bool} {r : Int} (h : PB d r = true) : 0 ≤ r := by
 cases d
 ·have := isLD_pos h; omega
 ·have := isD_iff.1 h; omega
theorem PB_neg (d : Bool) : PB d (-1) = false := by cases d <;> decide
def runT (d : Bool) (s : ByteArray) (i : Nat) : List Int := (items s i).takeWhile (PB d)
theorem takeWhile_mem {p : Int → Bool} : ∀ (l : List Int), ∀ x ∈ l.takeWhile p, p x = true
 | [], x, h => by simp at h
 | c :: l, x, h => by
  rw [List.takeWhile_cons] at h
  split at h
  ·rcases List.mem_cons.1 h with rfl | h'
   ·assumption
   ·exact takeWhile_mem l x h'
  ·cases h
theorem runT_all (d : Bool) (s : ByteArray) (i : Nat) : ∀ x ∈ runT d s i, PB d x = true := takeWhile_mem _
theorem runT_of {d : Bool} {s : ByteArray} {i j : Nat} {t : List Int} (h : items s i = t ++ items s j) (ht : ∀ x ∈ t, PB d x = true) (hn : ∀ c l, items s j = c :: l → PB d c = false) : runT d s i = t := by
 unfold runT; rw [h]; exact takeWhile_all ht hn
theorem runT_rest (d : Bool) (s : ByteArray) (i : Nat) : items s i = runT d s i ++ (items s i).dropWhile (PB d) := (List.takeWhile_append_dropWhile).symm
theorem atR_good {s : ByteArray} {i : Nat} (h : i < s.size) (hg : goodAt s i = true) : atR s i = Utf8.decode s i := by unfold atR; rw [if_pos ⟨h, hg⟩]
theorem atR_bad {s : ByteArray} {i : Nat} (hg : goodAt s i = false) : atR s i = (0, 0) := by unfold atR; rw [if_neg (by simp [hg])]
theorem atR_out {s : ByteArray} {i : Nat} (h : ¬ i < s.size) : atR s i = (0, 0) := by unfold atR; rw [if_neg (by omega)]
def RetRun (t : List Int) (w : World) (e : Ending) (w' : World) : Prop := e = .returned (.tuple #[.int .i64 ((runesBytes t).size : Nat), .int .i64 (t.length : Nat)]) ∧ w = w'
set_option maxRecDepth 100000 in
set_option maxHeartbeats 4000000 in
theorem run_any (d : Bool) (s : ByteArray) (i : Nat) (w : World) (hs : s.size ≤ 17179869184) (hi : i ≤ s.size) : Calls Tryz.prog 151 #[.string s, .int .i64 i, .bool d] w (RetRun (runT d s i) w) := by
 go_enter Tryz.func151, Tryz.ntmps151
 go_wp2_with fail
 go_loop [8, 9] (fun a b => ∃ (pos : Nat) (t : List Int), a = .int .i64 pos ∧ b = .int .i64 (t.length : Nat) ∧ (∀ x ∈ t, PB d x = true) ∧ items s i = t ++ items s pos ∧ pos = i + (runesBytes t).size ∧ pos ≤ s.size ∧ t.length ≤ pos) (fun a _ => s.size - (intOf a).toNat)
 case atStart => exact ⟨i, [], rfl, rfl, by simp, rfl, rfl, hi, by simp⟩
 case round =>
  obtain ⟨pos, t, rfl, rfl, ht, hit, hpos, hps, htl⟩ := hrel
  have HT := hide ht; have HIT := hide hit; have HP := hide hpos
  clear ht hit hpos
  have fin : (∀ c l, items s pos = c :: l → PB d c = false) → RetRun (runT d s i) w (.returned (.tuple #[.int .i64 ((pos : Int) - (i : Int)), .int .i64 (t.length : Nat)])) w := fun hn => by
   rw [runT_of HIT.out HT.out hn]
   refine ⟨?_, rfl⟩
   have := HP.out
   rw [show (pos : Int) - (i : Int) = (((runesBytes t).size : Nat) : Int) by omega]
  have FIN := hide fin; clear fin
  have hple : i ≤ pos := by have := HP.out; omega
  generalize htn : t.length = tn at htl FIN ⊢
  have HTN := hide htn; clear htn
  by_cases hp : pos < s.size
  ·have HAT := hide (at_any s pos w (by omega) (by omega))
   cases hg : goodAt s pos
   ·have hb := atR_bad hg
    rw [hb] at HAT
    have HI := hide (items_bad hp hg)
    clear hb hg
    go_wp2_with (first | (go_at_call 146; refine HAT.out.mono ?_; rintro e w' ⟨rfl, rfl⟩) | (go_at_call 181; (with_reducible refine (digit1_any _ _).mono ?_); rintro e w' ⟨rfl, rfl⟩) | (go_at_call 150; (with_reducible refine (letter1_any _ _).mono ?_); rintro e w' ⟨rfl, rfl⟩))
    go_ret2
    exact FIN.out (fun c l h => by rw [HI.out] at h; injection h with h1 _; rw [← h1]; exact PB_neg d)
   ·have hb := atR_good hp hg
    rw [hb] at HAT
    have HI := hide (items_good hp hg)
    have HW := hide (Lib.decode_width_pos s pos hp); have HWL := hide (width_le hp)
    have HEW := hide (encode_width hp hg)
    clear hb hg
    generalize hr : (Utf8.decode s pos).1 = r at HAT HI HEW
    generalize hwd : (Utf8.decode s pos).2 = wd at HAT HI HW HWL HEW
    have HAT' := hide (show Calls Tryz.prog 146 #[.string s, .int .i64 pos] w (RetAt (r, wd) w) by rw [← hr, ← hwd]; exact HAT.out)
    clear hr hwd HAT
    have hw1 := HW.out; have hw2 := HWL.out
    have hwz : ((wd : Int) == 0) = false := by simp; omega
    have step : PB d r = true → ∃ (pos' : Nat) (t' : List Int), (Value.int .i64 ((pos : Int) + (wd : Int))) = .int .i64 pos' ∧ (Value.int .i64 ((tn : Int) + 1)) = .int .i64 (t'.length : Nat) ∧ (∀ x ∈ t', PB d x = true) ∧ items s i = t' ++ items s pos' ∧ pos' = i + (runesBytes t').size ∧ pos' ≤ s.size ∧ t'.length ≤ pos' := fun hpb => by
     refine ⟨pos + wd, t ++ [(r : Int)], by go_num, by rw [List.length_append, HTN.out]; go_num, fun x hx => ?_, by rw [HIT.out, HI.out]; simp, ?_, hw2, by rw [List.length_append, HTN.out]; simp; omega⟩
     ·rcases List.mem_append.1 hx with h | h
      ·exact HT.out x h
      ·simp at h; rw [h]; exact hpb
     ·rw [runesBytes_append, runesBytes_one, ByteArray.size_append, HEW.out]; have := HP.out; omega
    have STEP := hide step; clear step
    have FIN2 := hide (fun hpb : PB d r = false => FIN.out (fun c l h => by rw [HI.out] at h; injection h with h1 _; rw [← h1]; exact hpb))
    clear FIN
    cases hD : isD r
    ·cases d
     ·cases hL : isL r
      ·have HF := hide (FIN2.out (by simp [PB, isLD, hL, hD]))
       clear FIN2 STEP
       go_wp2_with (first | (go_at_call 146; refine HAT'.out.mono ?_; rintro e w' ⟨rfl, rfl⟩) | (go_at_call 181; (with_reducible refine (digit1_any _ _).mono ?_); rintro e w' ⟨rfl, rfl⟩) | (go_at_call 150; (with_reducible refine (letter1_any _ _).mono ?_); rintro e w' ⟨rfl, rfl⟩))
       go_ret2
       exact HF.out
      ·have HS := hide (STEP.out (by simp [PB, isLD, hL]))
       clear FIN2 STEP
       go_wp2_with (first | (go_at_call 146; refine HAT'.out.mono ?_; rintro e w' ⟨rfl, rfl⟩) | (go_at_call 181; (with_reducible refine (digit1_any _ _).mono ?_); rintro e w' ⟨rfl, rfl⟩) | (go_at_call 150; (with_reducible refine (letter1_any _ _).mono ?_); rintro e w' ⟨rfl, rfl⟩))
       go_round
       case rel => exact HS.out
       case measure => simp [intOf]; omega
     ·have HF := hide (FIN2.out (by simp [PB, hD]))
      clear FIN2 STEP
      go_wp2_with (first | (go_at_call 146; refine HAT'.out.mono ?_; rintro e w' ⟨rfl, rfl⟩) | (go_at_call 181; (with_reducible refine (digit1_any _ _).mono ?_); rintro e w' ⟨rfl, rfl⟩) | (go_at_call 150; (with_reducible refine (letter1_any _ _).mono ?_); rintro e w' ⟨rfl, rfl⟩))
      go_ret2
      exact HF.out
    ·have HS := hide (STEP.out (by cases d <;> simp [PB, isLD, hD]))
     clear FIN2 STEP
     go_wp2_with (first | (go_at_call 146; refine HAT'.out.mono ?_; rintro e w' ⟨rfl, rfl⟩) | (go_at_call 181; (with_reducible refine (digit1_any _ _).mono ?_); rintro e w' ⟨rfl, rfl⟩) | (go_at_call 150; (with_reducible refine (letter1_any _ _).mono ?_); rintro e w' ⟨rfl, rfl⟩))
     go_round
     case rel => exact HS.out
     case measure => simp [intOf]; omega
  ·have HF := hide (FIN.out (fun c l h => by rw [items_end hp] at h; cases h))
   go_wp2_with fail
   go_ret2
   exact HF.out
end Go.Proofs.YtljglhaeonbfoaaGreatDoor
namespace Go.Proofs.YtljglhaeonbfoaaGreatDoor
def valF : Nat → List UInt8 → Option Nat
 | acc, [] => some acc
 | acc, c :: l => if c = 45 then valF acc l else if 1099511627776 < 10 * acc + (c.toNat - 48) then none else valF (10 * acc + (c.toNat - 48)) l
def valW (l : List UInt8) : Int × Bool := match valF 0 l with
 | none => (0, false)
 | some v => (if l.head? = some 45 then -(v : Int) else v, true)
def spell : Nat → List UInt8 → Nat
 | acc, [] => acc
 | acc, c :: l => spell (10 * acc + (c.toNat - 48)) l
def DigB (l : List UInt8) : Prop := ∀ c ∈ l, 48 ≤ c.toNat ∧ c.toNat ≤ 57
theorem spell_ge : ∀ (l : List UInt8) (acc : Nat), acc ≤ spell acc l
 | [], acc => Nat.le_refl _
 | c :: l, acc => Nat.le_trans (by omega) (spell_ge l (10 * acc + (c.toNat - 48)))
theorem valF_spell : ∀ (l : List UInt8) (acc : Nat), DigB l → acc ≤ 1099511627776 → valF acc l = if spell acc l ≤ 1099511627776 then some (spell acc l) else none
 | [], acc, _, h => by show some acc = if acc ≤ 1099511627776 then some acc else none; exact (if_pos h).symm
 | c :: l, acc, hd, h => by
  have hc := hd c (by simp)
  have hne : c ≠ 45 := by rintro rfl; exact absurd hc.1 (by decide)
  unfold valF spell
  rw [if_neg hne]
  by_cases hb : 1099511627776 < 10 * acc + (c.toNat - 48)
  ·have := spell_ge l (10 * acc + (c.toNat - 48))
   rw [if_pos hb, if_neg (by omega)]
  ·rw [if_neg hb, valF_spell l _ (fun x hx => hd x (by simp [hx])) (by omega)]
theorem parse_spell : ∀ (l : List UInt8) (acc : Nat), DigB l → acc < 18446744073709551616 → Lib.parseUint10 acc l = if spell acc l < 18446744073709551616 then .ok (spell acc l) else .range
 | [], acc, _, h => by show Lib.NumEnd.ok acc = if acc < 18446744073709551616 then Lib.NumEnd.ok acc else Lib.NumEnd.range; exact (if_pos h).symm
 | c :: l, acc, hd, h => by
  have hc := hd c (by simp)
  have hge := spell_ge l (10 * acc + (c.toNat - 48))
  unfold Lib.parseUint10 spell
  rw [if_pos hc]
  by_cases h1 : 1844674407370955162 ≤ acc
  ·rw [if_pos h1, if_neg (by omega)]
  ·rw [if_neg h1]
   by_cases h2 : 18446744073709551616 ≤ acc * 10 + (c.toNat - 48)
   ·rw [if_pos h2, if_neg (by omega)]
   ·rw [if_neg h2, Nat.mul_comm acc 10, parse_spell l _ (fun x hx => hd x (by simp [hx])) (by omega)]
theorem atoi_plain (l : List UInt8) (hd : DigB l) (hne : l ≠ []) : Lib.atoiAll l = if spell 0 l < 9223372036854775808 then .ok (spell 0 l : Int) else .range := by
 cases l with
 | nil => exact absurd rfl hne
 | cons c r =>
  have hc := hd c (by simp)
  unfold Lib.atoiAll
  simp only
  rw [if_neg (by omega)]
  unfold Lib.parseMag
  rw [if_neg (by simp), parse_spell _ 0 hd (by decide)]
  by_cases h1 : spell 0 (c :: r) < 9223372036854775808
  ·rw [if_pos (by omega), if_pos h1]
   simp only
   rw [if_neg (by omega), if_neg (by omega), if_neg (by omega)]
  ·rw [if_neg h1]
   by_cases h2 : spell 0 (c :: r) < 18446744073709551616
   ·rw [if_pos h2]
    simp only
    rw [if_pos (by omega)]
   ·rw [if_neg h2]
theorem atoi_minus (l : List UInt8) (hd : DigB l) (hne : l ≠ []) : Lib.atoiAll (45 :: l) = if spell 0 l ≤ 9223372036854775808 then .ok (-(spell 0 l : Int)) else .range := by
 have hm : Lib.parseMag l = if spell 0 l < 18446744073709551616 then .ok (spell 0 l) else .range := by
  unfold Lib.parseMag; rw [if_neg hne, parse_spell _ 0 hd (by decide)]
 have e : (45 : UInt8).toNat = 45 := rfl
 unfold Lib.atoiAll
 simp only [e, or_true, if_true, hm, true_and, not_true_eq_false, false_and, if_false]
 by_cases h1 : spell 0 l ≤ 9223372036854775808
 ·rw [if_pos h1, if_pos (show spell 0 l < 18446744073709551616 by omega)]
  simp only
  rw [if_neg (by omega)]
 ·rw [if_neg h1]
  by_cases h2 : spell 0 l < 18446744073709551616
  ·rw [if_pos h2]
   simp only
   rw [if_pos (by omega)]
  ·rw [if_neg h2]
theorem bad_of {s : ByteArray} {V B : Nat} {x : Int} (hx : x = V ∨ x = -V) (hB : 1099511627776 ≤ B) (hA : Lib.atoiAll s.data.toList = if V ≤ B then .ok x else .range) :
  numBad s = decide (1099511627776 < V) ∧ (V ≤ 1099511627776 → numN s = x) := by
 unfold numBad numN
 rw [hA]
 by_cases h : V ≤ B
 ·rw [if_pos h]
  refine ⟨?_, fun _ => rfl⟩
  simp only
  rw [Bool.eq_iff_iff]
  simp only [Bool.or_eq_true, decide_eq_true_eq]
  omega
 ·rw [if_neg h]
  refine ⟨?_, fun h' => absurd (Nat.le_trans h' hB) h⟩
  simp only
  symm
  simp only [decide_eq_true_eq]
  omega
theorem valF_minus (acc : Nat) (l : List UInt8) : valF acc (45 :: l) = valF acc l := by show (if (45 : UInt8) = 45 then _ else _) = _; rw [if_pos rfl]
theorem value_plain (l : List UInt8) (hd : DigB l) (hne : l ≠ []) (s : ByteArray) (hs : s.data.toList = l) : valW l = if numBad s = true then (0, false) else (numN s, true) := by
 have ha := atoi_plain l hd hne
 obtain ⟨b1, b2⟩ := bad_of (s := s) (V := spell 0 l) (B := 9223372036854775807) (x := spell 0 l) (.inl rfl) (by decide) (by
  rw [hs, ha]
  by_cases h : spell 0 l < 9223372036854775808
  ·rw [if_pos h, if_pos (by omega)]
  ·rw [if_neg h, if_neg (by omega)])
 have hh : l.head? ≠ some 45 := by
  cases l with
  | nil => exact absurd rfl hne
  | cons c r => intro h; simp at h; have := hd c (by simp); rw [h] at this; exact absurd this.1 (by decide)
 rw [b1]
 unfold valW
 rw [valF_spell l 0 hd (by omega)]
 by_cases h1 : spell 0 l ≤ 1099511627776
 ·rw [if_pos h1, if_neg (by simp only [decide_eq_true_eq]; omega), b2 h1]
  simp only
  rw [if_neg hh]
 ·rw [if_neg h1, if_pos (by simp only [decide_eq_true_eq]; omega)]
theorem value_minus (l : List UInt8) (hd : DigB l) (hne : l ≠ []) (s : ByteArray) (hs : s.data.toList = 45 :: l) : valW (45 :: l) = if numBad s = true then (0, false) else (numN s, true) := by
 have ha := atoi_minus l hd hne
 obtain ⟨b1, b2⟩ := bad_of (s := s) (V := spell 0 l) (B := 9223372036854775808) (x := -(spell 0 l : Int)) (.inr rfl) (by decide) (by rw [hs, ha])
 rw [b1]
 unfold valW
 rw [valF_minus, valF_spell l 0 hd (by omega)]
 by_cases h1 : spell 0 l ≤ 1099511627776
 ·rw [if_pos h1, if_neg (by simp only [decide_eq_true_eq]; omega), b2 h1]
  rfl
 ·rw [if_neg h1, if_pos (by simp only [decide_eq_true_eq]; omega)]
def Asc (t : List Int) : Prop := ∀ x ∈ t, 0 ≤ x ∧ x < 128
theorem asc_bytes : ∀ (t : List Int), Asc t → (runesBytes t).data.toList = t.map fun x => UInt8.ofNat x.toNat
 | [], _ => by rw [runesBytes_list]; rfl
 | c :: t, h => by
  obtain ⟨h0, h1⟩ := h c (by simp)
  have ih := asc_bytes t (fun x hx => h x (by simp [hx]))
  rw [runesBytes_list] at ih ⊢
  rw [List.flatMap_cons, ih, List.map_cons]
  obtain ⟨n, rfl⟩ : ∃ n : Nat, c = n := ⟨c.toNat, by omega⟩
  rw [enc1 (by omega)]; rfl
theorem asc_size (t : List Int) (h : Asc t) : (runesBytes t).size = t.length := by rw [size_list, asc_bytes t h, List.length_map]
theorem NumT.asc {t : List Int} (h : NumT t) : Asc t := by
 obtain ⟨d, h1, h2, h3⟩ := h
 have hd : Asc d := fun x hx => by have := isD_iff.1 (h2 x hx); omega
 rcases h3 with rfl | rfl
 ·exact hd
 ·intro x hx
  rcases List.mem_cons.1 hx with rfl | h
  ·decide
  ·exact hd x h
theorem digB_of {d : List Int} (h : ∀ x ∈ d, isD x = true) : DigB (d.map fun x => UInt8.ofNat x.toNat) := by
 intro c hc
 obtain ⟨x, hx, rfl⟩ := List.mem_map.1 hc
 have := isD_iff.1 (h x hx)
 rw [UInt8.toNat_ofNat_of_lt' (by show x.toNat < 256; omega)]
 omega
theorem value_num {t : List Int} (h : NumT t) : valW (runesBytes t).data.toList = if numBad (runesBytes t) = true then (0, false) else (numN (runesBytes t), true) := by
 have ha := asc_bytes t h.asc
 obtain ⟨d, h1, h2, h3⟩ := h
 have hne : (d.map fun x => UInt8.ofNat x.toNat) ≠ [] := by cases d <;> simp_all
 rcases h3 with rfl | rfl
 ·rw [ha]; exact value_plain _ (digB_of h2) hne _ ha
 ·rw [ha]; exact value_minus _ (digB_of h2) hne _ ha
theorem NumT.bytes {t : List Int} (h : NumT t) : ∀ c ∈ (runesBytes t).data.toList, c = 45 ∨ (48 ≤ c.toNat ∧ c.toNat ≤ 57) := by
 have ha := asc_bytes t h.asc
 obtain ⟨d, h1, h2, h3⟩ := h
 rw [ha]
 rcases h3 with rfl | rfl
 ·exact fun c hc => .inr (digB_of h2 c hc)
 ·intro c hc
  rw [List.map_cons] at hc
  rcases List.mem_cons.1 hc with rfl | h
  ·exact .inl rfl
  ·exact .inr (digB_of h2 c h)
end Go.Proofs.YtljglhaeonbfoaaGreatDoor
namespace Go.Proofs.YtljglhaeonbfoaaGreatDoor
open Go.RowKit
def RetVal (p : Int × Bool) (w : World) (e : Ending) (w' : World) : Prop := e = .returned (.tuple #[.int .i64 p.1, .bool p.2]) ∧ w = w'
set_option maxRecDepth 100000 in
set_option maxHeartbeats 4000000 in
theorem value_any (s : ByteArray) (w : World) (hs : s.size ≤ 17179869184) (h0 : 0 < s.size) (hb : ∀ c ∈ s.data.toList, c = 45 ∨ (48 ≤ c.toNat ∧ c.toNat ≤ 57)) : Calls Tryz.prog 149 #[.string s] w (RetVal (valW s.data.toList) w) := by
 have HB := hide hb; clear hb
 go_enter Tryz.func149, Tryz.ntmps149
 go_wp2_with fail
 go_loop [4, 5] (fun a b => ∃ (k acc : Nat), a = .int .i64 acc ∧ b = .int .i64 k ∧ k ≤ s.size ∧ acc ≤ 1099511627776 ∧ valF 0 s.data.toList = valF acc (s.data.toList.drop k)) (fun _ b => s.size - (intOf b).toNat)
 case atStart => exact ⟨0, 0, rfl, rfl, Nat.zero_le _, by omega, rfl⟩
 case round =>
  obtain ⟨k, acc, rfl, rfl, hk, ha, hv⟩ := hrel
  have HV := hide hv; clear hv
  by_cases hp : k < s.size
  ·have hx := congrArg UInt8.toNat (get_elem hp)
   have HD := hide (drop_get hp)
   have hmem : s.get! k ∈ s.data.toList := List.mem_of_mem_drop (i := k) (by rw [HD.out]; simp)
   have hm : s.get! k = 45 ∨ (48 ≤ (s.get! k).toNat ∧ (s.get! k).toNat ≤ 57) := HB.out _ hmem
   clear hmem
   have h45 := @toNat_eq (s.get! k) 45 (by decide)
   have HN := hide (show valF acc (s.get! k :: s.data.toList.drop (k + 1)) = if s.get! k = 45 then valF acc (s.data.toList.drop (k + 1)) else if 1099511627776 < 10 * acc + ((s.get! k).toNat - 48) then none else valF (10 * acc + ((s.get! k).toNat - 48)) (s.data.toList.drop (k + 1)) from rfl)
   have e45 : (45 : UInt8) = UInt8.ofNat 45 := rfl
   rw [← e45] at h45
   obtain ⟨x, hxx⟩ : ∃ x, (s.get! k).toNat = x := ⟨_, rfl⟩
   rw [hxx] at hx hm h45 HN
   clear hxx
   have H45 := hide h45; clear h45 e45
   by_cases he : x = 45
   ·have HE := hide (H45.out.2 he)
    subst he
    clear hm
    go_wp2_with fail
    go_round
    case rel => exact ⟨k + 1, acc, rfl, by go_num, by omega, ha, by rw [HV.out, HD.out, HN.out, if_pos HE.out]⟩
    case measure => simp [intOf]; omega
   ·have hne : s.get! k ≠ 45 := fun h => he (H45.out.1 h)
    have h48 : 48 ≤ x ∧ x ≤ 57 := by rcases hm with h | h; exact absurd h hne; exact h
    have HNE := hide hne
    obtain ⟨x1, x2⟩ := h48
    have heq : ((x : Int) == 45) = false := by simp; omega
    clear hm hne he
    by_cases hbig : 1099511627776 < 10 * acc + (x - 48)
    ·have hbig' : (1099511627776 : Int) < 10 * (acc : Int) + ((x : Int) - 48) := by omega
     go_wp2_with fail
     go_ret2
     have e : valW s.data.toList = (0, false) := by unfold valW; rw [HV.out, HD.out, HN.out, if_neg HNE.out, if_pos hbig]
     rw [e]
     exact ⟨rfl, rfl⟩
    ·have hbig' : ¬ (1099511627776 : Int) < 10 * (acc : Int) + ((x : Int) - 48) := by omega
     go_wp2_with fail
     go_round
     case rel => exact ⟨k + 1, 10 * acc + (x - 48), by congr 1; omega, by go_num, by omega, by omega, by rw [HV.out, HD.out, HN.out, if_neg HNE.out, if_neg hbig]⟩
     case measure => simp [intOf]; omega
  ·have HV' := hide (show valF 0 s.data.toList = some acc by rw [HV.out, List.drop_eq_nil_of_le (by have := size_list s; omega)]; rfl)
   have hx := congrArg UInt8.toNat (get_elem h0)
   have hh : s.data.toList.head? = some (s.get! 0) := by
    have := drop_get h0
    rw [List.drop_zero] at this
    rw [this]; rfl
   have h45 := @toNat_eq (s.get! 0) 45 (by decide)
   have e45 : (45 : UInt8) = UInt8.ofNat 45 := rfl
   rw [← e45] at h45
   have HH := hide (show valW s.data.toList = (if (s.get! 0).toNat = 45 then -(acc : Int) else acc, true) by
    unfold valW
    rw [HV'.out, hh]
    simp only
    by_cases h : s.get! 0 = 45
    ·rw [if_pos (by rw [h]), if_pos (h45.1 h)]
    ·rw [if_neg (by simpa using h), if_neg (fun e => h (h45.2 e))])
   obtain ⟨x, hxx⟩ : ∃ x, (s.get! 0).toNat = x := ⟨_, rfl⟩
   rw [hxx] at hx HH
   clear hxx h45 hh e45
   by_cases he : x = 45
   ·subst he
    go_wp2_with fail
    go_ret2
    refine ⟨?_, rfl⟩
    rw [HH.out]; rfl
   ·have heq : ((x : Int) == 45) = false := by simp; omega
    have HNE := hide he
    clear he
    go_wp2_with fail
    go_ret2
    refine ⟨?_, rfl⟩
    rw [HH.out, if_neg HNE.out]; rfl
theorem byte_head {s : ByteArray} {i : Nat} (h : i < s.size) (hb : (s.get! i).toNat < 128) : items s i = (((s.get! i).toNat : Nat) : Int) :: items s (i + 1) := by
 have hg : goodAt s i = true := by unfold goodAt; simp [hb]
 have hd : Utf8.decode s i = ((s.get! i).toNat, 1) := by rw [Lib.decode_at]; unfold Lib.decodeN; rw [if_pos hb]
 have := items_good h hg
 rw [hd] at this
 exact this
theorem head_45 {s : ByteArray} {i : Nat} (h : i < s.size) (hb : (s.get! i).toNat ≠ 45) {c : Int} {l : List Int} (hi : items s i = c :: l) : c ≠ 45 := by
 intro hc
 subst hc
 obtain ⟨_, _, h1, _⟩ := items_head hi (by decide)
 rcases decodeN_cases (s.size - i) _ _ _ _ (byte_lt (s.get! i)) (byte_lt (s.get! (i + 1))) (byte_lt (s.get! (i + 2))) (byte_lt (s.get! (i + 3))) (Utf8.decode s i) (Lib.decode_at s i).symm with ⟨a, e⟩ | ⟨a, e, no⟩ | ⟨a, b, c, d, _⟩ | ⟨a, b, c, d, _, _, _, f, _⟩ | ⟨a, b, c, d, _⟩
 ·rw [e] at h1; simp only at h1; omega
 ·rw [e] at h1; simp only at h1; omega
 ·omega
 ·omega
 ·omega
theorem runT_asc (s : ByteArray) (i : Nat) : Asc (runT true s i) := fun x hx => by
 have := isD_iff.1 (runT_all true s i x hx); omega
theorem runT_size (s : ByteArray) (i : Nat) : (runesBytes (runT true s i)).size = (runT true s i).length := asc_size _ (runT_asc s i)
theorem items_ne {s : ByteArray} {i : Nat} (h : i < s.size) : ∃ c l, items s i = c :: l := by
 cases hg : goodAt s i with
 | true => exact ⟨_, _, items_good h hg⟩
 | false => exact ⟨_, _, items_bad h hg⟩
theorem numLen_eq {s : ByteArray} {i : Nat} (h : i < s.size) : numLen (items s i) = if (s.get! i).toNat = 45 then (if (runT true s (i + 1)).length = 0 then 0 else (runT true s (i + 1)).length + 1) else (runT true s i).length := by
 by_cases hb : (s.get! i).toNat = 45
 ·rw [if_pos hb, byte_head h (by omega), hb]
  show numLen (45 :: items s (i + 1)) = _
  rw [numLen_cons, if_pos rfl]; rfl
 ·rw [if_neg hb]
  obtain ⟨c, l, hi⟩ := items_ne h
  have hc := head_45 h hb hi
  have e : runT true s i = (c :: l).takeWhile isD := by unfold runT; rw [hi]; rfl
  rw [hi, numLen_cons, if_neg hc, e]
set_option maxRecDepth 100000 in
set_option maxHeartbeats 4000000 in
theorem numbers_any (s : ByteArray) (i : Nat) (w : World) (hs : s.size ≤ 17179869184) (hi : i < s.size) : Calls Tryz.prog 148 #[.string s, .int .i64 i] w (Ret (.int .i64 (numLen (items s i) : Nat)) w) := by
 have hx := congrArg UInt8.toNat (get_elem hi)
 have HN := hide (numLen_eq hi)
 obtain ⟨x, hxx⟩ : ∃ x, (s.get! i).toNat = x := ⟨_, rfl⟩
 rw [hxx] at hx HN
 clear hxx
 by_cases he : x = 45
 ·subst he
  have HR := hide (show Calls Tryz.prog 151 #[.string s, .int .i64 ((i : Int) + 1), .bool true] w (RetRun (runT true s (i + 1)) w) from run_any true s (i + 1) w hs (by omega))
  have HS := hide (runT_size s (i + 1))
  unfold RetRun at HR
  rw [HS.out] at HR
  have HLE := hide (show (runT true s (i + 1)).length ≤ s.size by
   obtain ⟨_, h2, _⟩ := items_seg (runT true s (i + 1)) (i + 1) _ (runT_rest true s (i + 1)) (fun x hx => PB_pos (runT_all true s (i + 1) x hx)) (by omega)
   rw [HS.out] at h2; omega)
  generalize (runT true s (i + 1)).length = m at HR HN HLE
  clear HS
  cases hm : ((m : Int) == 0)
  ·have HM := hide (show ¬ m = 0 by simp at hm; omega)
   have hle := HLE.out
   go_enter Tryz.func148, Tryz.ntmps148
   go_wp2_with (go_at_call 151; refine HR.out.mono ?_; rintro e w' ⟨rfl, rfl⟩)
   go_ret
   refine Ret.i ?_
   rw [HN.out, if_pos (by trivial), if_neg HM.out]; omega
  ·have HM := hide (show m = 0 by simp at hm; omega)
   have hle := HLE.out
   go_enter Tryz.func148, Tryz.ntmps148
   go_wp2_with (go_at_call 151; refine HR.out.mono ?_; rintro e w' ⟨rfl, rfl⟩)
   go_ret
   refine Ret.i ?_
   rw [HN.out, if_pos (by trivial), if_pos HM.out]; rfl
 ·have HR := hide (run_any true s i w hs (by omega))
  have HS := hide (runT_size s i)
  unfold RetRun at HR
  rw [HS.out] at HR
  have HLE := hide (show (runT true s i).length ≤ s.size by
   obtain ⟨_, h2, _⟩ := items_seg (runT true s i) i _ (runT_rest true s i) (fun x hx => PB_pos (runT_all true s i x hx)) (by omega)
   rw [HS.out] at h2; omega)
  rw [if_neg he] at HN
  generalize (runT true s i).length = m at HR HN HLE
  clear HS
  have heq : ((x : Int) == 45) = false := by simp; omega
  clear he
  cases hm : ((m : Int) == 0)
  ·have hle := HLE.out
   go_enter Tryz.func148, Tryz.ntmps148
   go_wp2_with (go_at_call 151; refine HR.out.mono ?_; rintro e w' ⟨rfl, rfl⟩)
   go_ret
   refine Ret.i ?_
   rw [HN.out]; try omega
  ·have HM := hide (show m = 0 by simp at hm; omega)
   have hle := HLE.out
   go_enter Tryz.func148, Tryz.ntmps148
   go_wp2_with (go_at_call 151; refine HR.out.mono ?_; rintro e w' ⟨rfl, rfl⟩)
   go_ret
   refine Ret.i ?_
   rw [HN.out, HM.out]; rfl
end Go.Proofs.YtljglhaeonbfoaaGreatDoor
