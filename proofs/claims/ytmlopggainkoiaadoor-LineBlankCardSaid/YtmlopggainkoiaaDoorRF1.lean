/- The document's reading of a rune: at. -/
import Derived.Test.YtmlopggainkoiaaDoorRDa
import Derived.Test.YtmlopggainkoiaaDoorLX3
set_option linter.unusedSimpArgs false
set_option linter.unusedVariables false
namespace Go.Proofs.YtmlopggainkoiaaDoor
open Go.RowKit

def atR (s : ByteArray) (i : Nat) : Nat × Nat := if i < s.size ∧ goodAt s i = true then Utf8.decode s i else (0, 0)
/-- What has been read of a rune behind its first byte. -/
def accR (s : ByteArray) (i : Nat) (r0 : Int) : Nat → Int
  | 0 => r0
  | k + 1 => 64 * accR s i r0 k + ((s.get! (i + (k + 1))).toNat : Int) - 128
def contR (s : ByteArray) (i : Nat) : Nat → Bool
  | 0 => true
  | k + 1 => contR s i k && (decide (128 ≤ (s.get! (i + (k + 1))).toNat) && decide ((s.get! (i + (k + 1))).toNat ≤ 191))
/-- The lead byte's: how many bytes, the least rune, what it bears. -/
def leadR (c : Nat) : Nat × Int × Int := if 192 ≤ c ∧ c ≤ 223 then (2, 128, c - 192) else if 224 ≤ c ∧ c ≤ 239 then (3, 2048, c - 224) else if 240 ≤ c ∧ c ≤ 247 then (4, 65536, c - 240) else (0, 0, 0)
def slowR (s : ByteArray) (i m : Nat) (least r0 : Int) : Int × Nat :=
  if s.size < i + m ∨ contR s i (m - 1) = false then (0, 0)
  else if accR s i r0 (m - 1) < least ∨ 1114111 < accR s i r0 (m - 1) ∨ (55296 ≤ accR s i r0 (m - 1) ∧ accR s i r0 (m - 1) ≤ 57343) then (0, 0)
  else (accR s i r0 (m - 1), m)
theorem contR_bytes (s : ByteArray) (i : Nat) : ∀ k, contR s i k = true ↔ ∀ j, j < k → 128 ≤ (s.get! (i + (j + 1))).toNat ∧ (s.get! (i + (j + 1))).toNat ≤ 191
  | 0 => ⟨fun _ j h => by omega, fun _ => rfl⟩
  | k + 1 => by
    simp only [contR, Bool.and_eq_true, decide_eq_true_eq, contR_bytes s i k]
    constructor
    · rintro ⟨h1, h2⟩ j hj
      rcases Nat.lt_or_ge j k with h | h
      · exact h1 j h
      · obtain rfl : j = k := by omega
        exact h2
    · intro h
      exact ⟨fun j hj => h j (by omega), h k (by omega)⟩
set_option maxRecDepth 100000 in
theorem lead2 (n b0 b1 b2 b3 : Nat) (h0 : 192 ≤ b0) (h1 : b0 ≤ 223) : Lib.decodeN n b0 b1 b2 b3 = if 1 < n ∧ b1 / 64 = 2 ∧ 128 ≤ b0 % 32 * 64 + b1 % 64 then (b0 % 32 * 64 + b1 % 64, 2) else (65533, 1) := by
  unfold Lib.decodeN
  repeat' split
  all_goals first | (exfalso; omega) | rfl | (apply Prod.ext <;> simp only <;> omega)
set_option maxRecDepth 100000 in
theorem lead3 (n b0 b1 b2 b3 : Nat) (h0 : 224 ≤ b0) (h1 : b0 ≤ 239) : Lib.decodeN n b0 b1 b2 b3 = if 2 < n ∧ b1 / 64 = 2 ∧ b2 / 64 = 2 ∧ 2048 ≤ b0 % 16 * 4096 + b1 % 64 * 64 + b2 % 64 ∧ (b0 % 16 * 4096 + b1 % 64 * 64 + b2 % 64 < 55296 ∨ 57344 ≤ b0 % 16 * 4096 + b1 % 64 * 64 + b2 % 64) then (b0 % 16 * 4096 + b1 % 64 * 64 + b2 % 64, 3) else (65533, 1) := by
  unfold Lib.decodeN
  repeat' split
  all_goals first | (exfalso; omega) | rfl | (apply Prod.ext <;> simp only <;> omega)
set_option maxRecDepth 100000 in
theorem lead4 (n b0 b1 b2 b3 : Nat) (h0 : 240 ≤ b0) (h1 : b0 ≤ 247) : Lib.decodeN n b0 b1 b2 b3 = if 3 < n ∧ b1 / 64 = 2 ∧ b2 / 64 = 2 ∧ b3 / 64 = 2 ∧ 65536 ≤ b0 % 8 * 262144 + b1 % 64 * 4096 + b2 % 64 * 64 + b3 % 64 ∧ b0 % 8 * 262144 + b1 % 64 * 4096 + b2 % 64 * 64 + b3 % 64 ≤ 1114111 then (b0 % 8 * 262144 + b1 % 64 * 4096 + b2 % 64 * 64 + b3 % 64, 4) else (65533, 1) := by
  unfold Lib.decodeN
  repeat' split
  all_goals first | (exfalso; omega) | rfl | (apply Prod.ext <;> simp only <;> omega)
set_option maxRecDepth 100000 in
theorem lead0 (n b0 b1 b2 b3 : Nat) (h0 : 128 ≤ b0) (h1 : b0 < 192 ∨ 248 ≤ b0) : Lib.decodeN n b0 b1 b2 b3 = (65533, 1) := by
  unfold Lib.decodeN
  repeat' split
  all_goals first | (exfalso; omega) | rfl | (apply Prod.ext <;> simp only <;> omega)
/-- where the decoding is given by a test -/
theorem atR_if {s : ByteArray} {i : Nat} (h : i < s.size) (h0 : 128 ≤ (s.get! i).toNat) {c : Prop} [Decidable c] {r w : Nat} (hw : 1 < w) (hd : Utf8.decode s i = if c then (r, w) else (65533, 1)) : atR s i = if c then (r, w) else (0, 0) := by
  unfold atR goodAt
  have e : decide ((s.get! i).toNat < 128) = false := by simpa using h0
  rw [hd, e]
  by_cases hc : c
  · rw [if_pos hc, if_pos hc, if_pos ⟨h, by simp [hw]⟩]
  · rw [if_neg hc, if_neg hc, if_neg (by simp)]
theorem atR_ascii {s : ByteArray} {i : Nat} (h : i < s.size) (h0 : (s.get! i).toNat < 128) : atR s i = ((s.get! i).toNat, 1) := by
  unfold atR goodAt
  have e : decide ((s.get! i).toNat < 128) = true := by simpa using h0
  rw [e, if_pos ⟨h, rfl⟩, Lib.decode_at]
  unfold Lib.decodeN
  rw [if_pos h0]
theorem atR_zero {s : ByteArray} {i : Nat} (h : i < s.size) (h0 : 128 ≤ (s.get! i).toNat) (h1 : (s.get! i).toNat < 192 ∨ 248 ≤ (s.get! i).toNat) : atR s i = (0, 0) := by
  have hd := (Lib.decode_at s i).trans (lead0 _ _ _ _ _ h0 h1)
  unfold atR goodAt
  have e : decide ((s.get! i).toNat < 128) = false := by simpa using h0
  rw [hd, e, if_neg (by simp)]
theorem pair_cast (c : Prop) [Decidable c] (r w : Nat) : ((((if c then (r, w) else (0, 0)) : Nat × Nat).1 : Int), ((if c then (r, w) else (0, 0)) : Nat × Nat).2) = if c then ((r : Int), w) else (0, 0) := by split <;> rfl
theorem slow_eq2 (s : ByteArray) (i : Nat) (h : i < s.size) (h0 : 192 ≤ (s.get! i).toNat) (h1 : (s.get! i).toNat ≤ 223) : slowR s i 2 128 ((s.get! i).toNat - 192) = (((atR s i).1 : Int), (atR s i).2) := by
  rw [atR_if h (by omega) (by decide) ((Lib.decode_at s i).trans (lead2 _ _ _ _ _ h0 h1)), pair_cast]
  unfold slowR
  have b1 := byte_lt (s.get! (i + 1))
  simp only [show (2 : Nat) - 1 = 0 + 1 from rfl, contR, accR]
  generalize (s.get! i).toNat = x0 at *
  generalize (s.get! (i + (0 + 1))).toNat = x1 at *
  by_cases hc : 1 < s.size - i ∧ x1 / 64 = 2 ∧ 128 ≤ x0 % 32 * 64 + x1 % 64
  · rw [if_pos hc, if_neg (by simp; omega), if_neg (by omega)]
    refine Prod.ext ?_ rfl
    simp only; omega
  · rw [if_neg hc]
    split
    · rfl
    · rename_i hn
      simp at hn
      rw [if_pos (by omega)]
theorem slow_eq3 (s : ByteArray) (i : Nat) (h : i < s.size) (h0 : 224 ≤ (s.get! i).toNat) (h1 : (s.get! i).toNat ≤ 239) : slowR s i 3 2048 ((s.get! i).toNat - 224) = (((atR s i).1 : Int), (atR s i).2) := by
  rw [atR_if h (by omega) (by decide) ((Lib.decode_at s i).trans (lead3 _ _ _ _ _ h0 h1)), pair_cast]
  unfold slowR
  have b1 := byte_lt (s.get! (i + 1)); have b2 := byte_lt (s.get! (i + 2))
  simp only [show (3 : Nat) - 1 = 0 + 1 + 1 from rfl, contR, accR]
  generalize (s.get! i).toNat = x0 at *
  generalize (s.get! (i + (0 + 1))).toNat = x1 at *
  generalize (s.get! (i + (0 + 1 + 1))).toNat = x2 at *
  by_cases hc : 2 < s.size - i ∧ x1 / 64 = 2 ∧ x2 / 64 = 2 ∧ 2048 ≤ x0 % 16 * 4096 + x1 % 64 * 64 + x2 % 64 ∧ (x0 % 16 * 4096 + x1 % 64 * 64 + x2 % 64 < 55296 ∨ 57344 ≤ x0 % 16 * 4096 + x1 % 64 * 64 + x2 % 64)
  · rw [if_pos hc, if_neg (by simp; omega), if_neg (by omega)]
    refine Prod.ext ?_ rfl
    simp only; omega
  · rw [if_neg hc]
    split
    · rfl
    · rename_i hn
      simp at hn
      rw [if_pos (by omega)]
theorem slow_eq4 (s : ByteArray) (i : Nat) (h : i < s.size) (h0 : 240 ≤ (s.get! i).toNat) (h1 : (s.get! i).toNat ≤ 247) : slowR s i 4 65536 ((s.get! i).toNat - 240) = (((atR s i).1 : Int), (atR s i).2) := by
  rw [atR_if h (by omega) (by decide) ((Lib.decode_at s i).trans (lead4 _ _ _ _ _ h0 h1)), pair_cast]
  unfold slowR
  have b1 := byte_lt (s.get! (i + 1)); have b2 := byte_lt (s.get! (i + 2)); have b3 := byte_lt (s.get! (i + 3))
  simp only [show (4 : Nat) - 1 = 0 + 1 + 1 + 1 from rfl, contR, accR]
  generalize (s.get! i).toNat = x0 at *
  generalize (s.get! (i + (0 + 1))).toNat = x1 at *
  generalize (s.get! (i + (0 + 1 + 1))).toNat = x2 at *
  generalize (s.get! (i + (0 + 1 + 1 + 1))).toNat = x3 at *
  by_cases hc : 3 < s.size - i ∧ x1 / 64 = 2 ∧ x2 / 64 = 2 ∧ x3 / 64 = 2 ∧ 65536 ≤ x0 % 8 * 262144 + x1 % 64 * 4096 + x2 % 64 * 64 + x3 % 64 ∧ x0 % 8 * 262144 + x1 % 64 * 4096 + x2 % 64 * 64 + x3 % 64 ≤ 1114111
  · rw [if_pos hc, if_neg (by simp; omega), if_neg (by omega)]
    refine Prod.ext ?_ rfl
    simp only; omega
  · rw [if_neg hc]
    split
    · rfl
    · rename_i hn
      simp at hn
      rw [if_pos (by omega)]
end Go.Proofs.YtmlopggainkoiaaDoor
