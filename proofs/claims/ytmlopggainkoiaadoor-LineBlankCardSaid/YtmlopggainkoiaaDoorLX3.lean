/- A text's runes, one behind the other, as a range over it hands them over; -1: a byte that opens none. -/
import Derived.Test.YtmlopggainkoiaaDoorLX2
import Derived.Lib.DecodeN
import Derived.Lib.RuneCount
import Derived.Lib.Strings
set_option linter.unusedSimpArgs false
set_option linter.unusedVariables false
namespace Go.Proofs.YtmlopggainkoiaaDoor

def goodAt (s : ByteArray) (i : Nat) : Bool := decide ((s.get! i).toNat < 128) || decide (1 < (Utf8.decode s i).2)
def itemsF (s : ByteArray) : Nat → Nat → List Int
  | 0, _ => []
  | f + 1, pos => if pos < s.size then (if goodAt s pos = true then ((Utf8.decode s pos).1 : Int) :: itemsF s f (pos + (Utf8.decode s pos).2) else [-1]) else []
def items (s : ByteArray) (pos : Nat) : List Int := itemsF s (s.size - pos) pos
theorem itemsF_more (s : ByteArray) : ∀ (f g pos : Nat), s.size - pos ≤ f → s.size - pos ≤ g → itemsF s f pos = itemsF s g pos
  | 0, 0, _, _, _ => rfl
  | 0, g + 1, pos, h, _ => by
    show [] = itemsF s (g + 1) pos
    unfold itemsF; rw [if_neg (by omega)]
  | f + 1, 0, pos, _, h => by
    show itemsF s (f + 1) pos = []
    unfold itemsF; rw [if_neg (by omega)]
  | f + 1, g + 1, pos, hf, hg => by
    unfold itemsF
    by_cases hp : pos < s.size
    · have hw := Lib.decode_width_pos s pos hp
      rw [if_pos hp, if_pos hp, itemsF_more s f g _ (by omega) (by omega)]
    · rw [if_neg hp, if_neg hp]
theorem items_end {s : ByteArray} {pos : Nat} (h : ¬ pos < s.size) : items s pos = [] := by
  unfold items
  rw [show s.size - pos = 0 by omega]; rfl
theorem items_good {s : ByteArray} {pos : Nat} (h : pos < s.size) (hg : goodAt s pos = true) : items s pos = ((Utf8.decode s pos).1 : Int) :: items s (pos + (Utf8.decode s pos).2) := by
  have hw := Lib.decode_width_pos s pos h
  unfold items
  obtain ⟨f, hf⟩ : ∃ f, s.size - pos = f + 1 := ⟨s.size - pos - 1, by omega⟩
  rw [hf]
  show (if pos < s.size then (if goodAt s pos = true then ((Utf8.decode s pos).1 : Int) :: itemsF s f (pos + (Utf8.decode s pos).2) else [-1]) else []) = _
  rw [if_pos h, if_pos hg, itemsF_more s f (s.size - (pos + (Utf8.decode s pos).2)) _ (by omega) (Nat.le_refl _)]
theorem items_bad {s : ByteArray} {pos : Nat} (h : pos < s.size) (hg : goodAt s pos = false) : items s pos = [-1] := by
  unfold items
  obtain ⟨f, hf⟩ : ∃ f, s.size - pos = f + 1 := ⟨s.size - pos - 1, by omega⟩
  rw [hf]
  show (if pos < s.size then (if goodAt s pos = true then ((Utf8.decode s pos).1 : Int) :: itemsF s f (pos + (Utf8.decode s pos).2) else [-1]) else []) = _
  rw [if_pos h, if_neg (by simp [hg])]

/-! ### bytes -/
theorem get_drop {s : ByteArray} {pos : Nat} {x : UInt8} {t : List UInt8} (h : s.data.toList.drop pos = x :: t) : pos < s.size ∧ s.get! pos = x ∧ s.data.toList.drop (pos + 1) = t := by
  have hl : pos < s.data.toList.length := by
    rcases Nat.lt_or_ge pos s.data.toList.length with h' | h'
    · exact h'
    · rw [List.drop_eq_nil_of_le h'] at h; cases h
  have e := List.drop_eq_getElem_cons hl
  rw [h] at e
  injection e with e1 e2
  refine ⟨by simpa using hl, ?_, e2.symm⟩
  rw [e1]
  have hl' : pos < s.data.size := by simpa using hl
  show s.data[pos]! = _
  rw [getElem!_pos s.data pos hl']; simp
theorem drop_get {s : ByteArray} {pos : Nat} (h : pos < s.size) : s.data.toList.drop pos = s.get! pos :: s.data.toList.drop (pos + 1) := by
  have hl : pos < s.data.toList.length := by simpa using h
  have e := List.drop_eq_getElem_cons hl
  obtain ⟨_, h2, h3⟩ := get_drop e
  rw [e, h2]
theorem extract_list (s : ByteArray) (i j : Nat) : (s.extract i j).data.toList = (s.data.toList.drop i).take (j - i) := by
  rw [ByteArray.data_extract, Array.toList_extract, List.extract_eq_take_drop]
theorem extract_end (s : ByteArray) (i : Nat) : (s.extract i s.size).data.toList = s.data.toList.drop i := by
  rw [extract_list, List.take_of_length_le (by simp)]

/-- What a place decodes to, by its bytes. -/
theorem decodeN_cases (n b0 b1 b2 b3 : Nat) (h0 : b0 < 256) (h1 : b1 < 256) (h2 : b2 < 256) (h3 : b3 < 256) (D : Nat × Nat) (hD : Lib.decodeN n b0 b1 b2 b3 = D) :
    (b0 < 128 ∧ D = (b0, 1)) ∨ (128 ≤ b0 ∧ D = (65533, 1) ∧ ¬ (b0 = 239 ∧ b1 = 191 ∧ b2 = 189 ∧ 2 < n)) ∨
    (1 < n ∧ 128 ≤ b0 ∧ D.2 = 2 ∧ 128 ≤ D.1 ∧ D.1 < 2048 ∧ b0 / 32 = 6 ∧ b1 / 64 = 2 ∧ D.1 = b0 % 32 * 64 + b1 % 64) ∨
    (2 < n ∧ 128 ≤ b0 ∧ D.2 = 3 ∧ b0 / 16 = 14 ∧ b1 / 64 = 2 ∧ b2 / 64 = 2 ∧ D.1 = b0 % 16 * 4096 + b1 % 64 * 64 + b2 % 64 ∧ 2048 ≤ D.1 ∧ (D.1 < 55296 ∨ 57344 ≤ D.1)) ∨
    (3 < n ∧ 128 ≤ b0 ∧ D.2 = 4 ∧ 65536 ≤ D.1 ∧ D.1 ≤ 1114111 ∧ b0 / 8 = 30 ∧ b1 / 64 = 2 ∧ b2 / 64 = 2 ∧ b3 / 64 = 2 ∧ D.1 = b0 % 8 * 262144 + b1 % 64 * 4096 + b2 % 64 * 64 + b3 % 64) := by
  unfold Lib.decodeN at hD
  split at hD
  · exact .inl ⟨by omega, hD.symm⟩
  · right
    split at hD
    · split at hD
      · subst hD; exact .inr (.inl ⟨by omega, by omega, rfl, by show 128 ≤ b0 % 32 * 64 + b1 % 64; omega, by show b0 % 32 * 64 + b1 % 64 < 2048; omega, by omega, by omega, rfl⟩)
      · subst hD; exact .inl ⟨by omega, rfl, by omega⟩
    · split at hD
      · split at hD
        · subst hD; exact .inr (.inr (.inl ⟨by omega, by omega, rfl, by omega, by omega, by omega, rfl, by show 2048 ≤ b0 % 16 * 4096 + b1 % 64 * 64 + b2 % 64; omega, by show b0 % 16 * 4096 + b1 % 64 * 64 + b2 % 64 < 55296 ∨ 57344 ≤ b0 % 16 * 4096 + b1 % 64 * 64 + b2 % 64; omega⟩))
        · rename_i hx hy hz hw
          subst hD
          refine .inl ⟨by omega, rfl, ?_⟩
          rintro ⟨rfl, rfl, rfl, hn⟩
          exact hw ⟨by decide, .inr ⟨by decide, by decide⟩⟩
      · split at hD
        · split at hD
          · rename_i hw
            subst hD; exact .inr (.inr (.inr ⟨by omega, by omega, rfl, hw.1, by show b0 % 8 * 262144 + b1 % 64 * 4096 + b2 % 64 * 64 + b3 % 64 ≤ 1114111; omega, by omega, by omega, by omega, by omega, rfl⟩))
          · subst hD; exact .inl ⟨by omega, rfl, by omega⟩
        · rename_i hx hy hz hw
          subst hD
          refine .inl ⟨by omega, rfl, ?_⟩
          rintro ⟨rfl, rfl, rfl, hn⟩
          exact hz ⟨by decide, ⟨by omega, by decide⟩, ⟨by omega, by decide⟩⟩
theorem decode_ff (n b0 b1 b2 b3 : Nat) (h : (Lib.decodeN n b0 b1 b2 b3).1 = 65533) (h0 : b0 < 256) (h1 : b1 < 256) (h2 : b2 < 256) (h3 : b3 < 256) :
    128 ≤ b0 ∧ ((Lib.decodeN n b0 b1 b2 b3).2 = 3 ∧ b0 = 239 ∧ b1 = 191 ∧ b2 = 189 ∧ 2 < n ∨ (Lib.decodeN n b0 b1 b2 b3).2 = 1 ∧ ¬ (b0 = 239 ∧ b1 = 191 ∧ b2 = 189 ∧ 2 < n)) := by
  obtain ⟨D, hD⟩ : ∃ D, Lib.decodeN n b0 b1 b2 b3 = D := ⟨_, rfl⟩
  rw [hD] at h ⊢
  rcases decodeN_cases n b0 b1 b2 b3 h0 h1 h2 h3 D hD with ⟨_, e⟩ | ⟨a, e, b⟩ | ⟨_, _, a, b, c, _⟩ | ⟨a, a', b, c, d, e, f, _⟩ | ⟨_, _, a, b, c, _⟩
  · rw [e] at h; simp only at h; omega
  · exact ⟨a, .inr ⟨by rw [e], b⟩⟩
  · omega
  · exact ⟨a', .inl ⟨b, by omega, by omega, by omega, a⟩⟩
  · omega
theorem byte_lt (x : UInt8) : x.toNat < 256 := x.toNat_lt
theorem toNat_eq {x : UInt8} {n : Nat} (hn : n < 256) : x = UInt8.ofNat n ↔ x.toNat = n := by
  constructor
  · rintro rfl; simp; omega
  · intro h
    apply UInt8.toNat_inj.1
    rw [h]; simp; omega
theorem prefix3 (l : List UInt8) (a b c : UInt8) : Lib.hasPrefix l [a, b, c] = true ↔ ∃ t, l = a :: b :: c :: t := by
  unfold Lib.hasPrefix
  rw [List.isPrefixOf_iff_prefix]
  constructor
  · rintro ⟨t, rfl⟩; exact ⟨t, rfl⟩
  · rintro ⟨t, rfl⟩; exact ⟨t, rfl⟩
/-- where the rune is U+FFFD, it is well written just if it stands there -/
theorem good_ff {s : ByteArray} {pos : Nat} (h : pos < s.size) (hr : (Utf8.decode s pos).1 = 65533) : goodAt s pos = Lib.hasPrefix (s.extract pos s.size).data.toList [239, 191, 189] := by
  have hd := Lib.decode_at s pos
  have key := decode_ff (s.size - pos) (s.get! pos).toNat (s.get! (pos + 1)).toNat (s.get! (pos + 2)).toNat (s.get! (pos + 3)).toNat (by rw [← hd]; exact hr) (byte_lt _) (byte_lt _) (byte_lt _) (byte_lt _)
  rw [← hd] at key
  obtain ⟨k0, key⟩ := key
  unfold goodAt
  have h128 : decide ((s.get! pos).toNat < 128) = false := by simpa using k0
  rw [h128, Bool.false_or, extract_end]
  rcases key with ⟨hw, h0, h1, h2, hn⟩ | ⟨hw, hno⟩
  · rw [hw]
    have e0 : s.get! pos = 239 := (toNat_eq (n := 239) (by decide)).2 h0
    have e1 : s.get! (pos + 1) = 191 := (toNat_eq (n := 191) (by decide)).2 h1
    have e2 : s.get! (pos + 2) = 189 := (toNat_eq (n := 189) (by decide)).2 h2
    rw [drop_get h, drop_get (show pos + 1 < s.size by omega), drop_get (show pos + 1 + 1 < s.size by omega), e0, e1, e2]
    rfl
  · rw [hw]
    symm
    show Lib.hasPrefix _ _ = decide (1 < 1)
    cases hp : Lib.hasPrefix (s.data.toList.drop pos) [239, 191, 189] with
    | false => rfl
    | true =>
      obtain ⟨t, ht⟩ := (prefix3 _ _ _ _).1 hp
      obtain ⟨a1, a2, a3⟩ := get_drop ht
      obtain ⟨b1, b2, b3⟩ := get_drop a3
      obtain ⟨c1, c2, c3⟩ := get_drop b3
      exact absurd ⟨by rw [a2]; rfl, by rw [b2]; rfl, by rw [show pos + 2 = pos + 1 + 1 from rfl, c2]; rfl, by omega⟩ hno
/-- where it is another one, it is well written -/
theorem good_not {s : ByteArray} {pos : Nat} (hr : (Utf8.decode s pos).1 ≠ 65533) : goodAt s pos = true := by
  unfold goodAt
  rcases decodeN_cases (s.size - pos) _ _ _ _ (byte_lt (s.get! pos)) (byte_lt (s.get! (pos + 1))) (byte_lt (s.get! (pos + 2))) (byte_lt (s.get! (pos + 3))) (Utf8.decode s pos) (Lib.decode_at s pos).symm with ⟨a, _⟩ | ⟨_, e, _⟩ | ⟨_, _, a, _⟩ | ⟨_, _, a, _⟩ | ⟨_, _, a, _⟩
  · simp [a]
  · exact absurd (by rw [e]) hr
  · simp [a]
  · simp [a]
  · simp [a]
theorem width_le {s : ByteArray} {pos : Nat} (h : pos < s.size) : pos + (Utf8.decode s pos).2 ≤ s.size := by
  rcases decodeN_cases (s.size - pos) _ _ _ _ (byte_lt (s.get! pos)) (byte_lt (s.get! (pos + 1))) (byte_lt (s.get! (pos + 2))) (byte_lt (s.get! (pos + 3))) (Utf8.decode s pos) (Lib.decode_at s pos).symm with ⟨_, e⟩ | ⟨_, e, _⟩ | ⟨_, _, a, _⟩ | ⟨_, _, a, _⟩ | ⟨_, _, a, _⟩
  · rw [e]; simp only; omega
  · rw [e]; simp only; omega
  · omega
  · omega
  · omega
end Go.Proofs.YtmlopggainkoiaaDoor
