/- The number that a text tells: the document's value, and Atoi. -/
import Derived.Test.YtmlopggainkoiaaDoorLX4
import Derived.Test.YtmlopggainkoiaaDoorRDc
set_option linter.unusedSimpArgs false
set_option linter.unusedVariables false
namespace Go.Proofs.YtmlopggainkoiaaDoor

def valF : Nat → List UInt8 → Option Nat
  | acc, [] => some acc
  | acc, c :: l => if c = 45 then valF acc l else if 1099511627776 < 10 * acc + (c.toNat - 48) then none else valF (10 * acc + (c.toNat - 48)) l
def valW (l : List UInt8) : Int × Bool := match valF 0 l with
  | none => (0, false)
  | some v => (if l.head? = some 45 then -(v : Int) else v, true)
/-- what digits spell -/
def spell : Nat → List UInt8 → Nat
  | acc, [] => acc
  | acc, c :: l => spell (10 * acc + (c.toNat - 48)) l
def DigB (l : List UInt8) : Prop := ∀ c ∈ l, 48 ≤ c.toNat ∧ c.toNat ≤ 57
theorem spell_ge : ∀ (l : List UInt8) (acc : Nat), acc ≤ spell acc l
  | [], acc => Nat.le_refl _
  | c :: l, acc => Nat.le_trans (by omega) (spell_ge l (10 * acc + (c.toNat - 48)))
theorem valF_spell : ∀ (l : List UInt8) (acc : Nat), DigB l → acc ≤ 1099511627776 → valF acc l = if spell acc l ≤ 1099511627776 then some (spell acc l) else none
  | [], acc, _, h => by show some acc = if acc ≤ 1099511627776 then some acc else none; exact (if_pos h).symm
  | c :: l, acc, hd, h => by
    have hc := hd c (by simp)
    have hne : c ≠ 45 := by rintro rfl; exact absurd hc.1 (by decide)
    unfold valF spell
    rw [if_neg hne]
    by_cases hb : 1099511627776 < 10 * acc + (c.toNat - 48)
    · have := spell_ge l (10 * acc + (c.toNat - 48))
      rw [if_pos hb, if_neg (by omega)]
    · rw [if_neg hb, valF_spell l _ (fun x hx => hd x (by simp [hx])) (by omega)]
theorem parse_spell : ∀ (l : List UInt8) (acc : Nat), DigB l → acc < 18446744073709551616 → Lib.parseUint10 acc l = if spell acc l < 18446744073709551616 then .ok (spell acc l) else .range
  | [], acc, _, h => by show Lib.NumEnd.ok acc = if acc < 18446744073709551616 then Lib.NumEnd.ok acc else Lib.NumEnd.range; exact (if_pos h).symm
  | c :: l, acc, hd, h => by
    have hc := hd c (by simp)
    have hge := spell_ge l (10 * acc + (c.toNat - 48))
    unfold Lib.parseUint10 spell
    rw [if_pos hc]
    by_cases h1 : 1844674407370955162 ≤ acc
    · rw [if_pos h1, if_neg (by omega)]
    · rw [if_neg h1]
      by_cases h2 : 18446744073709551616 ≤ acc * 10 + (c.toNat - 48)
      · rw [if_pos h2, if_neg (by omega)]
      · rw [if_neg h2, Nat.mul_comm acc 10, parse_spell l _ (fun x hx => hd x (by simp [hx])) (by omega)]
theorem atoi_plain (l : List UInt8) (hd : DigB l) (hne : l ≠ []) : Lib.atoiAll l = if spell 0 l < 9223372036854775808 then .ok (spell 0 l : Int) else .range := by
  cases l with
  | nil => exact absurd rfl hne
  | cons c r =>
    have hc := hd c (by simp)
    unfold Lib.atoiAll
    simp only
    rw [if_neg (by omega)]
    unfold Lib.parseMag
    rw [if_neg (by simp), parse_spell _ 0 hd (by decide)]
    by_cases h1 : spell 0 (c :: r) < 9223372036854775808
    · rw [if_pos (by omega), if_pos h1]
      simp only
      rw [if_neg (by omega), if_neg (by omega), if_neg (by omega)]
    · rw [if_neg h1]
      by_cases h2 : spell 0 (c :: r) < 18446744073709551616
      · rw [if_pos h2]
        simp only
        rw [if_pos (by omega)]
      · rw [if_neg h2]
theorem atoi_minus (l : List UInt8) (hd : DigB l) (hne : l ≠ []) : Lib.atoiAll (45 :: l) = if spell 0 l ≤ 9223372036854775808 then .ok (-(spell 0 l : Int)) else .range := by
  have hm : Lib.parseMag l = if spell 0 l < 18446744073709551616 then .ok (spell 0 l) else .range := by
    unfold Lib.parseMag; rw [if_neg hne, parse_spell _ 0 hd (by decide)]
  have e : (45 : UInt8).toNat = 45 := rfl
  unfold Lib.atoiAll
  simp only [e, or_true, if_true, hm, true_and, not_true_eq_false, false_and, if_false]
  by_cases h1 : spell 0 l ≤ 9223372036854775808
  · rw [if_pos h1, if_pos (show spell 0 l < 18446744073709551616 by omega)]
    simp only
    rw [if_neg (by omega)]
  · rw [if_neg h1]
    by_cases h2 : spell 0 l < 18446744073709551616
    · rw [if_pos h2]
      simp only
      rw [if_pos (by omega)]
    · rw [if_neg h2]
theorem bad_of {s : ByteArray} {V B : Nat} {x : Int} (hx : x = V ∨ x = -V) (hB : 1099511627776 ≤ B) (hA : Lib.atoiAll s.data.toList = if V ≤ B then .ok x else .range) :
    numBad s = decide (1099511627776 < V) ∧ (V ≤ 1099511627776 → numN s = x) := by
  unfold numBad numN
  rw [hA]
  by_cases h : V ≤ B
  · rw [if_pos h]
    refine ⟨?_, fun _ => rfl⟩
    simp only
    rw [Bool.eq_iff_iff]
    simp only [Bool.or_eq_true, decide_eq_true_eq]
    omega
  · rw [if_neg h]
    refine ⟨?_, fun h' => absurd (Nat.le_trans h' hB) h⟩
    simp only
    symm
    simp only [decide_eq_true_eq]
    omega
theorem valF_minus (acc : Nat) (l : List UInt8) : valF acc (45 :: l) = valF acc l := by show (if (45 : UInt8) = 45 then _ else _) = _; rw [if_pos rfl]
theorem value_plain (l : List UInt8) (hd : DigB l) (hne : l ≠ []) (s : ByteArray) (hs : s.data.toList = l) : valW l = if numBad s = true then (0, false) else (numN s, true) := by
  have ha := atoi_plain l hd hne
  obtain ⟨b1, b2⟩ := bad_of (s := s) (V := spell 0 l) (B := 9223372036854775807) (x := spell 0 l) (.inl rfl) (by decide) (by
    rw [hs, ha]
    by_cases h : spell 0 l < 9223372036854775808
    · rw [if_pos h, if_pos (by omega)]
    · rw [if_neg h, if_neg (by omega)])
  have hh : l.head? ≠ some 45 := by
    cases l with
    | nil => exact absurd rfl hne
    | cons c r => intro h; simp at h; have := hd c (by simp); rw [h] at this; exact absurd this.1 (by decide)
  rw [b1]
  unfold valW
  rw [valF_spell l 0 hd (by omega)]
  by_cases h1 : spell 0 l ≤ 1099511627776
  · rw [if_pos h1, if_neg (by simp only [decide_eq_true_eq]; omega), b2 h1]
    simp only
    rw [if_neg hh]
  · rw [if_neg h1, if_pos (by simp only [decide_eq_true_eq]; omega)]
theorem value_minus (l : List UInt8) (hd : DigB l) (hne : l ≠ []) (s : ByteArray) (hs : s.data.toList = 45 :: l) : valW (45 :: l) = if numBad s = true then (0, false) else (numN s, true) := by
  have ha := atoi_minus l hd hne
  obtain ⟨b1, b2⟩ := bad_of (s := s) (V := spell 0 l) (B := 9223372036854775808) (x := -(spell 0 l : Int)) (.inr rfl) (by decide) (by rw [hs, ha])
  rw [b1]
  unfold valW
  rw [valF_minus, valF_spell l 0 hd (by omega)]
  by_cases h1 : spell 0 l ≤ 1099511627776
  · rw [if_pos h1, if_neg (by simp only [decide_eq_true_eq]; omega), b2 h1]
    rfl
  · rw [if_neg h1, if_pos (by simp only [decide_eq_true_eq]; omega)]
/-! ### ASCII runes -/
def Asc (t : List Int) : Prop := ∀ x ∈ t, 0 ≤ x ∧ x < 128
theorem asc_bytes : ∀ (t : List Int), Asc t → (runesBytes t).data.toList = t.map fun x => UInt8.ofNat x.toNat
  | [], _ => by rw [runesBytes_list]; rfl
  | c :: t, h => by
    obtain ⟨h0, h1⟩ := h c (by simp)
    have ih := asc_bytes t (fun x hx => h x (by simp [hx]))
    rw [runesBytes_list] at ih ⊢
    rw [List.flatMap_cons, ih, List.map_cons]
    obtain ⟨n, rfl⟩ : ∃ n : Nat, c = n := ⟨c.toNat, by omega⟩
    rw [enc1 (by omega)]; rfl
theorem asc_size (t : List Int) (h : Asc t) : (runesBytes t).size = t.length := by rw [size_list, asc_bytes t h, List.length_map]
theorem NumT.asc {t : List Int} (h : NumT t) : Asc t := by
  obtain ⟨d, h1, h2, h3⟩ := h
  have hd : Asc d := fun x hx => by have := isD_iff.1 (h2 x hx); omega
  rcases h3 with rfl | rfl
  · exact hd
  · intro x hx
    rcases List.mem_cons.1 hx with rfl | h
    · decide
    · exact hd x h
theorem digB_of {d : List Int} (h : ∀ x ∈ d, isD x = true) : DigB (d.map fun x => UInt8.ofNat x.toNat) := by
  intro c hc
  obtain ⟨x, hx, rfl⟩ := List.mem_map.1 hc
  have := isD_iff.1 (h x hx)
  rw [UInt8.toNat_ofNat_of_lt' (by show x.toNat < 256; omega)]
  omega
/-- THE DOCUMENT's VALUE of a number's text. -/
theorem value_num {t : List Int} (h : NumT t) : valW (runesBytes t).data.toList = if numBad (runesBytes t) = true then (0, false) else (numN (runesBytes t), true) := by
  have ha := asc_bytes t h.asc
  obtain ⟨d, h1, h2, h3⟩ := h
  have hne : (d.map fun x => UInt8.ofNat x.toNat) ≠ [] := by cases d <;> simp_all
  rcases h3 with rfl | rfl
  · rw [ha]; exact value_plain _ (digB_of h2) hne _ ha
  · rw [ha]; exact value_minus _ (digB_of h2) hne _ ha
theorem NumT.bytes {t : List Int} (h : NumT t) : ∀ c ∈ (runesBytes t).data.toList, c = 45 ∨ (48 ≤ c.toNat ∧ c.toNat ≤ 57) := by
  have ha := asc_bytes t h.asc
  obtain ⟨d, h1, h2, h3⟩ := h
  rw [ha]
  rcases h3 with rfl | rfl
  · exact fun c hc => .inr (digB_of h2 c hc)
  · intro c hc
    rw [List.map_cons] at hc
    rcases List.mem_cons.1 hc with rfl | h
    · exact .inl rfl
    · exact .inr (digB_of h2 c h)
end Go.Proofs.YtmlopggainkoiaaDoor
