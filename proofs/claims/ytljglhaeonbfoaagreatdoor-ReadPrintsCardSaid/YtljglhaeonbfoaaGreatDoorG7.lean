/- The document's reading of a rune: at. The document's at: the walk. Texts as the runes that they are written of: pieces, and what they read as. The document's run, numbers. The number that a text tells: the document's value, and Atoi. The document's value, numbers: the walks. -/
import Derived.Test.YtljglhaeonbfoaaGreatDoorG4
import Derived.Test.YtljglhaeonbfoaaGreatDoorG6
import Derived.Test.YtljglhaeonbfoaaGreatDoorG5
set_option linter.unusedSimpArgs false
set_option linter.unusedVariables false
namespace Go.Proofs.YtljglhaeonbfoaaGreatDoor
open Go.RowKit
end Go.Proofs.YtljglhaeonbfoaaGreatDoor
namespace Go.Proofs.YtljglhaeonbfoaaGreatDoor
open Go.RowKit
end Go.Proofs.YtljglhaeonbfoaaGreatDoor
namespace Go.Proofs.YtljglhaeonbfoaaGreatDoor
theorem bytes_ext {a b : ByteArray} (h : a.data.toList = b.data.toList) : a = b := by
 cases a; cases b; congr 1; exact Array.toList_inj.1 h
theorem foldl_bytes (l : List Int) (a : ByteArray) : (l.foldl (fun r n => r ++ Utf8.encode n) a).data.toList = a.data.toList ++ l.flatMap fun n => (Utf8.encode n).data.toList := by
 induction l generalizing a with
 | nil => simp
 | cons x l ih => rw [List.foldl_cons, ih]; simp [List.flatMap_cons]
theorem runesBytes_list (l : List Int) : (runesBytes l).data.toList = l.flatMap fun n => (Utf8.encode n).data.toList := by
 unfold runesBytes; rw [foldl_bytes]; simp
theorem runesBytes_append (a b : List Int) : runesBytes (a ++ b) = runesBytes a ++ runesBytes b := by
 apply bytes_ext; rw [runesBytes_list, List.flatMap_append]; simp [runesBytes_list]
theorem runesBytes_one (c : Int) : runesBytes [c] = Utf8.encode c := by apply bytes_ext; rw [runesBytes_list]; simp
theorem runesBytes_cons (c : Int) (l : List Int) : runesBytes (c :: l) = Utf8.encode c ++ runesBytes l := by
 rw [← runesBytes_one, ← runesBytes_append]; rfl
theorem size_list (s : ByteArray) : s.size = s.data.toList.length := by simp
theorem u8 (x : UInt8) (n : Nat) (h : x.toNat = n) : UInt8.ofNat n = x := by subst h; simp
set_option maxRecDepth 1000000 in
theorem enc1 {c : Nat} (h : c < 128) : (Utf8.encode (c : Int)).data.toList = [UInt8.ofNat c] := by
 unfold Utf8.encode Utf8.valid
 have e : (decide ((0 : Int) ≤ c) && decide ((c : Int) < 55296) || decide ((57344 : Int) ≤ c) && decide ((c : Int) ≤ 1114111)) = true := by simp; omega
 simp only [e, if_true]
 rw [if_pos (by simpa using h)]; simp
set_option maxRecDepth 1000000 in
theorem enc2 {c : Nat} (h : 128 ≤ c) (h' : c < 2048) : (Utf8.encode (c : Int)).data.toList = [UInt8.ofNat (192 + c / 64), UInt8.ofNat (128 + c % 64)] := by
 unfold Utf8.encode Utf8.valid
 have e : (decide ((0 : Int) ≤ c) && decide ((c : Int) < 55296) || decide ((57344 : Int) ≤ c) && decide ((c : Int) ≤ 1114111)) = true := by simp; omega
 simp only [e, if_true]
 rw [if_neg (by simp; omega), if_pos (by simp; omega)]; simp
set_option maxRecDepth 1000000 in
theorem enc3 {c : Nat} (h : 2048 ≤ c) (h' : c < 65536) (hs : c < 55296 ∨ 57344 ≤ c) : (Utf8.encode (c : Int)).data.toList = [UInt8.ofNat (224 + c / 4096), UInt8.ofNat (128 + c / 64 % 64), UInt8.ofNat (128 + c % 64)] := by
 unfold Utf8.encode Utf8.valid
 have e : (decide ((0 : Int) ≤ c) && decide ((c : Int) < 55296) || decide ((57344 : Int) ≤ c) && decide ((c : Int) ≤ 1114111)) = true := by simp; omega
 simp only [e, if_true]
 rw [if_neg (by simp; omega), if_neg (by simp; omega), if_pos (by simp; omega)]; simp
set_option maxRecDepth 1000000 in
theorem enc4 {c : Nat} (h : 65536 ≤ c) (h' : c ≤ 1114111) : (Utf8.encode (c : Int)).data.toList = [UInt8.ofNat (240 + c / 262144), UInt8.ofNat (128 + c / 4096 % 64), UInt8.ofNat (128 + c / 64 % 64), UInt8.ofNat (128 + c % 64)] := by
 unfold Utf8.encode Utf8.valid
 have e : (decide ((0 : Int) ≤ c) && decide ((c : Int) < 55296) || decide ((57344 : Int) ≤ c) && decide ((c : Int) ≤ 1114111)) = true := by simp; omega
 simp only [e, if_true]
 rw [if_neg (by simp; omega), if_neg (by simp; omega), if_neg (by simp; omega)]; simp
theorem encode_decode {s : ByteArray} {i : Nat} (h : i < s.size) (hg : goodAt s i = true) : (Utf8.encode ((Utf8.decode s i).1 : Int)).data.toList = (s.data.toList.drop i).take (Utf8.decode s i).2 := by
 have l0 := byte_lt (s.get! i); have l1 := byte_lt (s.get! (i + 1)); have l2 := byte_lt (s.get! (i + 2)); have l3 := byte_lt (s.get! (i + 3))
 rcases decodeN_cases (s.size - i) _ _ _ _ l0 l1 l2 l3 (Utf8.decode s i) (Lib.decode_at s i).symm with ⟨a, e⟩ | ⟨a, e, no⟩ | ⟨a, b, c, d, f, g, k, l⟩ | ⟨a, b, c, d, f, g, k, l, m⟩ | ⟨a, b, c, d, f, g, k, l, m, n⟩
 ·rw [e]
  simp only
  rw [enc1 a, drop_get h, List.take_succ_cons, List.take_zero, u8 _ _ rfl]
 ·unfold goodAt at hg
  rw [e] at hg; simp at hg; omega
 ·rw [c, enc2 d f, drop_get h, drop_get (show i + 1 < s.size by omega)]
  simp only [List.take_succ_cons, List.take_zero]
  rw [u8 (s.get! i) _ (by omega), u8 (s.get! (i + 1)) _ (by omega)]
 ·rw [c, enc3 l (by omega) m, drop_get h, drop_get (show i + 1 < s.size by omega), drop_get (show i + 1 + 1 < s.size by omega)]
  simp only [List.take_succ_cons, List.take_zero]
  rw [show i + 1 + 1 = i + 2 from rfl, u8 (s.get! i) _ (by omega), u8 (s.get! (i + 1)) _ (by omega), u8 (s.get! (i + 2)) _ (by omega)]
 ·rw [c, enc4 d f, drop_get h, drop_get (show i + 1 < s.size by omega), drop_get (show i + 1 + 1 < s.size by omega), drop_get (show i + 1 + 1 + 1 < s.size by omega)]
  simp only [List.take_succ_cons, List.take_zero]
  rw [show i + 1 + 1 + 1 = i + 3 from rfl, show i + 1 + 1 = i + 2 from rfl, u8 (s.get! i) _ (by omega), u8 (s.get! (i + 1)) _ (by omega), u8 (s.get! (i + 2)) _ (by omega), u8 (s.get! (i + 3)) _ (by omega)]
theorem encode_width {s : ByteArray} {i : Nat} (h : i < s.size) (hg : goodAt s i = true) : (Utf8.encode ((Utf8.decode s i).1 : Int)).size = (Utf8.decode s i).2 := by
 have hw := width_le h
 rw [size_list, encode_decode h hg, List.length_take, List.length_drop]
 have := size_list s; omega
theorem items_head {s : ByteArray} {i : Nat} {c : Int} {l : List Int} (h : items s i = c :: l) (hc : 0 ≤ c) : i < s.size ∧ goodAt s i = true ∧ ((Utf8.decode s i).1 : Int) = c ∧ items s (i + (Utf8.decode s i).2) = l := by
 by_cases hp : i < s.size
 ·cases hg : goodAt s i with
  | true => rw [items_good hp hg] at h; injection h with h1 h2; exact ⟨hp, rfl, h1, h2⟩
  | false => rw [items_bad hp hg] at h; injection h with h1 h2; omega
 ·rw [items_end hp] at h; cases h
theorem items_seg {s : ByteArray} : ∀ (t : List Int) (i : Nat) (l : List Int), items s i = t ++ l → (∀ x ∈ t, 0 ≤ x) → i ≤ s.size →
  items s (i + (runesBytes t).size) = l ∧ i + (runesBytes t).size ≤ s.size ∧ (runesBytes t).data.toList = (s.data.toList.drop i).take (runesBytes t).size
 | [], i, l, h, _, hi => by
  have e : (runesBytes []).size = 0 := rfl
  rw [e]; exact ⟨h, hi, by rw [runesBytes_list]; simp⟩
 | c :: t, i, l, h, ht, hi => by
  obtain ⟨hp, hg, hc, hr⟩ := items_head (c := c) (l := t ++ l) h (ht c (by simp))
  have hw := width_le hp
  obtain ⟨h1, h2, h3⟩ := items_seg t (i + (Utf8.decode s i).2) l hr (fun x hx => ht x (by simp [hx])) hw
  have hsz : (runesBytes (c :: t)).size = (Utf8.decode s i).2 + (runesBytes t).size := by
   rw [runesBytes_cons, ByteArray.size_append, ← hc, encode_width hp hg]
  rw [hsz]
  refine ⟨by rw [← h1, Nat.add_assoc], by omega, ?_⟩
  rw [runesBytes_list, List.flatMap_cons, ← runesBytes_list, ← hc, encode_decode hp hg, h3, List.take_add, List.drop_drop]
end Go.Proofs.YtljglhaeonbfoaaGreatDoor
namespace Go.Proofs.YtljglhaeonbfoaaGreatDoor
open Go.RowKit
end Go.Proofs.YtljglhaeonbfoaaGreatDoor
namespace Go.Proofs.YtljglhaeonbfoaaGreatDoor
def valF : Nat → List UInt8 → Option Nat
 | acc, [] => some acc
 | acc, c :: l => if c = 45 then valF acc l else if 1099511627776 < 10 * acc + (c.toNat - 48) then none else valF (10 * acc + (c.toNat - 48)) l
def spell : Nat → List UInt8 → Nat
 | acc, [] => acc
 | acc, c :: l => spell (10 * acc + (c.toNat - 48)) l
def DigB (l : List UInt8) : Prop := ∀ c ∈ l, 48 ≤ c.toNat ∧ c.toNat ≤ 57
theorem spell_ge : ∀ (l : List UInt8) (acc : Nat), acc ≤ spell acc l
 | [], acc => Nat.le_refl _
 | c :: l, acc => Nat.le_trans (by omega) (spell_ge l (10 * acc + (c.toNat - 48)))
theorem parse_spell : ∀ (l : List UInt8) (acc : Nat), DigB l → acc < 18446744073709551616 → Lib.parseUint10 acc l = if spell acc l < 18446744073709551616 then .ok (spell acc l) else .range
 | [], acc, _, h => by show Lib.NumEnd.ok acc = if acc < 18446744073709551616 then Lib.NumEnd.ok acc else Lib.NumEnd.range; exact (if_pos h).symm
 | c :: l, acc, hd, h => by
  have hc := hd c (by simp)
  have hge := spell_ge l (10 * acc + (c.toNat - 48))
  unfold Lib.parseUint10 spell
  rw [if_pos hc]
  by_cases h1 : 1844674407370955162 ≤ acc
  ·rw [if_pos h1, if_neg (by omega)]
  ·rw [if_neg h1]
   by_cases h2 : 18446744073709551616 ≤ acc * 10 + (c.toNat - 48)
   ·rw [if_pos h2, if_neg (by omega)]
   ·rw [if_neg h2, Nat.mul_comm acc 10, parse_spell l _ (fun x hx => hd x (by simp [hx])) (by omega)]
theorem atoi_plain (l : List UInt8) (hd : DigB l) (hne : l ≠ []) : Lib.atoiAll l = if spell 0 l < 9223372036854775808 then .ok (spell 0 l : Int) else .range := by
 cases l with
 | nil => exact absurd rfl hne
 | cons c r =>
  have hc := hd c (by simp)
  unfold Lib.atoiAll
  simp only
  rw [if_neg (by omega)]
  unfold Lib.parseMag
  rw [if_neg (by simp), parse_spell _ 0 hd (by decide)]
  by_cases h1 : spell 0 (c :: r) < 9223372036854775808
  ·rw [if_pos (by omega), if_pos h1]
   simp only
   rw [if_neg (by omega), if_neg (by omega), if_neg (by omega)]
  ·rw [if_neg h1]
   by_cases h2 : spell 0 (c :: r) < 18446744073709551616
   ·rw [if_pos h2]
    simp only
    rw [if_pos (by omega)]
   ·rw [if_neg h2]
theorem atoi_minus (l : List UInt8) (hd : DigB l) (hne : l ≠ []) : Lib.atoiAll (45 :: l) = if spell 0 l ≤ 9223372036854775808 then .ok (-(spell 0 l : Int)) else .range := by
 have hm : Lib.parseMag l = if spell 0 l < 18446744073709551616 then .ok (spell 0 l) else .range := by
  unfold Lib.parseMag; rw [if_neg hne, parse_spell _ 0 hd (by decide)]
 have e : (45 : UInt8).toNat = 45 := rfl
 unfold Lib.atoiAll
 simp only [e, or_true, if_true, hm, true_and, not_true_eq_false, false_and, if_false]
 by_cases h1 : spell 0 l ≤ 9223372036854775808
 ·rw [if_pos h1, if_pos (show spell 0 l < 18446744073709551616 by omega)]
  simp only
  rw [if_neg (by omega)]
 ·rw [if_neg h1]
  by_cases h2 : spell 0 l < 18446744073709551616
  ·rw [if_pos h2]
   simp only
   rw [if_pos (by omega)]
  ·rw [if_neg h2]
theorem bad_of {s : ByteArray} {V B : Nat} {x : Int} (hx : x = V ∨ x = -V) (hB : 1099511627776 ≤ B) (hA : Lib.atoiAll s.data.toList = if V ≤ B then .ok x else .range) :
  numBad s = decide (1099511627776 < V) ∧ (V ≤ 1099511627776 → numN s = x) := by
 unfold numBad numN
 rw [hA]
 by_cases h : V ≤ B
 ·rw [if_pos h]
  refine ⟨?_, fun _ => rfl⟩
  simp only
  rw [Bool.eq_iff_iff]
  simp only [Bool.or_eq_true, decide_eq_true_eq]
  omega
 ·rw [if_neg h]
  refine ⟨?_, fun h' => absurd (Nat.le_trans h' hB) h⟩
  simp only
  symm
  simp only [decide_eq_true_eq]
  omega
def Asc (t : List Int) : Prop := ∀ x ∈ t, 0 ≤ x ∧ x < 128
theorem asc_bytes : ∀ (t : List Int), Asc t → (runesBytes t).data.toList = t.map fun x => UInt8.ofNat x.toNat
 | [], _ => by rw [runesBytes_list]; rfl
 | c :: t, h => by
  obtain ⟨h0, h1⟩ := h c (by simp)
  have ih := asc_bytes t (fun x hx => h x (by simp [hx]))
  rw [runesBytes_list] at ih ⊢
  rw [List.flatMap_cons, ih, List.map_cons]
  obtain ⟨n, rfl⟩ : ∃ n : Nat, c = n := ⟨c.toNat, by omega⟩
  rw [enc1 (by omega)]; rfl
theorem asc_size (t : List Int) (h : Asc t) : (runesBytes t).size = t.length := by rw [size_list, asc_bytes t h, List.length_map]
theorem NumT.asc {t : List Int} (h : NumT t) : Asc t := by
 obtain ⟨d, h1, h2, h3⟩ := h
 have hd : Asc d := fun x hx => by have := isD_iff.1 (h2 x hx); omega
 rcases h3 with rfl | rfl
 ·exact hd
 ·intro x hx
  rcases List.mem_cons.1 hx with rfl | h
  ·decide
  ·exact hd x h
end Go.Proofs.YtljglhaeonbfoaaGreatDoor
namespace Go.Proofs.YtljglhaeonbfoaaGreatDoor
open Go.RowKit
end Go.Proofs.YtljglhaeonbfoaaGreatDoor
