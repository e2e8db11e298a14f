/- Texts as the runes that they are written of: pieces, and what they read as. -/
import Derived.Test.YtmlopggainkoiaaDoorLX3
set_option linter.unusedSimpArgs false
set_option linter.unusedVariables false
namespace Go.Proofs.YtmlopggainkoiaaDoor

theorem bytes_ext {a b : ByteArray} (h : a.data.toList = b.data.toList) : a = b := by
  cases a; cases b; congr 1; exact Array.toList_inj.1 h
theorem foldl_bytes (l : List Int) (a : ByteArray) : (l.foldl (fun r n => r ++ Utf8.encode n) a).data.toList = a.data.toList ++ l.flatMap fun n => (Utf8.encode n).data.toList := by
  induction l generalizing a with
  | nil => simp
  | cons x l ih => rw [List.foldl_cons, ih]; simp [List.flatMap_cons]
theorem runesBytes_list (l : List Int) : (runesBytes l).data.toList = l.flatMap fun n => (Utf8.encode n).data.toList := by
  unfold runesBytes; rw [foldl_bytes]; simp
theorem runesBytes_append (a b : List Int) : runesBytes (a ++ b) = runesBytes a ++ runesBytes b := by
  apply bytes_ext; rw [runesBytes_list, List.flatMap_append]; simp [runesBytes_list]
theorem runesBytes_one (c : Int) : runesBytes [c] = Utf8.encode c := by apply bytes_ext; rw [runesBytes_list]; simp
theorem runesBytes_cons (c : Int) (l : List Int) : runesBytes (c :: l) = Utf8.encode c ++ runesBytes l := by
  rw [← runesBytes_one, ← runesBytes_append]; rfl
theorem runesBytes_nil : runesBytes [] = ByteArray.empty := rfl
theorem size_list (s : ByteArray) : s.size = s.data.toList.length := by simp

/-! ### encoding -/
theorem u8 (x : UInt8) (n : Nat) (h : x.toNat = n) : UInt8.ofNat n = x := by subst h; simp
set_option maxRecDepth 1000000 in
theorem enc1 {c : Nat} (h : c < 128) : (Utf8.encode (c : Int)).data.toList = [UInt8.ofNat c] := by
  unfold Utf8.encode Utf8.valid
  have e : (decide ((0 : Int) ≤ c) && decide ((c : Int) < 55296) || decide ((57344 : Int) ≤ c) && decide ((c : Int) ≤ 1114111)) = true := by simp; omega
  simp only [e, if_true]
  rw [if_pos (by simpa using h)]; simp
set_option maxRecDepth 1000000 in
theorem enc2 {c : Nat} (h : 128 ≤ c) (h' : c < 2048) : (Utf8.encode (c : Int)).data.toList = [UInt8.ofNat (192 + c / 64), UInt8.ofNat (128 + c % 64)] := by
  unfold Utf8.encode Utf8.valid
  have e : (decide ((0 : Int) ≤ c) && decide ((c : Int) < 55296) || decide ((57344 : Int) ≤ c) && decide ((c : Int) ≤ 1114111)) = true := by simp; omega
  simp only [e, if_true]
  rw [if_neg (by simp; omega), if_pos (by simp; omega)]; simp
set_option maxRecDepth 1000000 in
theorem enc3 {c : Nat} (h : 2048 ≤ c) (h' : c < 65536) (hs : c < 55296 ∨ 57344 ≤ c) : (Utf8.encode (c : Int)).data.toList = [UInt8.ofNat (224 + c / 4096), UInt8.ofNat (128 + c / 64 % 64), UInt8.ofNat (128 + c % 64)] := by
  unfold Utf8.encode Utf8.valid
  have e : (decide ((0 : Int) ≤ c) && decide ((c : Int) < 55296) || decide ((57344 : Int) ≤ c) && decide ((c : Int) ≤ 1114111)) = true := by simp; omega
  simp only [e, if_true]
  rw [if_neg (by simp; omega), if_neg (by simp; omega), if_pos (by simp; omega)]; simp
set_option maxRecDepth 1000000 in
theorem enc4 {c : Nat} (h : 65536 ≤ c) (h' : c ≤ 1114111) : (Utf8.encode (c : Int)).data.toList = [UInt8.ofNat (240 + c / 262144), UInt8.ofNat (128 + c / 4096 % 64), UInt8.ofNat (128 + c / 64 % 64), UInt8.ofNat (128 + c % 64)] := by
  unfold Utf8.encode Utf8.valid
  have e : (decide ((0 : Int) ≤ c) && decide ((c : Int) < 55296) || decide ((57344 : Int) ≤ c) && decide ((c : Int) ≤ 1114111)) = true := by simp; omega
  simp only [e, if_true]
  rw [if_neg (by simp; omega), if_neg (by simp; omega), if_neg (by simp; omega)]; simp
/-- What is read at a place is what is written there. -/
theorem encode_decode {s : ByteArray} {i : Nat} (h : i < s.size) (hg : goodAt s i = true) : (Utf8.encode ((Utf8.decode s i).1 : Int)).data.toList = (s.data.toList.drop i).take (Utf8.decode s i).2 := by
  have l0 := byte_lt (s.get! i); have l1 := byte_lt (s.get! (i + 1)); have l2 := byte_lt (s.get! (i + 2)); have l3 := byte_lt (s.get! (i + 3))
  rcases decodeN_cases (s.size - i) _ _ _ _ l0 l1 l2 l3 (Utf8.decode s i) (Lib.decode_at s i).symm with ⟨a, e⟩ | ⟨a, e, no⟩ | ⟨a, b, c, d, f, g, k, l⟩ | ⟨a, b, c, d, f, g, k, l, m⟩ | ⟨a, b, c, d, f, g, k, l, m, n⟩
  · rw [e]
    simp only
    rw [enc1 a, drop_get h, List.take_succ_cons, List.take_zero, u8 _ _ rfl]
  · unfold goodAt at hg
    rw [e] at hg; simp at hg; omega
  · rw [c, enc2 d f, drop_get h, drop_get (show i + 1 < s.size by omega)]
    simp only [List.take_succ_cons, List.take_zero]
    rw [u8 (s.get! i) _ (by omega), u8 (s.get! (i + 1)) _ (by omega)]
  · rw [c, enc3 l (by omega) m, drop_get h, drop_get (show i + 1 < s.size by omega), drop_get (show i + 1 + 1 < s.size by omega)]
    simp only [List.take_succ_cons, List.take_zero]
    rw [show i + 1 + 1 = i + 2 from rfl, u8 (s.get! i) _ (by omega), u8 (s.get! (i + 1)) _ (by omega), u8 (s.get! (i + 2)) _ (by omega)]
  · rw [c, enc4 d f, drop_get h, drop_get (show i + 1 < s.size by omega), drop_get (show i + 1 + 1 < s.size by omega), drop_get (show i + 1 + 1 + 1 < s.size by omega)]
    simp only [List.take_succ_cons, List.take_zero]
    rw [show i + 1 + 1 + 1 = i + 3 from rfl, show i + 1 + 1 = i + 2 from rfl, u8 (s.get! i) _ (by omega), u8 (s.get! (i + 1)) _ (by omega), u8 (s.get! (i + 2)) _ (by omega), u8 (s.get! (i + 3)) _ (by omega)]
theorem encode_width {s : ByteArray} {i : Nat} (h : i < s.size) (hg : goodAt s i = true) : (Utf8.encode ((Utf8.decode s i).1 : Int)).size = (Utf8.decode s i).2 := by
  have hw := width_le h
  rw [size_list, encode_decode h hg, List.length_take, List.length_drop]
  have := size_list s; omega

/-! ### pieces -/
theorem items_head {s : ByteArray} {i : Nat} {c : Int} {l : List Int} (h : items s i = c :: l) (hc : 0 ≤ c) : i < s.size ∧ goodAt s i = true ∧ ((Utf8.decode s i).1 : Int) = c ∧ items s (i + (Utf8.decode s i).2) = l := by
  by_cases hp : i < s.size
  · cases hg : goodAt s i with
    | true => rw [items_good hp hg] at h; injection h with h1 h2; exact ⟨hp, rfl, h1, h2⟩
    | false => rw [items_bad hp hg] at h; injection h with h1 h2; omega
  · rw [items_end hp] at h; cases h
theorem items_seg {s : ByteArray} : ∀ (t : List Int) (i : Nat) (l : List Int), items s i = t ++ l → (∀ x ∈ t, 0 ≤ x) → i ≤ s.size →
    items s (i + (runesBytes t).size) = l ∧ i + (runesBytes t).size ≤ s.size ∧ (runesBytes t).data.toList = (s.data.toList.drop i).take (runesBytes t).size
  | [], i, l, h, _, hi => by
    have e : (runesBytes []).size = 0 := rfl
    rw [e]; exact ⟨h, hi, by rw [runesBytes_list]; simp⟩
  | c :: t, i, l, h, ht, hi => by
    obtain ⟨hp, hg, hc, hr⟩ := items_head (c := c) (l := t ++ l) h (ht c (by simp))
    have hw := width_le hp
    obtain ⟨h1, h2, h3⟩ := items_seg t (i + (Utf8.decode s i).2) l hr (fun x hx => ht x (by simp [hx])) hw
    have hsz : (runesBytes (c :: t)).size = (Utf8.decode s i).2 + (runesBytes t).size := by
      rw [runesBytes_cons, ByteArray.size_append, ← hc, encode_width hp hg]
    rw [hsz]
    refine ⟨by rw [← h1, Nat.add_assoc], by omega, ?_⟩
    rw [runesBytes_list, List.flatMap_cons, ← runesBytes_list, ← hc, encode_decode hp hg, h3, List.take_add, List.drop_drop]
theorem seg_extract {s : ByteArray} {t : List Int} {i : Nat} {l : List Int} (h : items s i = t ++ l) (ht : ∀ x ∈ t, 0 ≤ x) (hi : i ≤ s.size) : s.extract i (i + (runesBytes t).size) = runesBytes t := by
  obtain ⟨_, _, h3⟩ := items_seg t i l h ht hi
  apply bytes_ext
  rw [extract_list, h3]; congr 1; omega
theorem items_pos {s : ByteArray} {i : Nat} {c : Int} {l : List Int} (h : items s i = c :: l) : c = -1 ∨ 0 ≤ c := by
  by_cases hp : i < s.size
  · cases hg : goodAt s i with
    | true => rw [items_good hp hg] at h; injection h with h1 h2; omega
    | false => rw [items_bad hp hg] at h; injection h with h1 h2; omega
  · rw [items_end hp] at h; cases h
end Go.Proofs.YtmlopggainkoiaaDoor
