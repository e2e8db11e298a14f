/- Runes written and read again; texts one behind the other. -/
import Derived.Test.YtmlopggainkoiaaDoorLX4
set_option linter.unusedSimpArgs false
set_option linter.unusedVariables false
namespace Go.Proofs.YtmlopggainkoiaaDoor

def VR (x : Int) : Prop := (0 ≤ x ∧ x < 55296) ∨ (57344 ≤ x ∧ x ≤ 1114111)

theorem get_left (a b : ByteArray) (i : Nat) (h : i < a.size) : (a ++ b).get! i = a.get! i := by
  show (a ++ b).data[i]! = a.data[i]!
  rw [ByteArray.data_append]
  have h' : i < a.data.size := h
  rw [getElem!_pos a.data i h', getElem!_pos (a.data ++ b.data) i (by rw [Array.size_append]; omega), Array.getElem_append_left h']
theorem get_right (a b : ByteArray) (i : Nat) : (a ++ b).get! (a.size + i) = b.get! i := by
  show (a ++ b).data[a.size + i]! = b.data[i]!
  rw [ByteArray.data_append]
  have hs : a.size = a.data.size := rfl
  rw [hs]
  by_cases h : i < b.data.size
  · rw [getElem!_pos b.data i h, getElem!_pos (a.data ++ b.data) _ (by rw [Array.size_append]; omega), Array.getElem_append_right (by omega)]
    congr 1; omega
  · rw [getElem!_neg b.data i h, getElem!_neg (a.data ++ b.data) _ (by rw [Array.size_append]; omega)]
theorem decode_right (a b : ByteArray) (i : Nat) : Utf8.decode (a ++ b) (a.size + i) = Utf8.decode b i := by
  rw [Lib.decode_at, Lib.decode_at, ByteArray.size_append, show a.size + b.size - (a.size + i) = b.size - i by omega, get_right, Nat.add_assoc, get_right, Nat.add_assoc, get_right, Nat.add_assoc, get_right]
theorem good_right (a b : ByteArray) (i : Nat) : goodAt (a ++ b) (a.size + i) = goodAt b i := by
  unfold goodAt; rw [decode_right, get_right]
theorem items_right (a b : ByteArray) : ∀ (n i : Nat), b.size - i ≤ n → items (a ++ b) (a.size + i) = items b i
  | 0, i, h => by
    rw [items_end (s := a ++ b) (by rw [ByteArray.size_append]; omega), items_end (by omega)]
  | n + 1, i, h => by
    by_cases hi : i < b.size
    · have hi' : a.size + i < (a ++ b).size := by rw [ByteArray.size_append]; omega
      cases hg : goodAt b i with
      | true =>
        have hw := Lib.decode_width_pos b i hi
        rw [items_good hi hg, items_good hi' (by rw [good_right]; exact hg), decode_right, Nat.add_assoc, items_right a b n _ (by omega)]
      | false => rw [items_bad hi hg, items_bad hi' (by rw [good_right]; exact hg)]
    · rw [items_end hi, items_end (s := a ++ b) (by rw [ByteArray.size_append]; omega)]
theorem items_behind (a b : ByteArray) : items (a ++ b) a.size = items b 0 := by
  have := items_right a b b.size 0 (by omega); simpa using this

theorem get_of_list {a : ByteArray} {l : List UInt8} (h : a.data.toList = l) (i : Nat) (x : UInt8) (hx : l[i]? = some x) : a.get! i = x := by
  subst h
  obtain ⟨hi, e⟩ := List.getElem?_eq_some_iff.1 hx
  have hi' : i < a.data.size := by simpa using hi
  show a.data[i]! = x
  rw [getElem!_pos a.data i hi', ← e]; simp
theorem ofNat_toNat {n : Nat} (h : n < 256) : (UInt8.ofNat n).toNat = n := UInt8.toNat_ofNat_of_lt' h

/-- A rune written is read. -/
theorem decode_enc {c : Int} (h : VR c) (b : ByteArray) : Utf8.decode (Utf8.encode c ++ b) 0 = (c.toNat, (Utf8.encode c).size) ∧ goodAt (Utf8.encode c ++ b) 0 = true ∧ 0 < (Utf8.encode c).size := by
  obtain ⟨n, rfl⟩ : ∃ n : Nat, c = n := ⟨c.toNat, by unfold VR at h; omega⟩
  unfold VR at h
  have hsz : (Utf8.encode (n : Int) ++ b).size = (Utf8.encode (n : Int)).data.toList.length + b.size := by rw [ByteArray.size_append, size_list]
  by_cases h1 : n < 128
  · have e := enc1 h1
    have g0 : ((Utf8.encode (n : Int) ++ b).get! 0).toNat = n := by
      rw [get_left _ _ _ (by rw [size_list, e]; simp), get_of_list e 0 _ rfl, ofNat_toNat (by omega)]
    have es : (Utf8.encode (n : Int)).size = 1 := by rw [size_list, e]; rfl
    refine ⟨?_, by unfold goodAt; rw [g0]; simp [h1], by omega⟩
    rw [Lib.decode_at, g0, es]
    unfold Lib.decodeN
    rw [if_pos h1]; simp
  by_cases h2 : n < 2048
  · have e := enc2 (by omega) h2
    have es : (Utf8.encode (n : Int)).size = 2 := by rw [size_list, e]; rfl
    have g0 : ((Utf8.encode (n : Int) ++ b).get! 0).toNat = 192 + n / 64 := by
      rw [get_left _ _ _ (by omega), get_of_list e 0 _ rfl, ofNat_toNat (by omega)]
    have g1 : ((Utf8.encode (n : Int) ++ b).get! (0 + 1)).toNat = 128 + n % 64 := by
      rw [get_left _ _ _ (by omega), get_of_list e 1 _ rfl, ofNat_toNat (by omega)]
    have hd : Utf8.decode (Utf8.encode (n : Int) ++ b) 0 = (n, 2) := by
      rw [Lib.decode_at, g0, g1, hsz, e]
      unfold Lib.decodeN
      rw [if_neg (by omega), if_pos (by simp; omega), if_pos (by omega)]
      exact congrArg (fun x => (x, _)) (by omega)
    refine ⟨by rw [hd, es]; simp, by unfold goodAt; rw [hd]; simp, by omega⟩
  by_cases h3 : n < 65536
  · have e := enc3 (by omega) h3 (by omega)
    have es : (Utf8.encode (n : Int)).size = 3 := by rw [size_list, e]; rfl
    have g0 : ((Utf8.encode (n : Int) ++ b).get! 0).toNat = 224 + n / 4096 := by
      rw [get_left _ _ _ (by omega), get_of_list e 0 _ rfl, ofNat_toNat (by omega)]
    have g1 : ((Utf8.encode (n : Int) ++ b).get! (0 + 1)).toNat = 128 + n / 64 % 64 := by
      rw [get_left _ _ _ (by omega), get_of_list e 1 _ rfl, ofNat_toNat (by omega)]
    have g2 : ((Utf8.encode (n : Int) ++ b).get! (0 + 2)).toNat = 128 + n % 64 := by
      rw [get_left _ _ _ (by omega), get_of_list e 2 _ rfl, ofNat_toNat (by omega)]
    have hd : Utf8.decode (Utf8.encode (n : Int) ++ b) 0 = (n, 3) := by
      rw [Lib.decode_at, g0, g1, g2, hsz, e]
      unfold Lib.decodeN
      rw [if_neg (by omega), if_neg (by omega), if_pos (by simp; omega), if_pos (by omega)]
      exact congrArg (fun x => (x, _)) (by omega)
    refine ⟨by rw [hd, es]; simp, by unfold goodAt; rw [hd]; simp, by omega⟩
  · have e := enc4 (c := n) (by omega) (by omega)
    have es : (Utf8.encode (n : Int)).size = 4 := by rw [size_list, e]; rfl
    have g0 : ((Utf8.encode (n : Int) ++ b).get! 0).toNat = 240 + n / 262144 := by
      rw [get_left _ _ _ (by omega), get_of_list e 0 _ rfl, ofNat_toNat (by omega)]
    have g1 : ((Utf8.encode (n : Int) ++ b).get! (0 + 1)).toNat = 128 + n / 4096 % 64 := by
      rw [get_left _ _ _ (by omega), get_of_list e 1 _ rfl, ofNat_toNat (by omega)]
    have g2 : ((Utf8.encode (n : Int) ++ b).get! (0 + 2)).toNat = 128 + n / 64 % 64 := by
      rw [get_left _ _ _ (by omega), get_of_list e 2 _ rfl, ofNat_toNat (by omega)]
    have g3 : ((Utf8.encode (n : Int) ++ b).get! (0 + 3)).toNat = 128 + n % 64 := by
      rw [get_left _ _ _ (by omega), get_of_list e 3 _ rfl, ofNat_toNat (by omega)]
    have hd : Utf8.decode (Utf8.encode (n : Int) ++ b) 0 = (n, 4) := by
      rw [Lib.decode_at, g0, g1, g2, g3, hsz, e]
      unfold Lib.decodeN
      rw [if_neg (by omega), if_neg (by omega), if_neg (by omega), if_pos (by simp; omega), if_pos (by omega)]
      exact congrArg (fun x => (x, _)) (by omega)
    refine ⟨by rw [hd, es]; simp, by unfold goodAt; rw [hd]; simp, by omega⟩
theorem items_enc {c : Int} (h : VR c) (b : ByteArray) : items (Utf8.encode c ++ b) 0 = c :: items b 0 := by
  obtain ⟨h1, h2, h3⟩ := decode_enc h b
  have h0 : 0 ≤ c := by unfold VR at h; omega
  rw [items_good (by rw [ByteArray.size_append]; omega) h2, h1]
  simp only
  rw [Nat.zero_add, items_behind, Int.toNat_of_nonneg h0]
theorem items_runes : ∀ (t : List Int) (b : ByteArray), (∀ x ∈ t, VR x) → items (runesBytes t ++ b) 0 = t ++ items b 0
  | [], b, _ => by
    have e : runesBytes [] ++ b = b := by apply bytes_ext; rw [ByteArray.data_append, Array.toList_append, runesBytes_list]; rfl
    rw [e]; rfl
  | c :: t, b, h => by
    have e : runesBytes (c :: t) ++ b = Utf8.encode c ++ (runesBytes t ++ b) := by
      apply bytes_ext; rw [runesBytes_cons]; simp
    rw [e, items_enc (h c (by simp)), items_runes t b (fun x hx => h x (by simp [hx]))]; rfl
theorem append_empty (a : ByteArray) : a ++ ByteArray.empty = a := by apply bytes_ext; simp
theorem items_empty : items ByteArray.empty 0 = [] := items_end (by decide)
theorem items_of_runes (t : List Int) (h : ∀ x ∈ t, VR x) : items (runesBytes t) 0 = t := by
  have := items_runes t ByteArray.empty h
  rw [append_empty, items_empty, List.append_nil] at this
  exact this
/-- What is read are runes. -/
theorem decode_VR (s : ByteArray) (i : Nat) (hg : goodAt s i = true) : VR ((Utf8.decode s i).1 : Int) := by
  unfold VR
  have l0 := byte_lt (s.get! i); have l1 := byte_lt (s.get! (i + 1)); have l2 := byte_lt (s.get! (i + 2)); have l3 := byte_lt (s.get! (i + 3))
  rcases decodeN_cases (s.size - i) _ _ _ _ l0 l1 l2 l3 (Utf8.decode s i) (Lib.decode_at s i).symm with ⟨a, e⟩ | ⟨a, e, no⟩ | ⟨a, b, c, d, f, g, k, l⟩ | ⟨a, b, c, d, f, g, k, l, m⟩ | ⟨a, b, c, d, f, g, k, l, m, n⟩
  · rw [e]; simp only; omega
  · rw [e]; simp only; omega
  · omega
  · omega
  · omega
theorem items_VR (s : ByteArray) : ∀ (n i : Nat), s.size - i ≤ n → ∀ x ∈ items s i, 0 ≤ x → VR x
  | 0, i, h, x, hx, _ => by rw [items_end (by omega)] at hx; cases hx
  | n + 1, i, h, x, hx, h0 => by
    by_cases hi : i < s.size
    · cases hg : goodAt s i with
      | true =>
        have hw := Lib.decode_width_pos s i hi
        rw [items_good hi hg] at hx
        rcases List.mem_cons.1 hx with rfl | hx
        · exact decode_VR s i hg
        · exact items_VR s n _ (by omega) x hx h0
      | false =>
        rw [items_bad hi hg] at hx
        simp at hx; omega
    · rw [items_end hi] at hx; cases hx
/-- A text without bad bytes is its runes, written. -/
theorem runes_items {s : ByteArray} (h : ∀ x ∈ items s 0, 0 ≤ x) : s = runesBytes (items s 0) ∧ ∀ x ∈ items s 0, VR x := by
  refine ⟨?_, fun x hx => items_VR s s.size 0 (by omega) x hx (h x hx)⟩
  obtain ⟨h1, h2, h3⟩ := items_seg (s := s) (items s 0) 0 [] (by simp) h (by omega)
  have hsz : (runesBytes (items s 0)).size = s.size := by
    rcases Nat.lt_or_ge (0 + (runesBytes (items s 0)).size) s.size with hlt | hge
    · exfalso
      cases hg : goodAt s (0 + (runesBytes (items s 0)).size) with
      | true => rw [items_good hlt hg] at h1; cases h1
      | false => rw [items_bad hlt hg] at h1; cases h1
    · omega
  apply bytes_ext
  rw [h3, hsz, List.drop_zero, List.take_of_length_le (by rw [← size_list]; exact Nat.le_refl _)]
end Go.Proofs.YtmlopggainkoiaaDoor
