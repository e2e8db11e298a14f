/- What a text's runes lex to, as a relation: it is the document's reading; and the same with more lines, another end. Runes written and read again; texts one behind the other. -/
import Derived.Test.YtljglhaeonbfoaaGreatDoorG7
set_option linter.unusedSimpArgs false
set_option linter.unusedVariables false
namespace Go.Proofs.YtljglhaeonbfoaaGreatDoor
inductive Lexes : Int → Int → Bool → List Int → List Word → Prop
 | nil (line col : Int) (rem : Bool) : Lexes line col rem [] []
 | nl (line col : Int) (rem : Bool) (t : List Int) (ws : List Word) : Lexes (line + 1) 1 false t ws → Lexes line col rem (10 :: t) (⟨4, ByteArray.empty, 0, line, col⟩ :: ws)
 | skip (line col : Int) (rem : Bool) (c : Int) (t : List Int) (ws : List Word) : 0 ≤ c → c ≠ 10 → (rem = true ∨ isB c = true ∨ c = 59) → Lexes line (col + 1) (rem || c == 59) t ws → Lexes line col rem (c :: t) ws
 | num (line col : Int) (t l : List Int) (ws : List Word) : NumT t → numBad (runesBytes t) = false → (∀ c l', l = c :: l' → isLD c = false) → Lexes line (col + t.length) false l ws → Lexes line col false (t ++ l) (⟨2, runesBytes t, numN (runesBytes t), line, col⟩ :: ws)
 | name (line col : Int) (t l : List Int) (ws : List Word) : headL t = true → (∀ x ∈ t, isLD x = true) → t.length ≤ 16 → (∀ c l', l = c :: l' → isLD c = false) → Lexes line (col + t.length) false l ws → Lexes line col false (t ++ l) (⟨1, runesBytes t, 0, line, col⟩ :: ws)
 | sign (line col c : Int) (t : List Int) (ws : List Word) : isS c = true → Lexes line (col + 1) false t ws → Lexes line col false (c :: t) (⟨3, Utf8.encode c, 0, line, col⟩ :: ws)
theorem headL_LD {l : List Int} (h : ∀ c l', l = c :: l' → isLD c = false) : headL l = false := by
 cases l with
 | nil => rfl
 | cons c l =>
  have := h c l rfl
  simp only [isLD, Bool.or_eq_false_iff] at this
  exact this.1
theorem notD_of_LD {l : List Int} (h : ∀ c l', l = c :: l' → isLD c = false) : ∀ c l', l = c :: l' → isD c = false := fun c l' e => by
 have := h c l' e
 simp only [isLD, Bool.or_eq_false_iff] at this
 exact this.2
theorem sign_facts {c : Int} (h : isS c = true) (t : List Int) : 0 ≤ c ∧ c ≠ 10 ∧ isB c = false ∧ c ≠ 59 ∧ isL c = false ∧ numLen (c :: t) = 0 := by
 have hs := isS_iff.1 h
 have hd : isD c = false := isD_off (by omega)
 refine ⟨by omega, by omega, by simp [isB]; omega, by omega, isL_off (by omega), ?_⟩
 rw [numLen_cons, if_neg (by omega), List.takeWhile_cons, hd]; rfl
theorem NumT.ne {t : List Int} (h : NumT t) : 0 < t.length := by
 obtain ⟨c, r, rfl, _⟩ := h.head; simp
theorem Lexes.ref {line col : Int} {rem : Bool} {L : List Int} {ws : List Word} (h : Lexes line col rem L ws) : ∀ (f : Nat) (acc : List Word), L.length < f → refL f line col rem L acc = ⟨acc ++ ws, 0, 0, 0⟩ := by
 induction h with
 | nil line col rem =>
  intro f acc hf
  cases f with
  | zero => simp at hf
  | succ f => rw [List.append_nil]; rfl
 | nl line col rem t ws h ih =>
  intro f acc hf
  cases f with
  | zero => simp at hf
  | succ f =>
   rw [refL_cons, if_neg (by decide), if_pos rfl, ih f _ (by simp at hf; omega)]; simp
 | skip line col rem c t ws h0 h10 hs h ih =>
  intro f acc hf
  cases f with
  | zero => simp at hf
  | succ f =>
   rw [refL_cons, if_neg (by omega), if_neg h10, if_pos hs, ih f _ (by simp at hf; omega)]
 | num line col t l ws ht hb hl h ih =>
  intro f acc hf
  cases f with
  | zero => simp at hf
  | succ f =>
   have := ht.ne
   rw [refL_num ht (notD_of_LD hl), hb, if_neg (by decide), headL_LD hl, if_neg (by decide), ih f _ (by rw [List.length_append] at hf; omega)]; simp
 | name line col t l ws h1 h2 h16 hl h ih =>
  intro f acc hf
  cases f with
  | zero => simp at hf
  | succ f =>
   have : 0 < t.length := by cases t <;> simp_all [headL]
   rw [refL_name h1 h2 hl, if_neg (by omega), ih f _ (by rw [List.length_append] at hf; omega)]; simp
 | sign line col c t ws hs h ih =>
  intro f acc hf
  cases f with
  | zero => simp at hf
  | succ f =>
   obtain ⟨a, b, d, e, g, k⟩ := sign_facts hs t
   rw [refL_cons, if_neg (by omega), if_neg b, if_neg (by simp [d, e]), k, if_neg (by omega), g, if_neg (by decide), hs, if_neg (by decide), ih f _ (by simp at hf; omega)]; simp
theorem takeWhile_split (p : Int → Bool) (l : List Int) : ∃ r, l = l.takeWhile p ++ r ∧ ∀ c l', r = c :: l' → p c = false :=
 ⟨l.dropWhile p, (List.takeWhile_append_dropWhile).symm, fun c l' e => by
  have := List.head?_dropWhile_not p l
  rw [e] at this; simpa using this⟩
theorem takeWhile_mem1 {p : Int → Bool} {l : List Int} : ∀ x ∈ l.takeWhile p, p x = true := fun _ hx => by
 induction l with
 | nil => simp at hx
 | cons a l ih =>
  rw [List.takeWhile_cons] at hx
  split at hx
  ·rcases List.mem_cons.1 hx with rfl | h
   ·assumption
   ·exact ih h
  ·simp at hx
theorem numLen_split {l : List Int} (h : 0 < numLen l) : ∃ t r, l = t ++ r ∧ NumT t ∧ ∀ c l', r = c :: l' → isD c = false := by
 cases l with
 | nil => simp [numLen] at h
 | cons c l =>
  rw [numLen_cons] at h
  by_cases hc : c = 45
  ·rw [if_pos hc] at h
   by_cases hz : (l.takeWhile isD).length = 0
   ·rw [if_pos hz] at h; omega
   ·obtain ⟨r, hr, hh⟩ := takeWhile_split isD l
    refine ⟨45 :: l.takeWhile isD, r, by rw [List.cons_append, ← hr, hc], ⟨l.takeWhile isD, by intro e; rw [e] at hz; simp at hz, takeWhile_mem1, .inr rfl⟩, hh⟩
  ·rw [if_neg hc] at h
   obtain ⟨r, hr, hh⟩ := takeWhile_split isD (c :: l)
   exact ⟨_, r, hr, ⟨_, by intro e; rw [e] at h; simp at h, takeWhile_mem1, .inl rfl⟩, hh⟩
theorem six {l c : Int} : ¬ (errR l c 6).err = 0 := by show ¬ (6 : Int) = 0; decide
theorem three {l c : Int} : ¬ (errR l c 3).err = 0 := by show ¬ (3 : Int) = 0; decide
theorem ref_lexes : ∀ (f : Nat) (line col : Int) (rem : Bool) (L : List Int) (acc : List Word), L.length < f → (refL f line col rem L acc).err = 0 → ∃ ws, Lexes line col rem L ws
 | 0, _, _, _, _, _, h, _ => by omega
 | f + 1, line, col, rem, [], _, _, _ => ⟨[], .nil ..⟩
 | f + 1, line, col, rem, c :: t, acc, hf, h => by
  have hf' : t.length < f := by simp at hf; omega
  by_cases h0 : c < 0
  ·rw [refL_cons, if_pos h0] at h; first | exact absurd h six | exact absurd h three
  by_cases h10 : c = 10
  ·rw [refL_cons, if_neg h0, if_pos h10] at h
   obtain ⟨ws, hw⟩ := ref_lexes f _ _ _ t _ hf' h
   subst h10
   exact ⟨_, .nl _ _ _ _ _ hw⟩
  by_cases hs : rem = true ∨ isB c = true ∨ c = 59
  ·rw [refL_cons, if_neg h0, if_neg h10, if_pos hs] at h
   obtain ⟨ws, hw⟩ := ref_lexes f _ _ _ t _ hf' h
   exact ⟨_, .skip _ _ _ _ _ _ (by omega) h10 hs hw⟩
  obtain rfl : rem = false := by
   cases rem
   ·rfl
   ·exact absurd (.inl rfl) hs
  by_cases hn : 0 < numLen (c :: t)
  ·obtain ⟨u, r, e, hu, hr⟩ := numLen_split hn
   rw [e] at h hf ⊢
   have hlen := hu.ne
   rw [refL_num hu hr] at h
   split at h
   ·first | exact absurd h six | exact absurd h three
   split at h
   ·first | exact absurd h six | exact absurd h three
   rename_i hb hl
   obtain ⟨ws, hw⟩ := ref_lexes f _ _ _ r _ (by rw [List.length_append] at hf; omega) h
   refine ⟨_, .num _ _ _ _ _ hu (by simpa using hb) (fun c l' e => ?_) hw⟩
   have h1 := hr c l' e
   rw [e] at hl
   have h2 : isL c = false := by simpa [headL] using hl
   simp [isLD, h1, h2]
  by_cases hL : isL c = true
  ·obtain ⟨r, e, hr⟩ := takeWhile_split isLD (c :: t)
   obtain ⟨u, hu⟩ : ∃ u, (c :: t).takeWhile isLD = u := ⟨_, rfl⟩
   have hm : ∀ x ∈ u, isLD x = true := by rw [← hu]; exact takeWhile_mem1
   have hh : headL u = true := by rw [← hu, List.takeWhile_cons, show isLD c = true by simp [isLD, hL]]; exact hL
   rw [hu] at e
   rw [e] at h hf ⊢
   have hlen : 0 < u.length := by cases u <;> simp_all [headL]
   rw [refL_name hh hm hr] at h
   split at h
   ·first | exact absurd h six | exact absurd h three
   obtain ⟨ws, hw⟩ := ref_lexes f _ _ _ r _ (by rw [List.length_append] at hf; omega) h
   exact ⟨_, .name _ _ _ _ _ hh hm (by omega) hr hw⟩
  ·rw [refL_cons, if_neg h0, if_neg h10, if_neg hs, if_neg hn, if_neg hL] at h
   split at h
   ·first | exact absurd h six | exact absurd h three
   rename_i hS
   obtain ⟨ws, hw⟩ := ref_lexes f _ _ _ t _ hf' h
   exact ⟨_, .sign _ _ _ _ _ (by simpa using hS) hw⟩
def ErrP (r : ReadR) : Prop := r.err = 0 ∨ (r.words = [] ∧ 1 ≤ r.line ∧ 1 ≤ r.col ∧ (r.err = 6 ∨ r.err = 3))
theorem errR_P {line col e : Int} (h1 : 1 ≤ line) (h2 : 1 ≤ col) (he : e = 6 ∨ e = 3) : ErrP (errR line col e) := .inr ⟨rfl, h1, h2, he⟩
theorem ref_errP : ∀ (f : Nat) (line col : Int) (rem : Bool) (L : List Int) (acc : List Word), 1 ≤ line → 1 ≤ col → ErrP (refL f line col rem L acc)
 | 0, _, _, _, _, _, _, _ => .inl rfl
 | f + 1, line, col, rem, [], _, _, _ => .inl rfl
 | f + 1, line, col, rem, c :: t, acc, h1, h2 => by
  rw [refL_cons]
  repeat' split
  all_goals first
   | exact errR_P (by omega) (by omega) (by decide)
   | exact ref_errP f _ _ _ _ _ (by omega) (by omega)
end Go.Proofs.YtljglhaeonbfoaaGreatDoor
namespace Go.Proofs.YtljglhaeonbfoaaGreatDoor
def VR (x : Int) : Prop := (0 ≤ x ∧ x < 55296) ∨ (57344 ≤ x ∧ x ≤ 1114111)
theorem get_left (a b : ByteArray) (i : Nat) (h : i < a.size) : (a ++ b).get! i = a.get! i := by
 show (a ++ b).data[i]! = a.data[i]!
 rw [ByteArray.data_append]
 have h' : i < a.data.size := h
 rw [getElem!_pos a.data i h', getElem!_pos (a.data ++ b.data) i (by rw [Array.size_append]; omega), Array.getElem_append_left h']
theorem get_right (a b : ByteArray) (i : Nat) : (a ++ b).get! (a.size + i) = b.get! i := by
 show (a ++ b).data[a.size + i]! = b.data[i]!
 rw [ByteArray.data_append]
 have hs : a.size = a.data.size := rfl
 rw [hs]
 by_cases h : i < b.data.size
 ·rw [getElem!_pos b.data i h, getElem!_pos (a.data ++ b.data) _ (by rw [Array.size_append]; omega), Array.getElem_append_right (by omega)]
  congr 1; omega
 ·rw [getElem!_neg b.data i h, getElem!_neg (a.data ++ b.data) _ (by rw [Array.size_append]; omega)]
theorem decode_right (a b : ByteArray) (i : Nat) : Utf8.decode (a ++ b) (a.size + i) = Utf8.decode b i := by
 rw [Lib.decode_at, Lib.decode_at, ByteArray.size_append, show a.size + b.size - (a.size + i) = b.size - i by omega, get_right, Nat.add_assoc, get_right, Nat.add_assoc, get_right, Nat.add_assoc, get_right]
theorem good_right (a b : ByteArray) (i : Nat) : goodAt (a ++ b) (a.size + i) = goodAt b i := by
 unfold goodAt; rw [decode_right, get_right]
theorem items_right (a b : ByteArray) : ∀ (n i : Nat), b.size - i ≤ n → items (a ++ b) (a.size + i) = items b i
 | 0, i, h => by
  rw [items_end (s := a ++ b) (by rw [ByteArray.size_append]; omega), items_end (by omega)]
 | n + 1, i, h => by
  by_cases hi : i < b.size
  ·have hi' : a.size + i < (a ++ b).size := by rw [ByteArray.size_append]; omega
   cases hg : goodAt b i with
   | true =>
    have hw := Lib.decode_width_pos b i hi
    rw [items_good hi hg, items_good hi' (by rw [good_right]; exact hg), decode_right, Nat.add_assoc, items_right a b n _ (by omega)]
   | false => rw [items_bad hi hg, items_bad hi' (by rw [good_right]; exact hg)]
  ·rw [items_end hi, items_end (s := a ++ b) (by rw [ByteArray.size_append]; omega)]
theorem items_behind (a b : ByteArray) : items (a ++ b) a.size = items b 0 := by
 have := items_right a b b.size 0 (by omega); simpa using this
theorem get_of_list {a : ByteArray} {l : List UInt8} (h : a.data.toList = l) (i : Nat) (x : UInt8) (hx : l[i]? = some x) : a.get! i = x := by
 subst h
 obtain ⟨hi, e⟩ := List.getElem?_eq_some_iff.1 hx
 have hi' : i < a.data.size := by simpa using hi
 show a.data[i]! = x
 rw [getElem!_pos a.data i hi', ← e]; simp
theorem ofNat_toNat {n : Nat} (h : n < 256) : (UInt8.ofNat n).toNat = n := UInt8.toNat_ofNat_of_lt' h
theorem decode_enc {c : Int} (h : VR c) (b : ByteArray) : Utf8.decode (Utf8.encode c ++ b) 0 = (c.toNat, (Utf8.encode c).size) ∧ goodAt (Utf8.encode c ++ b) 0 = true ∧ 0 < (Utf8.encode c).size := by
 obtain ⟨n, rfl⟩ : ∃ n : Nat, c = n := ⟨c.toNat, by unfold VR at h; omega⟩
 unfold VR at h
 have hsz : (Utf8.encode (n : Int) ++ b).size = (Utf8.encode (n : Int)).data.toList.length + b.size := by rw [ByteArray.size_append, size_list]
 by_cases h1 : n < 128
 ·have e := enc1 h1
  have g0 : ((Utf8.encode (n : Int) ++ b).get! 0).toNat = n := by
   rw [get_left _ _ _ (by rw [size_list, e]; simp), get_of_list e 0 _ rfl, ofNat_toNat (by omega)]
  have es : (Utf8.encode (n : Int)).size = 1 := by rw [size_list, e]; rfl
  refine ⟨?_, by unfold goodAt; rw [g0]; simp [h1], by omega⟩
  rw [Lib.decode_at, g0, es]
  unfold Lib.decodeN
  rw [if_pos h1]; simp
 by_cases h2 : n < 2048
 ·have e := enc2 (by omega) h2
  have es : (Utf8.encode (n : Int)).size = 2 := by rw [size_list, e]; rfl
  have g0 : ((Utf8.encode (n : Int) ++ b).get! 0).toNat = 192 + n / 64 := by
   rw [get_left _ _ _ (by omega), get_of_list e 0 _ rfl, ofNat_toNat (by omega)]
  have g1 : ((Utf8.encode (n : Int) ++ b).get! (0 + 1)).toNat = 128 + n % 64 := by
   rw [get_left _ _ _ (by omega), get_of_list e 1 _ rfl, ofNat_toNat (by omega)]
  have hd : Utf8.decode (Utf8.encode (n : Int) ++ b) 0 = (n, 2) := by
   rw [Lib.decode_at, g0, g1, hsz, e]
   unfold Lib.decodeN
   rw [if_neg (by omega), if_pos (by simp; omega), if_pos (by omega)]
   exact congrArg (fun x => (x, _)) (by omega)
  refine ⟨by rw [hd, es]; simp, by unfold goodAt; rw [hd]; simp, by omega⟩
 by_cases h3 : n < 65536
 ·have e := enc3 (by omega) h3 (by omega)
  have es : (Utf8.encode (n : Int)).size = 3 := by rw [size_list, e]; rfl
  have g0 : ((Utf8.encode (n : Int) ++ b).get! 0).toNat = 224 + n / 4096 := by
   rw [get_left _ _ _ (by omega), get_of_list e 0 _ rfl, ofNat_toNat (by omega)]
  have g1 : ((Utf8.encode (n : Int) ++ b).get! (0 + 1)).toNat = 128 + n / 64 % 64 := by
   rw [get_left _ _ _ (by omega), get_of_list e 1 _ rfl, ofNat_toNat (by omega)]
  have g2 : ((Utf8.encode (n : Int) ++ b).get! (0 + 2)).toNat = 128 + n % 64 := by
   rw [get_left _ _ _ (by omega), get_of_list e 2 _ rfl, ofNat_toNat (by omega)]
  have hd : Utf8.decode (Utf8.encode (n : Int) ++ b) 0 = (n, 3) := by
   rw [Lib.decode_at, g0, g1, g2, hsz, e]
   unfold Lib.decodeN
   rw [if_neg (by omega), if_neg (by omega), if_pos (by simp; omega), if_pos (by omega)]
   exact congrArg (fun x => (x, _)) (by omega)
  refine ⟨by rw [hd, es]; simp, by unfold goodAt; rw [hd]; simp, by omega⟩
 ·have e := enc4 (c := n) (by omega) (by omega)
  have es : (Utf8.encode (n : Int)).size = 4 := by rw [size_list, e]; rfl
  have g0 : ((Utf8.encode (n : Int) ++ b).get! 0).toNat = 240 + n / 262144 := by
   rw [get_left _ _ _ (by omega), get_of_list e 0 _ rfl, ofNat_toNat (by omega)]
  have g1 : ((Utf8.encode (n : Int) ++ b).get! (0 + 1)).toNat = 128 + n / 4096 % 64 := by
   rw [get_left _ _ _ (by omega), get_of_list e 1 _ rfl, ofNat_toNat (by omega)]
  have g2 : ((Utf8.encode (n : Int) ++ b).get! (0 + 2)).toNat = 128 + n / 64 % 64 := by
   rw [get_left _ _ _ (by omega), get_of_list e 2 _ rfl, ofNat_toNat (by omega)]
  have g3 : ((Utf8.encode (n : Int) ++ b).get! (0 + 3)).toNat = 128 + n % 64 := by
   rw [get_left _ _ _ (by omega), get_of_list e 3 _ rfl, ofNat_toNat (by omega)]
  have hd : Utf8.decode (Utf8.encode (n : Int) ++ b) 0 = (n, 4) := by
   rw [Lib.decode_at, g0, g1, g2, g3, hsz, e]
   unfold Lib.decodeN
   rw [if_neg (by omega), if_neg (by omega), if_neg (by omega), if_pos (by simp; omega), if_pos (by omega)]
   exact congrArg (fun x => (x, _)) (by omega)
  refine ⟨by rw [hd, es]; simp, by unfold goodAt; rw [hd]; simp, by omega⟩
theorem decode_VR (s : ByteArray) (i : Nat) (hg : goodAt s i = true) : VR ((Utf8.decode s i).1 : Int) := by
 unfold VR
 have l0 := byte_lt (s.get! i); have l1 := byte_lt (s.get! (i + 1)); have l2 := byte_lt (s.get! (i + 2)); have l3 := byte_lt (s.get! (i + 3))
 rcases decodeN_cases (s.size - i) _ _ _ _ l0 l1 l2 l3 (Utf8.decode s i) (Lib.decode_at s i).symm with ⟨a, e⟩ | ⟨a, e, no⟩ | ⟨a, b, c, d, f, g, k, l⟩ | ⟨a, b, c, d, f, g, k, l, m⟩ | ⟨a, b, c, d, f, g, k, l, m, n⟩
 ·rw [e]; simp only; omega
 ·rw [e]; simp only; omega
 ·omega
 ·omega
 ·omega
theorem items_VR (s : ByteArray) : ∀ (n i : Nat), s.size - i ≤ n → ∀ x ∈ items s i, 0 ≤ x → VR x
 | 0, i, h, x, hx, _ => by rw [items_end (by omega)] at hx; cases hx
 | n + 1, i, h, x, hx, h0 => by
  by_cases hi : i < s.size
  ·cases hg : goodAt s i with
   | true =>
    have hw := Lib.decode_width_pos s i hi
    rw [items_good hi hg] at hx
    rcases List.mem_cons.1 hx with rfl | hx
    ·exact decode_VR s i hg
    ·exact items_VR s n _ (by omega) x hx h0
   | false =>
    rw [items_bad hi hg] at hx
    simp at hx; omega
  ·rw [items_end hi] at hx; cases hx
theorem runes_items {s : ByteArray} (h : ∀ x ∈ items s 0, 0 ≤ x) : s = runesBytes (items s 0) ∧ ∀ x ∈ items s 0, VR x := by
 refine ⟨?_, fun x hx => items_VR s s.size 0 (by omega) x hx (h x hx)⟩
 obtain ⟨h1, h2, h3⟩ := items_seg (s := s) (items s 0) 0 [] (by simp) h (by omega)
 have hsz : (runesBytes (items s 0)).size = s.size := by
  rcases Nat.lt_or_ge (0 + (runesBytes (items s 0)).size) s.size with hlt | hge
  ·exfalso
   cases hg : goodAt s (0 + (runesBytes (items s 0)).size) with
   | true => rw [items_good hlt hg] at h1; cases h1
   | false => rw [items_bad hlt hg] at h1; cases h1
  ·omega
 apply bytes_ext
 rw [h3, hsz, List.drop_zero, List.take_of_length_le (by rw [← size_list]; exact Nat.le_refl _)]
end Go.Proofs.YtljglhaeonbfoaaGreatDoor
