/- What a text's runes lex to, as a relation: it is the document's reading; and the same with more lines, another end. Runes written and read again; texts one behind the other. Words that are shown are read; words that are read are shown, but for odd numbers. -/
import Derived.Test.YtmlopggainkoiaaDoorLX5
import Derived.Test.YtmlopggainkoiaaDoorLX4
import Derived.Test.YtmlopggainkoiaaDoorSH2
set_option linter.unusedSimpArgs false
set_option linter.unusedVariables false
namespace Go.Proofs.YtmlopggainkoiaaDoor

inductive Lexes : Int → Int → Bool → List Int → List Word → Prop
  | nil (line col : Int) (rem : Bool) : Lexes line col rem [] []
  | nl (line col : Int) (rem : Bool) (t : List Int) (ws : List Word) : Lexes (line + 1) 1 false t ws → Lexes line col rem (10 :: t) (⟨4, ByteArray.empty, 0, line, col⟩ :: ws)
  | skip (line col : Int) (rem : Bool) (c : Int) (t : List Int) (ws : List Word) : 0 ≤ c → c ≠ 10 → (rem = true ∨ isB c = true ∨ c = 59) → Lexes line (col + 1) (rem || c == 59) t ws → Lexes line col rem (c :: t) ws
  | num (line col : Int) (t l : List Int) (ws : List Word) : NumT t → numBad (runesBytes t) = false → (∀ c l', l = c :: l' → isLD c = false) → Lexes line (col + t.length) false l ws → Lexes line col false (t ++ l) (⟨2, runesBytes t, numN (runesBytes t), line, col⟩ :: ws)
  | name (line col : Int) (t l : List Int) (ws : List Word) : headL t = true → (∀ x ∈ t, isLD x = true) → t.length ≤ 16 → (∀ c l', l = c :: l' → isLD c = false) → Lexes line (col + t.length) false l ws → Lexes line col false (t ++ l) (⟨1, runesBytes t, 0, line, col⟩ :: ws)
  | sign (line col c : Int) (t : List Int) (ws : List Word) : isS c = true → Lexes line (col + 1) false t ws → Lexes line col false (c :: t) (⟨3, Utf8.encode c, 0, line, col⟩ :: ws)

theorem headL_LD {l : List Int} (h : ∀ c l', l = c :: l' → isLD c = false) : headL l = false := by
  cases l with
  | nil => rfl
  | cons c l =>
    have := h c l rfl
    simp only [isLD, Bool.or_eq_false_iff] at this
    exact this.1
theorem notD_of_LD {l : List Int} (h : ∀ c l', l = c :: l' → isLD c = false) : ∀ c l', l = c :: l' → isD c = false := fun c l' e => by
  have := h c l' e
  simp only [isLD, Bool.or_eq_false_iff] at this
  exact this.2
theorem sign_facts {c : Int} (h : isS c = true) (t : List Int) : 0 ≤ c ∧ c ≠ 10 ∧ isB c = false ∧ c ≠ 59 ∧ isL c = false ∧ numLen (c :: t) = 0 := by
  have hs := isS_iff.1 h
  have hd : isD c = false := isD_off (by omega)
  refine ⟨by omega, by omega, by simp [isB]; omega, by omega, isL_off (by omega), ?_⟩
  rw [numLen_cons, if_neg (by omega), List.takeWhile_cons, hd]; rfl
theorem NumT.ne {t : List Int} (h : NumT t) : 0 < t.length := by
  obtain ⟨c, r, rfl, _⟩ := h.head; simp

theorem Lexes.ref {line col : Int} {rem : Bool} {L : List Int} {ws : List Word} (h : Lexes line col rem L ws) : ∀ (f : Nat) (acc : List Word), L.length < f → refL f line col rem L acc = ⟨acc ++ ws, 0, 0, 0⟩ := by
  induction h with
  | nil line col rem =>
    intro f acc hf
    cases f with
    | zero => simp at hf
    | succ f => rw [List.append_nil]; rfl
  | nl line col rem t ws h ih =>
    intro f acc hf
    cases f with
    | zero => simp at hf
    | succ f =>
      rw [refL_cons, if_neg (by decide), if_pos rfl, ih f _ (by simp at hf; omega)]; simp
  | skip line col rem c t ws h0 h10 hs h ih =>
    intro f acc hf
    cases f with
    | zero => simp at hf
    | succ f =>
      rw [refL_cons, if_neg (by omega), if_neg h10, if_pos hs, ih f _ (by simp at hf; omega)]
  | num line col t l ws ht hb hl h ih =>
    intro f acc hf
    cases f with
    | zero => simp at hf
    | succ f =>
      have := ht.ne
      rw [refL_num ht (notD_of_LD hl), hb, if_neg (by decide), headL_LD hl, if_neg (by decide), ih f _ (by rw [List.length_append] at hf; omega)]; simp
  | name line col t l ws h1 h2 h16 hl h ih =>
    intro f acc hf
    cases f with
    | zero => simp at hf
    | succ f =>
      have : 0 < t.length := by cases t <;> simp_all [headL]
      rw [refL_name h1 h2 hl, if_neg (by omega), ih f _ (by rw [List.length_append] at hf; omega)]; simp
  | sign line col c t ws hs h ih =>
    intro f acc hf
    cases f with
    | zero => simp at hf
    | succ f =>
      obtain ⟨a, b, d, e, g, k⟩ := sign_facts hs t
      rw [refL_cons, if_neg (by omega), if_neg b, if_neg (by simp [d, e]), k, if_neg (by omega), g, if_neg (by decide), hs, if_neg (by decide), ih f _ (by simp at hf; omega)]; simp

theorem takeWhile_split (p : Int → Bool) (l : List Int) : ∃ r, l = l.takeWhile p ++ r ∧ ∀ c l', r = c :: l' → p c = false :=
  ⟨l.dropWhile p, (List.takeWhile_append_dropWhile).symm, fun c l' e => by
    have := List.head?_dropWhile_not p l
    rw [e] at this; simpa using this⟩
theorem takeWhile_mem1 {p : Int → Bool} {l : List Int} : ∀ x ∈ l.takeWhile p, p x = true := fun _ hx => by
  induction l with
  | nil => simp at hx
  | cons a l ih =>
    rw [List.takeWhile_cons] at hx
    split at hx
    · rcases List.mem_cons.1 hx with rfl | h
      · assumption
      · exact ih h
    · simp at hx
theorem numLen_split {l : List Int} (h : 0 < numLen l) : ∃ t r, l = t ++ r ∧ NumT t ∧ ∀ c l', r = c :: l' → isD c = false := by
  cases l with
  | nil => simp [numLen] at h
  | cons c l =>
    rw [numLen_cons] at h
    by_cases hc : c = 45
    · rw [if_pos hc] at h
      by_cases hz : (l.takeWhile isD).length = 0
      · rw [if_pos hz] at h; omega
      · obtain ⟨r, hr, hh⟩ := takeWhile_split isD l
        refine ⟨45 :: l.takeWhile isD, r, by rw [List.cons_append, ← hr, hc], ⟨l.takeWhile isD, by intro e; rw [e] at hz; simp at hz, takeWhile_mem1, .inr rfl⟩, hh⟩
    · rw [if_neg hc] at h
      obtain ⟨r, hr, hh⟩ := takeWhile_split isD (c :: l)
      exact ⟨_, r, hr, ⟨_, by intro e; rw [e] at h; simp at h, takeWhile_mem1, .inl rfl⟩, hh⟩
theorem six {l c : Int} : ¬ (errR l c 6).err = 0 := by show ¬ (6 : Int) = 0; decide
theorem three {l c : Int} : ¬ (errR l c 3).err = 0 := by show ¬ (3 : Int) = 0; decide
theorem errR_err (line col e : Int) : (errR line col e).err = e := rfl
theorem ref_lexes : ∀ (f : Nat) (line col : Int) (rem : Bool) (L : List Int) (acc : List Word), L.length < f → (refL f line col rem L acc).err = 0 → ∃ ws, Lexes line col rem L ws
  | 0, _, _, _, _, _, h, _ => by omega
  | f + 1, line, col, rem, [], _, _, _ => ⟨[], .nil ..⟩
  | f + 1, line, col, rem, c :: t, acc, hf, h => by
    have hf' : t.length < f := by simp at hf; omega
    by_cases h0 : c < 0
    · rw [refL_cons, if_pos h0] at h; first | exact absurd h six | exact absurd h three
    by_cases h10 : c = 10
    · rw [refL_cons, if_neg h0, if_pos h10] at h
      obtain ⟨ws, hw⟩ := ref_lexes f _ _ _ t _ hf' h
      subst h10
      exact ⟨_, .nl _ _ _ _ _ hw⟩
    by_cases hs : rem = true ∨ isB c = true ∨ c = 59
    · rw [refL_cons, if_neg h0, if_neg h10, if_pos hs] at h
      obtain ⟨ws, hw⟩ := ref_lexes f _ _ _ t _ hf' h
      exact ⟨_, .skip _ _ _ _ _ _ (by omega) h10 hs hw⟩
    obtain rfl : rem = false := by
      cases rem
      · rfl
      · exact absurd (.inl rfl) hs
    by_cases hn : 0 < numLen (c :: t)
    · obtain ⟨u, r, e, hu, hr⟩ := numLen_split hn
      rw [e] at h hf ⊢
      have hlen := hu.ne
      rw [refL_num hu hr] at h
      split at h
      · first | exact absurd h six | exact absurd h three
      split at h
      · first | exact absurd h six | exact absurd h three
      rename_i hb hl
      obtain ⟨ws, hw⟩ := ref_lexes f _ _ _ r _ (by rw [List.length_append] at hf; omega) h
      refine ⟨_, .num _ _ _ _ _ hu (by simpa using hb) (fun c l' e => ?_) hw⟩
      have h1 := hr c l' e
      rw [e] at hl
      have h2 : isL c = false := by simpa [headL] using hl
      simp [isLD, h1, h2]
    by_cases hL : isL c = true
    · obtain ⟨r, e, hr⟩ := takeWhile_split isLD (c :: t)
      obtain ⟨u, hu⟩ : ∃ u, (c :: t).takeWhile isLD = u := ⟨_, rfl⟩
      have hm : ∀ x ∈ u, isLD x = true := by rw [← hu]; exact takeWhile_mem1
      have hh : headL u = true := by rw [← hu, List.takeWhile_cons, show isLD c = true by simp [isLD, hL]]; exact hL
      rw [hu] at e
      rw [e] at h hf ⊢
      have hlen : 0 < u.length := by cases u <;> simp_all [headL]
      rw [refL_name hh hm hr] at h
      split at h
      · first | exact absurd h six | exact absurd h three
      obtain ⟨ws, hw⟩ := ref_lexes f _ _ _ r _ (by rw [List.length_append] at hf; omega) h
      exact ⟨_, .name _ _ _ _ _ hh hm (by omega) hr hw⟩
    · rw [refL_cons, if_neg h0, if_neg h10, if_neg hs, if_neg hn, if_neg hL] at h
      split at h
      · first | exact absurd h six | exact absurd h three
      rename_i hS
      obtain ⟨ws, hw⟩ := ref_lexes f _ _ _ t _ hf' h
      exact ⟨_, .sign _ _ _ _ _ (by simpa using hS) hw⟩

/-- What is told where there is an error: nothing, a place, one of two errors. -/
def ErrP (r : ReadR) : Prop := r.err = 0 ∨ (r.words = [] ∧ 1 ≤ r.line ∧ 1 ≤ r.col ∧ (r.err = 6 ∨ r.err = 3))
theorem errR_P {line col e : Int} (h1 : 1 ≤ line) (h2 : 1 ≤ col) (he : e = 6 ∨ e = 3) : ErrP (errR line col e) := .inr ⟨rfl, h1, h2, he⟩
theorem ref_errP : ∀ (f : Nat) (line col : Int) (rem : Bool) (L : List Int) (acc : List Word), 1 ≤ line → 1 ≤ col → ErrP (refL f line col rem L acc)
  | 0, _, _, _, _, _, _, _ => .inl rfl
  | f + 1, line, col, rem, [], _, _, _ => .inl rfl
  | f + 1, line, col, rem, c :: t, acc, h1, h2 => by
    rw [refL_cons]
    repeat' split
    all_goals first
      | exact errR_P (by omega) (by omega) (by decide)
      | exact ref_errP f _ _ _ _ _ (by omega) (by omega)

/-- A line further down. -/
def downW (x : Word) : Word := { x with line := x.line + 1 }
def downR (A : List Word) (r : ReadR) : ReadR := if r.err = 0 then ⟨A ++ r.words.map downW, 0, 0, 0⟩ else ⟨[], r.line + 1, r.col, r.err⟩
theorem ref_down (A : List Word) : ∀ (f : Nat) (line col : Int) (rem : Bool) (L : List Int) (acc : List Word), refL f (line + 1) col rem L (A ++ acc.map downW) = downR A (refL f line col rem L acc)
  | 0, _, _, _, _, _ => rfl
  | f + 1, line, col, rem, [], _ => rfl
  | f + 1, line, col, rem, c :: t, acc => by
    have key : ∀ x : Word, A ++ acc.map downW ++ [downW x] = A ++ (acc ++ [x]).map downW := fun x => by simp
    rw [refL_cons, refL_cons]
    repeat' split
    all_goals first
      | rfl
      | (rw [← ref_down A f]; done)
      | (rw [← ref_down A f, ← key]; rfl)

/-- A remark behind changes nothing. -/
theorem Lexes.more {line col : Int} {rem : Bool} {L : List Int} {ws : List Word} (h : Lexes line col rem L ws) (r : List Int) (hr : ∀ x ∈ r, 0 ≤ x ∧ x ≠ 10) : Lexes line col rem (L ++ 59 :: r) ws := by
  have tail : ∀ (r : List Int) (line col : Int), (∀ x ∈ r, 0 ≤ x ∧ x ≠ 10) → Lexes line col true r [] := by
    intro r
    induction r with
    | nil => intro _ _ _; exact .nil ..
    | cons c r ih => intro line col hr; exact .skip _ _ _ _ _ _ (hr c (by simp)).1 (hr c (by simp)).2 (.inl rfl) (by rw [Bool.true_or]; exact ih _ _ fun x hx => hr x (by simp [hx]))
  have hl : ∀ l : List Int, (∀ c l', l = c :: l' → isLD c = false) → ∀ c l', l ++ 59 :: r = c :: l' → isLD c = false := by
    intro l h c l' e
    cases l with
    | nil => injection e with e1 _; subst e1; decide
    | cons a l => injection e with e1 _; exact e1 ▸ h a l rfl
  induction h with
  | nil line col rem => exact .skip _ _ _ _ _ _ (by decide) (by decide) (.inr (.inr rfl)) (by rw [show ((59 : Int) == 59) = true by decide, Bool.or_true]; exact tail r _ _ hr)
  | nl line col rem t ws h ih => exact .nl _ _ _ _ _ ih
  | skip line col rem c t ws h0 h10 hs h ih => exact .skip _ _ _ _ _ _ h0 h10 hs ih
  | num line col t l ws ht hb hh h ih => rw [List.append_assoc]; exact .num _ _ _ _ _ ht hb (hl l hh) ih
  | name line col t l ws h1 h2 h16 hh h ih => rw [List.append_assoc]; exact .name _ _ _ _ _ h1 h2 h16 (hl l hh) ih
  | sign line col c t ws hs h ih => exact .sign _ _ _ _ _ hs ih
end Go.Proofs.YtmlopggainkoiaaDoor
set_option linter.unusedSimpArgs false
set_option linter.unusedVariables false
namespace Go.Proofs.YtmlopggainkoiaaDoor

def VR (x : Int) : Prop := (0 ≤ x ∧ x < 55296) ∨ (57344 ≤ x ∧ x ≤ 1114111)

theorem get_left (a b : ByteArray) (i : Nat) (h : i < a.size) : (a ++ b).get! i = a.get! i := by
  show (a ++ b).data[i]! = a.data[i]!
  rw [ByteArray.data_append]
  have h' : i < a.data.size := h
  rw [getElem!_pos a.data i h', getElem!_pos (a.data ++ b.data) i (by rw [Array.size_append]; omega), Array.getElem_append_left h']
theorem get_right (a b : ByteArray) (i : Nat) : (a ++ b).get! (a.size + i) = b.get! i := by
  show (a ++ b).data[a.size + i]! = b.data[i]!
  rw [ByteArray.data_append]
  have hs : a.size = a.data.size := rfl
  rw [hs]
  by_cases h : i < b.data.size
  · rw [getElem!_pos b.data i h, getElem!_pos (a.data ++ b.data) _ (by rw [Array.size_append]; omega), Array.getElem_append_right (by omega)]
    congr 1; omega
  · rw [getElem!_neg b.data i h, getElem!_neg (a.data ++ b.data) _ (by rw [Array.size_append]; omega)]
theorem decode_right (a b : ByteArray) (i : Nat) : Utf8.decode (a ++ b) (a.size + i) = Utf8.decode b i := by
  rw [Lib.decode_at, Lib.decode_at, ByteArray.size_append, show a.size + b.size - (a.size + i) = b.size - i by omega, get_right, Nat.add_assoc, get_right, Nat.add_assoc, get_right, Nat.add_assoc, get_right]
theorem good_right (a b : ByteArray) (i : Nat) : goodAt (a ++ b) (a.size + i) = goodAt b i := by
  unfold goodAt; rw [decode_right, get_right]
theorem items_right (a b : ByteArray) : ∀ (n i : Nat), b.size - i ≤ n → items (a ++ b) (a.size + i) = items b i
  | 0, i, h => by
    rw [items_end (s := a ++ b) (by rw [ByteArray.size_append]; omega), items_end (by omega)]
  | n + 1, i, h => by
    by_cases hi : i < b.size
    · have hi' : a.size + i < (a ++ b).size := by rw [ByteArray.size_append]; omega
      cases hg : goodAt b i with
      | true =>
        have hw := Lib.decode_width_pos b i hi
        rw [items_good hi hg, items_good hi' (by rw [good_right]; exact hg), decode_right, Nat.add_assoc, items_right a b n _ (by omega)]
      | false => rw [items_bad hi hg, items_bad hi' (by rw [good_right]; exact hg)]
    · rw [items_end hi, items_end (s := a ++ b) (by rw [ByteArray.size_append]; omega)]
theorem items_behind (a b : ByteArray) : items (a ++ b) a.size = items b 0 := by
  have := items_right a b b.size 0 (by omega); simpa using this

theorem get_of_list {a : ByteArray} {l : List UInt8} (h : a.data.toList = l) (i : Nat) (x : UInt8) (hx : l[i]? = some x) : a.get! i = x := by
  subst h
  obtain ⟨hi, e⟩ := List.getElem?_eq_some_iff.1 hx
  have hi' : i < a.data.size := by simpa using hi
  show a.data[i]! = x
  rw [getElem!_pos a.data i hi', ← e]; simp
theorem ofNat_toNat {n : Nat} (h : n < 256) : (UInt8.ofNat n).toNat = n := UInt8.toNat_ofNat_of_lt' h

/-- A rune written is read. -/
theorem decode_enc {c : Int} (h : VR c) (b : ByteArray) : Utf8.decode (Utf8.encode c ++ b) 0 = (c.toNat, (Utf8.encode c).size) ∧ goodAt (Utf8.encode c ++ b) 0 = true ∧ 0 < (Utf8.encode c).size := by
  obtain ⟨n, rfl⟩ : ∃ n : Nat, c = n := ⟨c.toNat, by unfold VR at h; omega⟩
  unfold VR at h
  have hsz : (Utf8.encode (n : Int) ++ b).size = (Utf8.encode (n : Int)).data.toList.length + b.size := by rw [ByteArray.size_append, size_list]
  by_cases h1 : n < 128
  · have e := enc1 h1
    have g0 : ((Utf8.encode (n : Int) ++ b).get! 0).toNat = n := by
      rw [get_left _ _ _ (by rw [size_list, e]; simp), get_of_list e 0 _ rfl, ofNat_toNat (by omega)]
    have es : (Utf8.encode (n : Int)).size = 1 := by rw [size_list, e]; rfl
    refine ⟨?_, by unfold goodAt; rw [g0]; simp [h1], by omega⟩
    rw [Lib.decode_at, g0, es]
    unfold Lib.decodeN
    rw [if_pos h1]; simp
  by_cases h2 : n < 2048
  · have e := enc2 (by omega) h2
    have es : (Utf8.encode (n : Int)).size = 2 := by rw [size_list, e]; rfl
    have g0 : ((Utf8.encode (n : Int) ++ b).get! 0).toNat = 192 + n / 64 := by
      rw [get_left _ _ _ (by omega), get_of_list e 0 _ rfl, ofNat_toNat (by omega)]
    have g1 : ((Utf8.encode (n : Int) ++ b).get! (0 + 1)).toNat = 128 + n % 64 := by
      rw [get_left _ _ _ (by omega), get_of_list e 1 _ rfl, ofNat_toNat (by omega)]
    have hd : Utf8.decode (Utf8.encode (n : Int) ++ b) 0 = (n, 2) := by
      rw [Lib.decode_at, g0, g1, hsz, e]
      unfold Lib.decodeN
      rw [if_neg (by omega), if_pos (by simp; omega), if_pos (by omega)]
      exact congrArg (fun x => (x, _)) (by omega)
    refine ⟨by rw [hd, es]; simp, by unfold goodAt; rw [hd]; simp, by omega⟩
  by_cases h3 : n < 65536
  · have e := enc3 (by omega) h3 (by omega)
    have es : (Utf8.encode (n : Int)).size = 3 := by rw [size_list, e]; rfl
    have g0 : ((Utf8.encode (n : Int) ++ b).get! 0).toNat = 224 + n / 4096 := by
      rw [get_left _ _ _ (by omega), get_of_list e 0 _ rfl, ofNat_toNat (by omega)]
    have g1 : ((Utf8.encode (n : Int) ++ b).get! (0 + 1)).toNat = 128 + n / 64 % 64 := by
      rw [get_left _ _ _ (by omega), get_of_list e 1 _ rfl, ofNat_toNat (by omega)]
    have g2 : ((Utf8.encode (n : Int) ++ b).get! (0 + 2)).toNat = 128 + n % 64 := by
      rw [get_left _ _ _ (by omega), get_of_list e 2 _ rfl, ofNat_toNat (by omega)]
    have hd : Utf8.decode (Utf8.encode (n : Int) ++ b) 0 = (n, 3) := by
      rw [Lib.decode_at, g0, g1, g2, hsz, e]
      unfold Lib.decodeN
      rw [if_neg (by omega), if_neg (by omega), if_pos (by simp; omega), if_pos (by omega)]
      exact congrArg (fun x => (x, _)) (by omega)
    refine ⟨by rw [hd, es]; simp, by unfold goodAt; rw [hd]; simp, by omega⟩
  · have e := enc4 (c := n) (by omega) (by omega)
    have es : (Utf8.encode (n : Int)).size = 4 := by rw [size_list, e]; rfl
    have g0 : ((Utf8.encode (n : Int) ++ b).get! 0).toNat = 240 + n / 262144 := by
      rw [get_left _ _ _ (by omega), get_of_list e 0 _ rfl, ofNat_toNat (by omega)]
    have g1 : ((Utf8.encode (n : Int) ++ b).get! (0 + 1)).toNat = 128 + n / 4096 % 64 := by
      rw [get_left _ _ _ (by omega), get_of_list e 1 _ rfl, ofNat_toNat (by omega)]
    have g2 : ((Utf8.encode (n : Int) ++ b).get! (0 + 2)).toNat = 128 + n / 64 % 64 := by
      rw [get_left _ _ _ (by omega), get_of_list e 2 _ rfl, ofNat_toNat (by omega)]
    have g3 : ((Utf8.encode (n : Int) ++ b).get! (0 + 3)).toNat = 128 + n % 64 := by
      rw [get_left _ _ _ (by omega), get_of_list e 3 _ rfl, ofNat_toNat (by omega)]
    have hd : Utf8.decode (Utf8.encode (n : Int) ++ b) 0 = (n, 4) := by
      rw [Lib.decode_at, g0, g1, g2, g3, hsz, e]
      unfold Lib.decodeN
      rw [if_neg (by omega), if_neg (by omega), if_neg (by omega), if_pos (by simp; omega), if_pos (by omega)]
      exact congrArg (fun x => (x, _)) (by omega)
    refine ⟨by rw [hd, es]; simp, by unfold goodAt; rw [hd]; simp, by omega⟩
theorem items_enc {c : Int} (h : VR c) (b : ByteArray) : items (Utf8.encode c ++ b) 0 = c :: items b 0 := by
  obtain ⟨h1, h2, h3⟩ := decode_enc h b
  have h0 : 0 ≤ c := by unfold VR at h; omega
  rw [items_good (by rw [ByteArray.size_append]; omega) h2, h1]
  simp only
  rw [Nat.zero_add, items_behind, Int.toNat_of_nonneg h0]
theorem items_runes : ∀ (t : List Int) (b : ByteArray), (∀ x ∈ t, VR x) → items (runesBytes t ++ b) 0 = t ++ items b 0
  | [], b, _ => by
    have e : runesBytes [] ++ b = b := by apply bytes_ext; rw [ByteArray.data_append, Array.toList_append, runesBytes_list]; rfl
    rw [e]; rfl
  | c :: t, b, h => by
    have e : runesBytes (c :: t) ++ b = Utf8.encode c ++ (runesBytes t ++ b) := by
      apply bytes_ext; rw [runesBytes_cons]; simp
    rw [e, items_enc (h c (by simp)), items_runes t b (fun x hx => h x (by simp [hx]))]; rfl
theorem append_empty (a : ByteArray) : a ++ ByteArray.empty = a := by apply bytes_ext; simp
theorem items_empty : items ByteArray.empty 0 = [] := items_end (by decide)
theorem items_of_runes (t : List Int) (h : ∀ x ∈ t, VR x) : items (runesBytes t) 0 = t := by
  have := items_runes t ByteArray.empty h
  rw [append_empty, items_empty, List.append_nil] at this
  exact this
/-- What is read are runes. -/
theorem decode_VR (s : ByteArray) (i : Nat) (hg : goodAt s i = true) : VR ((Utf8.decode s i).1 : Int) := by
  unfold VR
  have l0 := byte_lt (s.get! i); have l1 := byte_lt (s.get! (i + 1)); have l2 := byte_lt (s.get! (i + 2)); have l3 := byte_lt (s.get! (i + 3))
  rcases decodeN_cases (s.size - i) _ _ _ _ l0 l1 l2 l3 (Utf8.decode s i) (Lib.decode_at s i).symm with ⟨a, e⟩ | ⟨a, e, no⟩ | ⟨a, b, c, d, f, g, k, l⟩ | ⟨a, b, c, d, f, g, k, l, m⟩ | ⟨a, b, c, d, f, g, k, l, m, n⟩
  · rw [e]; simp only; omega
  · rw [e]; simp only; omega
  · omega
  · omega
  · omega
theorem items_VR (s : ByteArray) : ∀ (n i : Nat), s.size - i ≤ n → ∀ x ∈ items s i, 0 ≤ x → VR x
  | 0, i, h, x, hx, _ => by rw [items_end (by omega)] at hx; cases hx
  | n + 1, i, h, x, hx, h0 => by
    by_cases hi : i < s.size
    · cases hg : goodAt s i with
      | true =>
        have hw := Lib.decode_width_pos s i hi
        rw [items_good hi hg] at hx
        rcases List.mem_cons.1 hx with rfl | hx
        · exact decode_VR s i hg
        · exact items_VR s n _ (by omega) x hx h0
      | false =>
        rw [items_bad hi hg] at hx
        simp at hx; omega
    · rw [items_end hi] at hx; cases hx
/-- A text without bad bytes is its runes, written. -/
theorem runes_items {s : ByteArray} (h : ∀ x ∈ items s 0, 0 ≤ x) : s = runesBytes (items s 0) ∧ ∀ x ∈ items s 0, VR x := by
  refine ⟨?_, fun x hx => items_VR s s.size 0 (by omega) x hx (h x hx)⟩
  obtain ⟨h1, h2, h3⟩ := items_seg (s := s) (items s 0) 0 [] (by simp) h (by omega)
  have hsz : (runesBytes (items s 0)).size = s.size := by
    rcases Nat.lt_or_ge (0 + (runesBytes (items s 0)).size) s.size with hlt | hge
    · exfalso
      cases hg : goodAt s (0 + (runesBytes (items s 0)).size) with
      | true => rw [items_good hlt hg] at h1; cases h1
      | false => rw [items_bad hlt hg] at h1; cases h1
    · omega
  apply bytes_ext
  rw [h3, hsz, List.drop_zero, List.take_of_length_le (by rw [← size_list]; exact Nat.le_refl _)]
end Go.Proofs.YtmlopggainkoiaaDoor
set_option linter.unusedSimpArgs false
set_option linter.unusedVariables false
namespace Go.Proofs.YtmlopggainkoiaaDoor

/-! ### numerals -/
theorem spell_snoc : ∀ (l : List UInt8) (c : UInt8) (acc : Nat), spell acc (l ++ [c]) = 10 * spell acc l + (c.toNat - 48)
  | [], _, _ => rfl
  | x :: l, c, acc => spell_snoc l c (10 * acc + (x.toNat - 48))
theorem u8_back (c : UInt8) : UInt8.ofNat c.toNat = c := by simp
theorem dec_can : ∀ (n : Nat) (l : List UInt8), l.length = n → DigB l → l ≠ [] → (l.length = 1 ∨ l.head? ≠ some 48) → Lib.decDigits (spell 0 l) = l ∧ (l.head? ≠ some 48 → 0 < spell 0 l)
  | 0, l, hn, _, hne, _ => by cases l <;> simp_all
  | n + 1, l, hn, hd, hne, hc => by
    obtain ⟨l', c, rfl⟩ : ∃ l' c, l = l' ++ [c] := ⟨l.dropLast, l.getLast hne, (List.dropLast_concat_getLast hne).symm⟩
    have hcd := hd c (by simp)
    rw [spell_snoc]
    by_cases h0 : l' = []
    · subst h0
      have e : 10 * spell 0 [] + (c.toNat - 48) = c.toNat - 48 := by show 10 * 0 + _ = _; omega
      rw [e]
      refine ⟨?_, fun h => ?_⟩
      · rw [Lib.decDigits_one (by omega), show 48 + (c.toNat - 48) = c.toNat by omega, u8_back]; rfl
      · have : c ≠ 48 := by intro e; subst e; exact h rfl
        have : c.toNat ≠ 48 := fun e => this (UInt8.toNat_inj.1 e)
        omega
    · have hh : l'.head? = (l' ++ [c]).head? := by cases l' <;> simp_all
      have h48 : (l' ++ [c]).head? ≠ some 48 := by
        rcases hc with h | h
        · exfalso; apply h0; rw [List.length_append] at h; simp at h; exact h
        · exact h
      obtain ⟨i1, i2⟩ := dec_can n l' (by simp at hn; exact hn) (fun x hx => hd x (by simp [hx])) h0 (.inr (by rw [hh]; exact h48))
      have hp := i2 (by rw [hh]; exact h48)
      refine ⟨?_, fun _ => by omega⟩
      rw [Lib.decDigits, dif_neg (by omega), show (10 * spell 0 l' + (c.toNat - 48)) / 10 = spell 0 l' by omega, i1, show (48 + (10 * spell 0 l' + (c.toNat - 48)) % 10) = c.toNat by omega, u8_back]
theorem can_dec (u : Nat) : DigB (Lib.decDigits u) ∧ spell 0 (Lib.decDigits u) = u ∧ Lib.decDigits u ≠ [] := by
  induction u using Nat.strongRecOn with
  | _ u ih =>
    by_cases h : u < 10
    · rw [Lib.decDigits_one h]
      refine ⟨?_, ?_, by simp⟩
      · intro c hc; obtain rfl := List.mem_singleton.1 hc; rw [ofNat_toNat (by omega)]; omega
      · show 10 * 0 + ((UInt8.ofNat (48 + u)).toNat - 48) = u; rw [ofNat_toNat (by omega)]; omega
    · obtain ⟨i1, i2, i3⟩ := ih (u / 10) (by omega)
      rw [Lib.decDigits, dif_neg h]
      refine ⟨?_, ?_, by simp⟩
      · intro c hc
        rcases List.mem_append.1 hc with hc | hc
        · exact i1 c hc
        · obtain rfl := List.mem_singleton.1 hc; rw [ofNat_toNat (by omega)]; omega
      · rw [spell_snoc, i2, ofNat_toNat (by omega)]; omega
/-- bytes as runes -/
def runesOf (l : List UInt8) : List Int := l.map fun b => (b.toNat : Int)
theorem runesOf_bytes (l : List UInt8) (h : ∀ b ∈ l, b.toNat < 128) : (runesBytes (runesOf l)).data.toList = l := by
  rw [asc_bytes _ (by intro x hx; obtain ⟨b, hb, rfl⟩ := List.mem_map.1 hx; have := h b hb; omega)]
  unfold runesOf
  rw [List.map_map]
  conv => rhs; rw [← List.map_id l]
  apply List.map_congr_left
  intro b hb
  simp
theorem DigB.low {l : List UInt8} (h : DigB l) : ∀ b ∈ l, b.toNat < 128 := fun b hb => by have := h b hb; omega
theorem DigB.isD {l : List UInt8} (h : DigB l) : ∀ x ∈ runesOf l, isD x = true := fun x hx => by
  obtain ⟨b, hb, rfl⟩ := List.mem_map.1 hx
  rw [isD_iff]; have := h b hb; omega
theorem runesOf_ne {l : List UInt8} (h : l ≠ []) : runesOf l ≠ [] := by cases l <;> simp_all [runesOf]
/-- a numeral, written: it is a number's text, and tells it -/
theorem itoa_num (n : Int) (h1 : -1099511627776 ≤ n) (h2 : n ≤ 1099511627776) : ∃ t, itoaB n = runesBytes t ∧ NumT t ∧ numBad (itoaB n) = false ∧ numN (itoaB n) = n := by
  by_cases hn : n < 0
  · obtain ⟨c1, c2, c3⟩ := can_dec n.natAbs
    have e : Lib.itoa n = 45 :: Lib.decDigits n.natAbs := by unfold Lib.itoa; rw [if_pos hn]
    have ed : (itoaB n).data.toList = 45 :: Lib.decDigits n.natAbs := by unfold itoaB; rw [e]
    refine ⟨45 :: runesOf (Lib.decDigits n.natAbs), ?_, ⟨_, runesOf_ne c3, c1.isD, .inr rfl⟩, ?_⟩
    · apply bytes_ext
      rw [ed, show (45 : Int) :: runesOf (Lib.decDigits n.natAbs) = runesOf (45 :: Lib.decDigits n.natAbs) from rfl, runesOf_bytes]
      intro b hb
      rcases List.mem_cons.1 hb with rfl | hb
      · decide
      · exact c1.low b hb
    · obtain ⟨b1, b2⟩ := bad_of (s := itoaB n) (V := spell 0 (Lib.decDigits n.natAbs)) (B := 9223372036854775808) (x := -(spell 0 (Lib.decDigits n.natAbs) : Int)) (.inr rfl) (by decide) (by rw [ed, atoi_minus _ c1 c3])
      rw [c2] at b1 b2
      rw [b1, b2 (by omega)]
      refine ⟨by simp only [decide_eq_false_iff_not]; omega, by omega⟩
  · obtain ⟨c1, c2, c3⟩ := can_dec n.toNat
    have e : Lib.itoa n = Lib.decDigits n.toNat := by unfold Lib.itoa; rw [if_neg hn]
    have ed : (itoaB n).data.toList = Lib.decDigits n.toNat := by unfold itoaB; rw [e]
    refine ⟨runesOf (Lib.decDigits n.toNat), ?_, ⟨_, runesOf_ne c3, c1.isD, .inl rfl⟩, ?_⟩
    · apply bytes_ext; rw [ed, runesOf_bytes _ c1.low]
    · obtain ⟨b1, b2⟩ := bad_of (s := itoaB n) (V := spell 0 (Lib.decDigits n.toNat)) (B := 9223372036854775807) (x := (spell 0 (Lib.decDigits n.toNat) : Int)) (.inl rfl) (by decide) (by
        rw [ed, atoi_plain _ c1 c3]
        by_cases h : spell 0 (Lib.decDigits n.toNat) < 9223372036854775808
        · rw [if_pos h, if_pos (by omega)]
        · rw [if_neg h, if_neg (by omega)])
      rw [c2] at b1 b2
      rw [b1, b2 (by omega)]
      refine ⟨by simp only [decide_eq_false_iff_not]; omega, by omega⟩
/-- A number's text that is written as it must be is that of what it tells. -/
theorem num_itoa {t : List Int} (h : NumT t) (hb : numBad (runesBytes t) = false) (hodd : ∀ d, (t = d ∨ t = 45 :: d) → (∀ x ∈ d, isD x = true) → d ≠ [] → (t = d ∧ d.length = 1) ∨ d.head? ≠ some 48) : itoaB (numN (runesBytes t)) = runesBytes t ∧ -1099511627776 ≤ numN (runesBytes t) ∧ numN (runesBytes t) ≤ 1099511627776 := by
  have ha := asc_bytes t h.asc
  obtain ⟨d, h1, h2, h3⟩ := h
  have hd := digB_of h2
  have hne : (d.map fun x => UInt8.ofNat x.toNat) ≠ [] := by cases d <;> simp_all
  have ho := hodd d h3 h2 h1
  obtain ⟨l, hl⟩ : ∃ l, (d.map fun x => UInt8.ofNat x.toNat) = l := ⟨_, rfl⟩
  have hlen : d.length = l.length := by rw [← hl, List.length_map]
  have h48 : d.head? ≠ some 48 → l.head? ≠ some 48 := by
    intro h e
    apply h
    cases d with
    | nil => exact absurd rfl h1
    | cons x d =>
      rw [← hl] at e
      simp only [List.map_cons, List.head?_cons, Option.some.injEq] at e ⊢
      have hx := isD_iff.1 (h2 x (by simp))
      have := congrArg UInt8.toNat e
      rw [ofNat_toNat (by omega)] at this
      have h48 : (48 : UInt8).toNat = 48 := rfl
      omega
  rw [hl] at hd hne
  rcases h3 with rfl | rfl
  · rw [hl] at ha
    obtain ⟨k1, k2⟩ := dec_can _ l rfl hd hne (by rcases ho with h | h; exact .inl (by rw [← hlen]; exact h.2); exact .inr (h48 h))
    obtain ⟨b1, b2⟩ := bad_of (s := runesBytes t) (V := spell 0 l) (B := 9223372036854775807) (x := (spell 0 l : Int)) (.inl rfl) (by decide) (by
        rw [ha, atoi_plain _ hd hne]
        by_cases h : spell 0 l < 9223372036854775808
        · rw [if_pos h, if_pos (by omega)]
        · rw [if_neg h, if_neg (by omega)])
    rw [b1] at hb
    have hle : spell 0 l ≤ 1099511627776 := by simp only [decide_eq_false_iff_not] at hb; omega
    rw [b2 hle]
    refine ⟨?_, by omega, by omega⟩
    apply bytes_ext
    rw [ha]
    show (Lib.itoa (spell 0 l : Int)).toArray.toList = l
    unfold Lib.itoa
    rw [if_neg (by omega), Int.toNat_natCast, k1]
  · have hv : l.head? ≠ some 48 := h48 (by
      rcases ho with h | h
      · exact absurd h.1 (by intro e; have := congrArg List.length e; simp at this)
      · exact h)
    rw [List.map_cons, hl] at ha
    have ha' : (runesBytes (45 :: d)).data.toList = 45 :: l := ha
    obtain ⟨k1, k2⟩ := dec_can _ l rfl hd hne (.inr hv)
    obtain ⟨b1, b2⟩ := bad_of (s := runesBytes (45 :: d)) (V := spell 0 l) (B := 9223372036854775808) (x := -(spell 0 l : Int)) (.inr rfl) (by decide) (by rw [ha', atoi_minus _ hd hne])
    rw [b1] at hb
    have hle : spell 0 l ≤ 1099511627776 := by simp only [decide_eq_false_iff_not] at hb; omega
    have hp := k2 hv
    rw [b2 hle]
    refine ⟨?_, by omega, by omega⟩
    apply bytes_ext
    rw [ha']
    show (Lib.itoa (-(spell 0 l : Int))).toArray.toList = 45 :: l
    unfold Lib.itoa
    rw [if_pos (by omega), Int.natAbs_neg, Int.natAbs_natCast, k1]

/-! ### names -/
theorem isNameR_iff : ∀ (t : List Int) (n : Nat), isNameR n t = true ↔ (n = 0 → headL t = true) ∧ (∀ x ∈ t, isLD x = true) ∧ 1 ≤ n + t.length ∧ n + t.length ≤ 16
  | [], n => by
    unfold isNameR
    rw [Bool.and_eq_true, decide_eq_true_eq, decide_eq_true_eq]
    refine ⟨fun ⟨a, b⟩ => ⟨fun e => by omega, by simp, by simpa using a, by simpa using b⟩, fun ⟨_, _, a, b⟩ => ⟨by simpa using a, by simpa using b⟩⟩
  | c :: t, n => by
    rw [isNameR_cons]
    by_cases h : isL c = false ∧ (n = 0 ∨ isD c = false)
    · rw [if_pos h]
      refine ⟨fun h => (Bool.noConfusion h), fun ⟨a, b, _⟩ => ?_⟩
      exfalso
      rcases h.2 with h2 | h2
      · have := a h2; simp [headL, h.1] at this
      · have := b c (by simp); simp [isLD, h.1, h2] at this
    · rw [if_neg h, isNameR_iff t (n + 1)]
      simp only [List.length_cons]
      have hx : isLD c = true ∧ (n = 0 → isL c = true) := by
        unfold isLD
        cases hL : isL c <;> cases hD : isD c <;> simp_all
      refine ⟨fun ⟨_, b, c1, d⟩ => ⟨fun e => hx.2 e, fun x hx' => ?_, by omega, by omega⟩, fun ⟨a, b, c1, d⟩ => ⟨fun e => by omega, fun x hx' => b x (by simp [hx']), by omega, by omega⟩⟩
      rcases List.mem_cons.1 hx' with rfl | h'
      · exact hx.1
      · exact b x h'
theorem LD_VR {c : Int} (h : isLD c = true) : VR c := by
  rcases isLD_iff.1 h with h | h
  · rw [isL_iff] at h; unfold VR; omega
  · rw [isD_iff] at h; unfold VR; omega
theorem S_VR {c : Int} (h : isS c = true) : VR c := by rw [isS_iff] at h; unfold VR; omega
theorem NumT.VR {t : List Int} (h : NumT t) : ∀ x ∈ t, VR x := fun x hx => by have := h.asc x hx; unfold Proofs.YtmlopggainkoiaaDoor.VR; omega

/-! ### words -/
def TokW (x : Word) (t : List Int) : Prop := x.text = runesBytes t ∧
  ((x.kind = 1 ∧ x.n = 0 ∧ headL t = true ∧ (∀ c ∈ t, isLD c = true) ∧ t.length ≤ 16) ∨ (x.kind = 2 ∧ NumT t ∧ numBad x.text = false ∧ numN x.text = x.n) ∨ (x.kind = 3 ∧ x.n = 0 ∧ ∃ c, t = [c] ∧ isS c = true) ∨ (x.kind = 4 ∧ x.n = 0 ∧ t = []))
theorem TokW.VR {x : Word} {t : List Int} (h : TokW x t) : ∀ c ∈ t, VR c := by
  rcases h.2 with h | h | h | h
  · exact fun c hc => LD_VR (h.2.2.2.1 c hc)
  · exact h.2.1.VR
  · obtain ⟨_, _, c, rfl, hs⟩ := h
    intro x hx; simp at hx; subst hx; exact S_VR hs
  · obtain ⟨_, _, rfl⟩ := h; simp
theorem TokW.items {x : Word} {t : List Int} (h : TokW x t) : items x.text 0 = t := by rw [h.1]; exact items_of_runes t h.VR
theorem right_tok {x : Word} (h : rightW x = true) : ∃ t, TokW x t := by
  obtain ⟨k, tx, n, ln, cl⟩ := x
  unfold rightW at h
  simp only at h
  by_cases h1 : k = 1
  · rw [if_pos h1] at h
    simp only [Bool.and_eq_true, beq_iff_eq] at h
    obtain ⟨hn, hs⟩ := h
    obtain ⟨a, b, c, d⟩ := (isNameR_iff _ 0).1 hs
    obtain ⟨e1, _⟩ := runes_items (s := tx) (fun x hx => by have := isLD_pos (b x hx); omega)
    exact ⟨_, e1, .inl ⟨h1, hn, a rfl, b, by omega⟩⟩
  rw [if_neg h1] at h
  by_cases h2 : k = 2
  · rw [if_pos h2] at h
    simp only [Bool.and_eq_true, decide_eq_true_eq, beq_iff_eq] at h
    obtain ⟨⟨hlo, hhi⟩, ht⟩ := h
    have ht' : tx = itoaB n := by apply bytes_ext; rw [← ByteArray.toList_eq, ← ByteArray.toList_eq]; exact ht
    obtain ⟨t, a, b, c, d⟩ := itoa_num n hlo hhi
    exact ⟨t, by rw [← a]; exact ht', .inr (.inl ⟨h2, b, by simp only; rw [ht']; exact c, by simp only; rw [ht']; exact d⟩)⟩
  rw [if_neg h2] at h
  by_cases h3 : k = 3
  · rw [if_pos h3] at h
    simp only [Bool.and_eq_true, beq_iff_eq] at h
    obtain ⟨hn, hs⟩ := h
    unfold sgnT at hs
    split at hs
    · rename_i c hc
      obtain ⟨e1, _⟩ := runes_items (s := tx) (fun x hx => by rw [hc] at hx; simp at hx; subst hx; have := isS_iff.1 hs; omega)
      rw [hc] at e1
      exact ⟨_, e1, .inr (.inr (.inl ⟨h3, hn, c, rfl, hs⟩))⟩
    · cases hs
  · rw [if_neg h3] at h
    simp only [Bool.and_eq_true, beq_iff_eq] at h
    obtain ⟨⟨h4, hn⟩, ht⟩ := h
    refine ⟨[], ?_, .inr (.inr (.inr ⟨h4, hn, rfl⟩))⟩
    apply bytes_ext
    rw [← ByteArray.toList_eq, List.isEmpty_iff.1 ht]; rfl
/-- Has it a nought ahead? -/
def oddW (x : Word) : Bool := x.kind == 2 && decide (1 < x.text.size) && (x.text.get! 0 == 48 || (x.text.get! 0 == 45 && x.text.get! 1 == 48))
theorem tok_right {x : Word} {t : List Int} (h : TokW x t) (ho : oddW x = false) : rightW x = true := by
  have hi := h.items
  obtain ⟨ht, h⟩ := h
  obtain ⟨k, tx, n, ln, cl⟩ := x
  simp only at h ht hi
  rcases h with ⟨rfl, rfl, a, b, c⟩ | ⟨rfl, a, b, c⟩ | ⟨rfl, rfl, c, rfl, hs⟩ | ⟨rfl, rfl, rfl⟩
  · unfold rightW
    simp only
    rw [if_pos trivial, hi, (isNameR_iff t 0).2 ⟨fun _ => a, b, by cases t <;> simp_all [headL], by omega⟩]; rfl
  · unfold rightW
    simp only
    rw [if_neg (by decide), if_pos trivial]
    have hbytes := asc_bytes t a.asc
    rw [ht] at b c
    obtain ⟨k1, k2, k3⟩ := num_itoa a b (fun d hd hdig hne => by
      unfold oddW at ho
      simp only at ho
      rw [show ((2 : Int) == 2) = true by decide, Bool.true_and, Bool.and_eq_false_iff, ht, asc_size t a.asc] at ho
      rcases hd with rfl | rfl
      · rcases ho with ho | ho
        · left; refine ⟨rfl, ?_⟩
          have := a.ne
          simp only [decide_eq_false_iff_not] at ho; omega
        · right
          cases t with
          | nil => exact absurd rfl hne
          | cons x t =>
            have hx := isD_iff.1 (hdig x (by simp))
            rw [Bool.or_eq_false_iff] at ho
            have h0 := ho.1
            rw [get_of_list hbytes 0 (UInt8.ofNat x.toNat) rfl] at h0
            simp only [List.head?_cons, ne_eq, Option.some.injEq]
            rintro rfl
            exact absurd h0 (by decide)
      · rcases ho with ho | ho
        · have : 0 < d.length := by cases d <;> simp_all
          simp only [decide_eq_false_iff_not, List.length_cons] at ho; omega
        · right
          cases d with
          | nil => exact absurd rfl hne
          | cons x t =>
            rw [Bool.or_eq_false_iff] at ho
            have h0 := ho.2
            rw [get_of_list hbytes 0 (UInt8.ofNat (45 : Int).toNat) rfl, get_of_list hbytes 1 (UInt8.ofNat x.toNat) rfl] at h0
            simp only [List.head?_cons, ne_eq, Option.some.injEq]
            rintro rfl
            exact absurd h0 (by decide))
    rw [c] at k1 k2 k3
    rw [k1, ht]
    simp [k2, k3]
  · unfold rightW
    simp only
    rw [if_neg (by decide), if_neg (by decide), if_pos trivial]
    unfold sgnT
    rw [hi]
    simpa using hs
  · unfold rightW
    simp only
    rw [if_neg (by decide), if_neg (by decide), if_neg (by decide), ht, ByteArray.toList_eq]
    decide
/-- A word but for its place. -/
def core (x : Word) : Int × ByteArray × Int := (x.kind, x.text, x.n)

/-! ### shown -/
def showL : Bool → List Word → List Int
  | _, [] => []
  | fresh, x :: l => if x.kind = 4 then 10 :: showL true l else (if fresh = true then [] else [32]) ++ (items x.text 0 ++ showL false l)
theorem showL_cons (fresh : Bool) (x : Word) (l : List Word) : showL fresh (x :: l) = if x.kind = 4 then 10 :: showL true l else (if fresh = true then [] else [32]) ++ (items x.text 0 ++ showL false l) := rfl
theorem rb10 : runesBytes [10] = ⟨#[10]⟩ := by apply bytes_ext; rw [runesBytes_list, List.flatMap_cons, List.flatMap_nil, List.append_nil]; exact enc1 (c := 10) (by decide)
theorem rb32 : runesBytes [32] = ⟨#[32]⟩ := by apply bytes_ext; rw [runesBytes_list, List.flatMap_cons, List.flatMap_nil, List.append_nil]; exact enc1 (c := 32) (by decide)
theorem shown : ∀ (xs : List Word) (fresh : Bool) (out b : ByteArray), showF fresh xs out = some b → (∀ x ∈ xs, rightW x = true) ∧ b = out ++ runesBytes (showL fresh xs) ∧ b.size ≤ out.size + totL xs
  | [], fresh, out, b, h => by
    injection h with h
    subst h
    refine ⟨by simp, ?_, by simp [totL]⟩
    show out = out ++ ByteArray.empty
    rw [append_empty]
  | x :: l, fresh, out, b, h => by
    rw [showF_cons] at h
    by_cases hr : rightW x = false
    · rw [if_pos hr] at h; cases h
    rw [if_neg hr] at h
    have hr' : rightW x = true := by simpa using hr
    rw [showL_cons]
    by_cases h4 : x.kind = 4
    · rw [if_pos h4] at h
      obtain ⟨a, e, z⟩ := shown l true _ b h
      refine ⟨fun y hy => ?_, ?_, ?_⟩
      · rcases List.mem_cons.1 hy with rfl | hy
        · exact hr'
        · exact a y hy
      · rw [if_pos h4, e, ← rb10]
        apply bytes_ext; simp [runesBytes_list]
      · rw [ByteArray.size_append] at z
        have : (⟨#[10]⟩ : ByteArray).size = 1 := rfl
        simp only [totL]; omega
    · rw [if_neg h4] at h
      obtain ⟨a, e, z⟩ := shown l false _ b h
      obtain ⟨t, ht⟩ := right_tok hr'
      refine ⟨fun y hy => ?_, ?_, ?_⟩
      · rcases List.mem_cons.1 hy with rfl | hy
        · exact hr'
        · exact a y hy
      · rw [if_neg h4, e, ht.items]
        cases fresh
        · rw [if_neg (by decide), if_neg (by decide), ← rb32, ht.1]
          apply bytes_ext; simp [runesBytes_list]
        · rw [if_pos rfl, if_pos rfl, ht.1]
          apply bytes_ext; simp [runesBytes_list]
      · rw [ByteArray.size_append] at z
        simp only [totL]
        cases fresh
        · rw [if_neg (by decide), ByteArray.size_append] at z
          have : (⟨#[32]⟩ : ByteArray).size = 1 := rfl
          omega
        · rw [if_pos rfl] at z; omega
theorem not_shown : ∀ (xs : List Word) (fresh : Bool) (out : ByteArray), showF fresh xs out = none → ∃ x ∈ xs, rightW x = false
  | [], fresh, out, h => by cases h
  | x :: l, fresh, out, h => by
    rw [showF_cons] at h
    by_cases hr : rightW x = false
    · exact ⟨x, by simp, hr⟩
    rw [if_neg hr] at h
    split at h
    · obtain ⟨y, hy, e⟩ := not_shown l _ _ h; exact ⟨y, by simp [hy], e⟩
    · obtain ⟨y, hy, e⟩ := not_shown l _ _ h; exact ⟨y, by simp [hy], e⟩
theorem showL_head : ∀ (l : List Word) (c : Int) (l' : List Int), showL false l = c :: l' → isLD c = false
  | [], _, _, h => by cases h
  | x :: l, c, l', h => by
    rw [showL_cons] at h
    split at h
    · injection h with h _; subst h; decide
    · rw [if_neg (by decide)] at h; injection h with h _; subst h; decide
theorem lexes_shown : ∀ (xs : List Word), (∀ x ∈ xs, rightW x = true) → ∀ (fresh : Bool) (line col : Int), ∃ ws, Lexes line col false (showL fresh xs) ws ∧ ws.map core = xs.map core
  | [], _, fresh, line, col => ⟨[], .nil .., rfl⟩
  | x :: l, h, fresh, line, col => by
    obtain ⟨t, ht⟩ := right_tok (h x (by simp))
    have ih := lexes_shown l fun y hy => h y (by simp [hy])
    rw [showL_cons, ht.items]
    by_cases h4 : x.kind = 4
    · rw [if_pos h4]
      obtain ⟨ws, hw, hc⟩ := ih true (line + 1) 1
      refine ⟨_, .nl _ _ _ _ _ hw, ?_⟩
      rw [List.map_cons, List.map_cons, hc]
      obtain ⟨he, h⟩ := ht
      rcases h with h | h | h | h
      · omega
      · omega
      · omega
      · obtain ⟨_, hn, rfl⟩ := h
        unfold core
        rw [he, h4, hn]; rfl
    · rw [if_neg h4]
      have key : ∀ line col, ∃ ws, Lexes line col false (t ++ showL false l) ws ∧ ws.map core = (x :: l).map core := by
        intro line col
        obtain ⟨he, h⟩ := ht
        rcases h with ⟨h1, hn, a, b, c⟩ | ⟨h2, a, b, c⟩ | ⟨h3, hn, c, rfl, hs⟩ | h
        · obtain ⟨ws, hw, hc⟩ := ih false line (col + t.length)
          refine ⟨_, .name _ _ _ _ _ a b c (showL_head l) hw, ?_⟩
          rw [List.map_cons, List.map_cons, hc]; unfold core; rw [he, h1, hn]
        · obtain ⟨ws, hw, hc⟩ := ih false line (col + t.length)
          rw [he] at b c
          refine ⟨_, .num _ _ _ _ _ a b (showL_head l) hw, ?_⟩
          rw [List.map_cons, List.map_cons, hc]; unfold core; rw [he, h2, ← c]
        · obtain ⟨ws, hw, hc⟩ := ih false line (col + 1)
          refine ⟨_, .sign _ _ _ _ _ hs hw, ?_⟩
          rw [List.map_cons, List.map_cons, hc]; unfold core; rw [he, h3, hn, runesBytes_one]
        · exact absurd h.1 h4
      cases fresh
      · obtain ⟨ws, hw, hc⟩ := key line (col + 1)
        exact ⟨ws, by rw [if_neg (by decide)]; exact .skip _ _ _ _ _ _ (by decide) (by decide) (.inr (.inl (by decide))) hw, hc⟩
      · rw [if_pos rfl]; exact key line col

/-! ### read -/
theorem runes_size_cons (c : Int) (l : List Int) : (runesBytes (c :: l)).size = (Utf8.encode c).size + (runesBytes l).size := by rw [runesBytes_cons, ByteArray.size_append]
theorem enc_pos {c : Int} (h : VR c) : 0 < (Utf8.encode c).size := (decode_enc h ByteArray.empty).2.2
theorem Lexes.tok {line col : Int} {rem : Bool} {L : List Int} {ws : List Word} (h : Lexes line col rem L ws) : (∀ w ∈ ws, ∃ t, TokW w t) ∧ ((∀ x ∈ L, VR x) → totL ws ≤ 2 * (runesBytes L).size) := by
  induction h with
  | nil line col rem => exact ⟨by simp, fun _ => by simp [totL]⟩
  | nl line col rem t ws h ih =>
    refine ⟨fun w hw => ?_, fun hv => ?_⟩
    · rcases List.mem_cons.1 hw with rfl | hw
      · exact ⟨[], rfl, .inr (.inr (.inr ⟨rfl, rfl, rfl⟩))⟩
      · exact ih.1 w hw
    · have := ih.2 fun x hx => hv x (by simp [hx])
      have h2 := enc_pos (hv 10 (by simp))
      have h3 : ByteArray.empty.size = 0 := rfl
      rw [runes_size_cons]; simp only [totL]; omega
  | skip line col rem c t ws h0 h10 hs h ih =>
    refine ⟨ih.1, fun hv => ?_⟩
    have := ih.2 fun x hx => hv x (by simp [hx])
    rw [runes_size_cons]; omega
  | num line col t l ws ht hb hl h ih =>
    refine ⟨fun w hw => ?_, fun hv => ?_⟩
    · rcases List.mem_cons.1 hw with rfl | hw
      · exact ⟨t, rfl, .inr (.inl ⟨rfl, ht, hb, rfl⟩)⟩
      · exact ih.1 w hw
    · have := ih.2 fun x hx => hv x (by simp [hx])
      have h2 : 0 < (runesBytes t).size := by rw [asc_size t ht.asc]; exact ht.ne
      rw [runesBytes_append, ByteArray.size_append]; simp only [totL]; omega
  | name line col t l ws h1 h2 h16 hl h ih =>
    refine ⟨fun w hw => ?_, fun hv => ?_⟩
    · rcases List.mem_cons.1 hw with rfl | hw
      · exact ⟨t, rfl, .inl ⟨rfl, rfl, h1, h2, h16⟩⟩
      · exact ih.1 w hw
    · have := ih.2 fun x hx => hv x (by simp [hx])
      have h2 : 0 < (runesBytes t).size := by
        cases t with
        | nil => cases h1
        | cons c t => rw [runes_size_cons]; have := enc_pos (hv c (by simp)); omega
      rw [runesBytes_append, ByteArray.size_append]; simp only [totL]; omega
  | sign line col c t ws hs h ih =>
    refine ⟨fun w hw => ?_, fun hv => ?_⟩
    · rcases List.mem_cons.1 hw with rfl | hw
      · exact ⟨[c], by rw [runesBytes_one], .inr (.inr (.inl ⟨rfl, rfl, c, rfl, hs⟩))⟩
      · exact ih.1 w hw
    · have := ih.2 fun x hx => hv x (by simp [hx])
      have h2 := enc_pos (hv c (by simp))
      rw [runes_size_cons]; simp only [totL]; omega
theorem Lexes.pos {line col : Int} {rem : Bool} {L : List Int} {ws : List Word} (h : Lexes line col rem L ws) : ∀ x ∈ L, 0 ≤ x := by
  induction h with
  | nil line col rem => simp
  | nl line col rem t ws h ih => intro x hx; rcases List.mem_cons.1 hx with rfl | hx; decide; exact ih x hx
  | skip line col rem c t ws h0 h10 hs h ih => intro x hx; rcases List.mem_cons.1 hx with rfl | hx; exact h0; exact ih x hx
  | num line col t l ws ht hb hl h ih => intro x hx; rcases List.mem_append.1 hx with hx | hx; exact (ht.asc x hx).1; exact ih x hx
  | name line col t l ws h1 h2 h16 hl h ih => intro x hx; rcases List.mem_append.1 hx with hx | hx; (have := isLD_pos (h2 x hx); omega); exact ih x hx
  | sign line col c t ws hs h ih => intro x hx; rcases List.mem_cons.1 hx with rfl | hx; exact (sign_facts hs []).1; exact ih x hx

/-- What a text reads as. -/
def readR (s : ByteArray) : ReadR := resS (runS (items s 0) st0)
theorem readR_ref (s : ByteArray) : readR s = refL ((items s 0).length + 1) 1 1 false (items s 0) [] := lex_eq (items s 0)
theorem read_lexes {s : ByteArray} (h : (readR s).err = 0) : ∃ ws, Lexes 1 1 false (items s 0) ws ∧ readR s = ⟨ws, 0, 0, 0⟩ ∧ s = runesBytes (items s 0) ∧ (∀ x ∈ items s 0, VR x) ∧ totL ws ≤ 2 * s.size := by
  rw [readR_ref] at h
  obtain ⟨ws, hw⟩ := ref_lexes _ _ _ _ _ _ (Nat.lt_succ_self _) h
  obtain ⟨e, hv⟩ := runes_items hw.pos
  refine ⟨ws, hw, ?_, e, hv, ?_⟩
  · rw [readR_ref, hw.ref _ _ (Nat.lt_succ_self _)]; rfl
  · have := hw.tok.2 hv
    rw [← e] at this; exact this
theorem read_err (s : ByteArray) (h : (readR s).err ≠ 0) : (readR s).words = [] ∧ 1 ≤ (readR s).line ∧ 1 ≤ (readR s).col ∧ ((readR s).err = 6 ∨ (readR s).err = 3) := by
  rcases ref_errP ((items s 0).length + 1) 1 1 false (items s 0) [] (by decide) (by decide) with h' | h'
  · rw [← readR_ref] at h'; exact absurd h' h
  · rw [← readR_ref] at h'; exact h'
/-- WORDS THAT ARE SHOWN ARE READ. -/
theorem back_shown {xs : List Word} {a : ByteArray} (h : showF true xs ByteArray.empty = some a) : (readR a).err = 0 ∧ (readR a).words.map core = xs.map core ∧ a.size ≤ totL xs := by
  obtain ⟨hr, e, hz⟩ := shown xs true ByteArray.empty a h
  obtain ⟨ws, hw, hc⟩ := lexes_shown xs hr true 1 1
  have e' : a = runesBytes (showL true xs) := by rw [e]; apply bytes_ext; simp
  have hv : ∀ x ∈ showL true xs, VR x := by
    clear e e' h hz hw hc
    have : ∀ (xs : List Word) (fresh : Bool), (∀ x ∈ xs, rightW x = true) → ∀ x ∈ showL fresh xs, VR x := by
      intro xs
      induction xs with
      | nil => intro _ _ x hx; cases hx
      | cons y l ih =>
        intro fresh hr x hx
        obtain ⟨t, ht⟩ := right_tok (hr y (by simp))
        rw [showL_cons, ht.items] at hx
        have h10 : VR 10 := by unfold VR; omega
        have h32 : VR 32 := by unfold VR; omega
        split at hx
        · rcases List.mem_cons.1 hx with rfl | hx
          · exact h10
          · exact ih true (fun z hz => hr z (by simp [hz])) x hx
        · rcases List.mem_append.1 hx with hx | hx
          · split at hx
            · cases hx
            · simp at hx; subst hx; exact h32
          · rcases List.mem_append.1 hx with hx | hx
            · exact ht.VR x hx
            · exact ih false (fun z hz => hr z (by simp [hz])) x hx
    exact this xs true hr
  have hi : items a 0 = showL true xs := by rw [e']; exact items_of_runes _ hv
  have hR : readR a = ⟨ws, 0, 0, 0⟩ := by rw [readR_ref, hi, hw.ref _ _ (Nat.lt_succ_self _)]; rfl
  rw [hR]
  refine ⟨rfl, hc, ?_⟩
  have : ByteArray.empty.size = 0 := rfl
  omega
/-- WORDS THAT ARE READ ARE SHOWN, but for odd numbers. -/
theorem back_read {s : ByteArray} (h : (readR s).err = 0) (hn : showF true (readR s).words ByteArray.empty = none) : (readR s).words.any oddW = true := by
  obtain ⟨ws, hw, e, _⟩ := read_lexes h
  rw [e] at hn ⊢
  obtain ⟨x, hx, hr⟩ := not_shown ws _ _ hn
  obtain ⟨t, ht⟩ := hw.tok.1 x hx
  rw [List.any_eq_true]
  refine ⟨x, hx, ?_⟩
  cases ho : oddW x with
  | true => rfl
  | false => rw [tok_right ht ho] at hr; cases hr
end Go.Proofs.YtmlopggainkoiaaDoor
