/- What a text's runes lex to, as a relation: it is the document's reading; and the same with more lines, another end. -/
import Derived.Test.YtmlopggainkoiaaDoorLX5
set_option linter.unusedSimpArgs false
set_option linter.unusedVariables false
namespace Go.Proofs.YtmlopggainkoiaaDoor

inductive Lexes : Int → Int → Bool → List Int → List Word → Prop
  | nil (line col : Int) (rem : Bool) : Lexes line col rem [] []
  | nl (line col : Int) (rem : Bool) (t : List Int) (ws : List Word) : Lexes (line + 1) 1 false t ws → Lexes line col rem (10 :: t) (⟨4, ByteArray.empty, 0, line, col⟩ :: ws)
  | skip (line col : Int) (rem : Bool) (c : Int) (t : List Int) (ws : List Word) : 0 ≤ c → c ≠ 10 → (rem = true ∨ isB c = true ∨ c = 59) → Lexes line (col + 1) (rem || c == 59) t ws → Lexes line col rem (c :: t) ws
  | num (line col : Int) (t l : List Int) (ws : List Word) : NumT t → numBad (runesBytes t) = false → (∀ c l', l = c :: l' → isLD c = false) → Lexes line (col + t.length) false l ws → Lexes line col false (t ++ l) (⟨2, runesBytes t, numN (runesBytes t), line, col⟩ :: ws)
  | name (line col : Int) (t l : List Int) (ws : List Word) : headL t = true → (∀ x ∈ t, isLD x = true) → t.length ≤ 16 → (∀ c l', l = c :: l' → isLD c = false) → Lexes line (col + t.length) false l ws → Lexes line col false (t ++ l) (⟨1, runesBytes t, 0, line, col⟩ :: ws)
  | sign (line col c : Int) (t : List Int) (ws : List Word) : isS c = true → Lexes line (col + 1) false t ws → Lexes line col false (c :: t) (⟨3, Utf8.encode c, 0, line, col⟩ :: ws)

theorem headL_LD {l : List Int} (h : ∀ c l', l = c :: l' → isLD c = false) : headL l = false := by
  cases l with
  | nil => rfl
  | cons c l =>
    have := h c l rfl
    simp only [isLD, Bool.or_eq_false_iff] at this
    exact this.1
theorem notD_of_LD {l : List Int} (h : ∀ c l', l = c :: l' → isLD c = false) : ∀ c l', l = c :: l' → isD c = false := fun c l' e => by
  have := h c l' e
  simp only [isLD, Bool.or_eq_false_iff] at this
  exact this.2
theorem sign_facts {c : Int} (h : isS c = true) (t : List Int) : 0 ≤ c ∧ c ≠ 10 ∧ isB c = false ∧ c ≠ 59 ∧ isL c = false ∧ numLen (c :: t) = 0 := by
  have hs := isS_iff.1 h
  have hd : isD c = false := isD_off (by omega)
  refine ⟨by omega, by omega, by simp [isB]; omega, by omega, isL_off (by omega), ?_⟩
  rw [numLen_cons, if_neg (by omega), List.takeWhile_cons, hd]; rfl
theorem NumT.ne {t : List Int} (h : NumT t) : 0 < t.length := by
  obtain ⟨c, r, rfl, _⟩ := h.head; simp

theorem Lexes.ref {line col : Int} {rem : Bool} {L : List Int} {ws : List Word} (h : Lexes line col rem L ws) : ∀ (f : Nat) (acc : List Word), L.length < f → refL f line col rem L acc = ⟨acc ++ ws, 0, 0, 0⟩ := by
  induction h with
  | nil line col rem =>
    intro f acc hf
    cases f with
    | zero => simp at hf
    | succ f => rw [List.append_nil]; rfl
  | nl line col rem t ws h ih =>
    intro f acc hf
    cases f with
    | zero => simp at hf
    | succ f =>
      rw [refL_cons, if_neg (by decide), if_pos rfl, ih f _ (by simp at hf; omega)]; simp
  | skip line col rem c t ws h0 h10 hs h ih =>
    intro f acc hf
    cases f with
    | zero => simp at hf
    | succ f =>
      rw [refL_cons, if_neg (by omega), if_neg h10, if_pos hs, ih f _ (by simp at hf; omega)]
  | num line col t l ws ht hb hl h ih =>
    intro f acc hf
    cases f with
    | zero => simp at hf
    | succ f =>
      have := ht.ne
      rw [refL_num ht (notD_of_LD hl), hb, if_neg (by decide), headL_LD hl, if_neg (by decide), ih f _ (by rw [List.length_append] at hf; omega)]; simp
  | name line col t l ws h1 h2 h16 hl h ih =>
    intro f acc hf
    cases f with
    | zero => simp at hf
    | succ f =>
      have : 0 < t.length := by cases t <;> simp_all [headL]
      rw [refL_name h1 h2 hl, if_neg (by omega), ih f _ (by rw [List.length_append] at hf; omega)]; simp
  | sign line col c t ws hs h ih =>
    intro f acc hf
    cases f with
    | zero => simp at hf
    | succ f =>
      obtain ⟨a, b, d, e, g, k⟩ := sign_facts hs t
      rw [refL_cons, if_neg (by omega), if_neg b, if_neg (by simp [d, e]), k, if_neg (by omega), g, if_neg (by decide), hs, if_neg (by decide), ih f _ (by simp at hf; omega)]; simp

theorem takeWhile_split (p : Int → Bool) (l : List Int) : ∃ r, l = l.takeWhile p ++ r ∧ ∀ c l', r = c :: l' → p c = false :=
  ⟨l.dropWhile p, (List.takeWhile_append_dropWhile).symm, fun c l' e => by
    have := List.head?_dropWhile_not p l
    rw [e] at this; simpa using this⟩
theorem takeWhile_mem {p : Int → Bool} {l : List Int} : ∀ x ∈ l.takeWhile p, p x = true := fun _ hx => by
  induction l with
  | nil => simp at hx
  | cons a l ih =>
    rw [List.takeWhile_cons] at hx
    split at hx
    · rcases List.mem_cons.1 hx with rfl | h
      · assumption
      · exact ih h
    · simp at hx
theorem numLen_split {l : List Int} (h : 0 < numLen l) : ∃ t r, l = t ++ r ∧ NumT t ∧ ∀ c l', r = c :: l' → isD c = false := by
  cases l with
  | nil => simp [numLen] at h
  | cons c l =>
    rw [numLen_cons] at h
    by_cases hc : c = 45
    · rw [if_pos hc] at h
      by_cases hz : (l.takeWhile isD).length = 0
      · rw [if_pos hz] at h; omega
      · obtain ⟨r, hr, hh⟩ := takeWhile_split isD l
        refine ⟨45 :: l.takeWhile isD, r, by rw [List.cons_append, ← hr, hc], ⟨l.takeWhile isD, by intro e; rw [e] at hz; simp at hz, takeWhile_mem, .inr rfl⟩, hh⟩
    · rw [if_neg hc] at h
      obtain ⟨r, hr, hh⟩ := takeWhile_split isD (c :: l)
      exact ⟨_, r, hr, ⟨_, by intro e; rw [e] at h; simp at h, takeWhile_mem, .inl rfl⟩, hh⟩
theorem six {l c : Int} : ¬ (errR l c 6).err = 0 := by show ¬ (6 : Int) = 0; decide
theorem three {l c : Int} : ¬ (errR l c 3).err = 0 := by show ¬ (3 : Int) = 0; decide
theorem errR_err (line col e : Int) : (errR line col e).err = e := rfl
theorem ref_lexes : ∀ (f : Nat) (line col : Int) (rem : Bool) (L : List Int) (acc : List Word), L.length < f → (refL f line col rem L acc).err = 0 → ∃ ws, Lexes line col rem L ws
  | 0, _, _, _, _, _, h, _ => by omega
  | f + 1, line, col, rem, [], _, _, _ => ⟨[], .nil ..⟩
  | f + 1, line, col, rem, c :: t, acc, hf, h => by
    have hf' : t.length < f := by simp at hf; omega
    by_cases h0 : c < 0
    · rw [refL_cons, if_pos h0] at h; first | exact absurd h six | exact absurd h three
    by_cases h10 : c = 10
    · rw [refL_cons, if_neg h0, if_pos h10] at h
      obtain ⟨ws, hw⟩ := ref_lexes f _ _ _ t _ hf' h
      subst h10
      exact ⟨_, .nl _ _ _ _ _ hw⟩
    by_cases hs : rem = true ∨ isB c = true ∨ c = 59
    · rw [refL_cons, if_neg h0, if_neg h10, if_pos hs] at h
      obtain ⟨ws, hw⟩ := ref_lexes f _ _ _ t _ hf' h
      exact ⟨_, .skip _ _ _ _ _ _ (by omega) h10 hs hw⟩
    obtain rfl : rem = false := by
      cases rem
      · rfl
      · exact absurd (.inl rfl) hs
    by_cases hn : 0 < numLen (c :: t)
    · obtain ⟨u, r, e, hu, hr⟩ := numLen_split hn
      rw [e] at h hf ⊢
      have hlen := hu.ne
      rw [refL_num hu hr] at h
      split at h
      · first | exact absurd h six | exact absurd h three
      split at h
      · first | exact absurd h six | exact absurd h three
      rename_i hb hl
      obtain ⟨ws, hw⟩ := ref_lexes f _ _ _ r _ (by rw [List.length_append] at hf; omega) h
      refine ⟨_, .num _ _ _ _ _ hu (by simpa using hb) (fun c l' e => ?_) hw⟩
      have h1 := hr c l' e
      rw [e] at hl
      have h2 : isL c = false := by simpa [headL] using hl
      simp [isLD, h1, h2]
    by_cases hL : isL c = true
    · obtain ⟨r, e, hr⟩ := takeWhile_split isLD (c :: t)
      obtain ⟨u, hu⟩ : ∃ u, (c :: t).takeWhile isLD = u := ⟨_, rfl⟩
      have hm : ∀ x ∈ u, isLD x = true := by rw [← hu]; exact takeWhile_mem
      have hh : headL u = true := by rw [← hu, List.takeWhile_cons, show isLD c = true by simp [isLD, hL]]; exact hL
      rw [hu] at e
      rw [e] at h hf ⊢
      have hlen : 0 < u.length := by cases u <;> simp_all [headL]
      rw [refL_name hh hm hr] at h
      split at h
      · first | exact absurd h six | exact absurd h three
      obtain ⟨ws, hw⟩ := ref_lexes f _ _ _ r _ (by rw [List.length_append] at hf; omega) h
      exact ⟨_, .name _ _ _ _ _ hh hm (by omega) hr hw⟩
    · rw [refL_cons, if_neg h0, if_neg h10, if_neg hs, if_neg hn, if_neg hL] at h
      split at h
      · first | exact absurd h six | exact absurd h three
      rename_i hS
      obtain ⟨ws, hw⟩ := ref_lexes f _ _ _ t _ hf' h
      exact ⟨_, .sign _ _ _ _ _ (by simpa using hS) hw⟩

/-- What is told where there is an error: nothing, a place, one of two errors. -/
def ErrP (r : ReadR) : Prop := r.err = 0 ∨ (r.words = [] ∧ 1 ≤ r.line ∧ 1 ≤ r.col ∧ (r.err = 6 ∨ r.err = 3))
theorem errR_P {line col e : Int} (h1 : 1 ≤ line) (h2 : 1 ≤ col) (he : e = 6 ∨ e = 3) : ErrP (errR line col e) := .inr ⟨rfl, h1, h2, he⟩
theorem ref_errP : ∀ (f : Nat) (line col : Int) (rem : Bool) (L : List Int) (acc : List Word), 1 ≤ line → 1 ≤ col → ErrP (refL f line col rem L acc)
  | 0, _, _, _, _, _, _, _ => .inl rfl
  | f + 1, line, col, rem, [], _, _, _ => .inl rfl
  | f + 1, line, col, rem, c :: t, acc, h1, h2 => by
    rw [refL_cons]
    repeat' split
    all_goals first
      | exact errR_P (by omega) (by omega) (by decide)
      | exact ref_errP f _ _ _ _ _ (by omega) (by omega)

/-- A line further down. -/
def downW (x : Word) : Word := { x with line := x.line + 1 }
def downR (A : List Word) (r : ReadR) : ReadR := if r.err = 0 then ⟨A ++ r.words.map downW, 0, 0, 0⟩ else ⟨[], r.line + 1, r.col, r.err⟩
theorem ref_down (A : List Word) : ∀ (f : Nat) (line col : Int) (rem : Bool) (L : List Int) (acc : List Word), refL f (line + 1) col rem L (A ++ acc.map downW) = downR A (refL f line col rem L acc)
  | 0, _, _, _, _, _ => rfl
  | f + 1, line, col, rem, [], _ => rfl
  | f + 1, line, col, rem, c :: t, acc => by
    have key : ∀ x : Word, A ++ acc.map downW ++ [downW x] = A ++ (acc ++ [x]).map downW := fun x => by simp
    rw [refL_cons, refL_cons]
    repeat' split
    all_goals first
      | rfl
      | (rw [← ref_down A f]; done)
      | (rw [← ref_down A f, ← key]; rfl)

/-- A remark behind changes nothing. -/
theorem Lexes.more {line col : Int} {rem : Bool} {L : List Int} {ws : List Word} (h : Lexes line col rem L ws) (r : List Int) (hr : ∀ x ∈ r, 0 ≤ x ∧ x ≠ 10) : Lexes line col rem (L ++ 59 :: r) ws := by
  have tail : ∀ (r : List Int) (line col : Int), (∀ x ∈ r, 0 ≤ x ∧ x ≠ 10) → Lexes line col true r [] := by
    intro r
    induction r with
    | nil => intro _ _ _; exact .nil ..
    | cons c r ih => intro line col hr; exact .skip _ _ _ _ _ _ (hr c (by simp)).1 (hr c (by simp)).2 (.inl rfl) (by rw [Bool.true_or]; exact ih _ _ fun x hx => hr x (by simp [hx]))
  have hl : ∀ l : List Int, (∀ c l', l = c :: l' → isLD c = false) → ∀ c l', l ++ 59 :: r = c :: l' → isLD c = false := by
    intro l h c l' e
    cases l with
    | nil => injection e with e1 _; subst e1; decide
    | cons a l => injection e with e1 _; exact e1 ▸ h a l rfl
  induction h with
  | nil line col rem => exact .skip _ _ _ _ _ _ (by decide) (by decide) (.inr (.inr rfl)) (by rw [show ((59 : Int) == 59) = true by decide, Bool.or_true]; exact tail r _ _ hr)
  | nl line col rem t ws h ih => exact .nl _ _ _ _ _ ih
  | skip line col rem c t ws h0 h10 hs h ih => exact .skip _ _ _ _ _ _ h0 h10 hs ih
  | num line col t l ws ht hb hh h ih => rw [List.append_assoc]; exact .num _ _ _ _ _ ht hb (hl l hh) ih
  | name line col t l ws h1 h2 h16 hh h ih => rw [List.append_assoc]; exact .name _ _ _ _ _ h1 h2 h16 (hl l hh) ih
  | sign line col c t ws hs h ih => exact .sign _ _ _ _ _ hs ih
end Go.Proofs.YtmlopggainkoiaaDoor
