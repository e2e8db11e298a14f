/- LineAll: the plain law: words that are got one by one. LineBlank: the plain law: a text with more ends between its lines lexes alike. LineBlank: the plain law, on bytes. -/
import Derived.Test.YtppkanniefignaaGreatDoorL2i
set_option linter.unusedSimpArgs false
set_option linter.unusedVariables false
namespace Go.Proofs.YtppkanniefignaaGreatDoor

theorem dropEnd_cons {x : Word} (y : Word) (l : List Word) : dropEnd (x :: y :: l) = x :: dropEnd (y :: l) := by
  unfold dropEnd
  rw [List.getLast?_cons_cons]
  cases h : (y :: l).getLast? with
  | none => simp at h
  | some z =>
    simp only
    split
    · rw [List.dropLast_cons_of_ne_nil (by simp)]
    · rfl
theorem dropEnd_one {x : Word} (h : endW x = true) : dropEnd [x] = [] := by unfold dropEnd; simp [h]
theorem dropEnd_non {x : Word} (h : endW x = false) (l : List Word) : dropEnd (x :: l) = x :: dropEnd l := by
  cases l with
  | nil => unfold dropEnd; simp [h]
  | cons y l => exact dropEnd_cons y l
/-- What is left of a cursor ahead of the k-th word. -/
inductive LeftAt (ws : List Word) (k : Nat) : Bool → List Word → Prop
  | shut : LeftAt ws k false (dropEnd (compK true (ws.drop k)))
  | word (y : Word) : 0 < k → ws[k - 1]? = some y → endW y = false → LeftAt ws k true (dropEnd (compK false (ws.drop k)))
  | stop (e y : Word) : endW e = true → 0 < k → ws[k - 1]? = some y → endW y = true → LeftAt ws k true (dropEnd (e :: compK true (ws.drop k)))
section
variable {ws : List Word} {k : Nat} {b : Bool} {l : List Word} {x : Word}
theorem LeftAt.end_ (h : LeftAt ws k b l) (hk : ws.drop k = []) : l = [] := by
  cases h with
  | shut => rw [hk]; rfl
  | word y _ _ _ => rw [hk]; rfl
  | stop e y he _ _ _ => rw [hk]; exact dropEnd_one he
theorem LeftAt.skip (h : LeftAt ws k b l) (hx : ws[k]? = some x) (he : endW x = true) : LeftAt ws (k + 1) b l := by
  have hd := drop_at hx
  cases h with
  | shut => rw [hd, compK_cons, if_pos ⟨rfl, he⟩]; exact .shut
  | word y _ _ _ => rw [hd, compK_cons, if_neg (by simp), he]; exact .stop x x he (by omega) (by simpa using hx) he
  | stop e y h1 _ _ _ => rw [hd, compK_cons, if_pos ⟨rfl, he⟩]; exact .stop e x h1 (by omega) (by simpa using hx) he
/-- A word that is no end is next. -/
theorem LeftAt.shut_next (h : LeftAt ws k false l) (hx : ws[k]? = some x) (he : endW x = false) : ∃ r, l = x :: r ∧ LeftAt ws (k + 1) true r := by
  have hd := drop_at hx
  cases h with
  | shut =>
    rw [hd, compK_cons, if_neg (by simp [he]), he, dropEnd_non he]
    exact ⟨_, rfl, .word x (by omega) (by simpa using hx) he⟩
theorem LeftAt.open_next (h : LeftAt ws k true l) (hx : ws[k]? = some x) (he : endW x = false) : 0 < k ∧ ∃ y, ws[k - 1]? = some y ∧ ∃ r, LeftAt ws (k + 1) true r ∧ ((endW y = false ∧ l = x :: r) ∨ (endW y = true ∧ ∃ e, endW e = true ∧ l = e :: x :: r)) := by
  have hd := drop_at hx
  cases h with
  | word y h0 hy hey =>
    refine ⟨h0, y, hy, _, .word x (by omega) (by simpa using hx) he, .inl ⟨hey, ?_⟩⟩
    rw [hd, compK_cons, if_neg (by simp), he, dropEnd_non he]
  | stop e y h1 h0 hy hey =>
    refine ⟨h0, y, hy, _, .word x (by omega) (by simpa using hx) he, .inr ⟨hey, e, h1, ?_⟩⟩
    rw [hd, compK_cons, if_neg (by simp [he]), he, dropEnd_cons, dropEnd_non he]
end
theorem numBad_bounds {s : ByteArray} (h : numBad s = false) : -1099511627776 ≤ numN s ∧ numN s ≤ 1099511627776 := by
  unfold numBad at h
  unfold numN
  split at h
  · rename_i v hv
    rw [hv]
    simp only [Bool.or_eq_false_iff, decide_eq_false_iff_not] at h
    simp only
    omega
  · cases h
theorem read_bounds (s : ByteArray) : ∀ x ∈ (readR s).words, x.kind = 2 → -1099511627776 ≤ x.n ∧ x.n ≤ 1099511627776 := by
  intro x hx h2
  by_cases he : (readR s).err = 0
  · obtain ⟨ws, hlx, hR, _⟩ := read_lexes he
    rw [hR] at hx
    obtain ⟨t, _, h⟩ := hlx.tok.1 x hx
    rcases h with h | h | h | h
    · omega
    · rw [← h.2.2.2]; exact numBad_bounds h.2.2.1
    · omega
    · omega
  · rw [(read_err s he).1] at hx; cases hx
end Go.Proofs.YtppkanniefignaaGreatDoor
set_option linter.unusedSimpArgs false
set_option linter.unusedVariables false
namespace Go.Proofs.YtppkanniefignaaGreatDoor

def wid1 (c : Int) : List Int := if c = 10 then [10, 9, 59, 32, 8594, 10, 10, 32] else [c]
def widL (l : List Int) : List Int := l.flatMap wid1
theorem widL_nil : widL [] = [] := rfl
theorem widL_cons (c : Int) (l : List Int) (h : c ≠ 10) : widL (c :: l) = c :: widL l := by unfold widL; rw [List.flatMap_cons]; unfold wid1; rw [if_neg h]; rfl
theorem widL_ten (l : List Int) : widL (10 :: l) = 10 :: 9 :: 59 :: 32 :: 8594 :: 10 :: 10 :: 32 :: widL l := by unfold widL; rw [List.flatMap_cons]; rfl
theorem widL_keep : ∀ (t l : List Int), (∀ x ∈ t, x ≠ 10) → widL (t ++ l) = t ++ widL l
  | [], l, _ => rfl
  | c :: t, l, h => by rw [List.cons_append, widL_cons _ _ (h c (by simp)), widL_keep t l fun x hx => h x (by simp [hx])]; rfl
theorem widL_head {l : List Int} {c : Int} {r : List Int} (h : widL l = c :: r) : ∃ t, l = c :: t := by
  cases l with
  | nil => rw [widL_nil] at h; cases h
  | cons a l =>
    by_cases ha : a = 10
    · subst ha; rw [widL_ten] at h; injection h with h1 _; exact ⟨l, by rw [h1]⟩
    · rw [widL_cons _ _ ha] at h; injection h with h1 _; exact ⟨l, by rw [h1]⟩
theorem widL_while (p : Int → Bool) (hp : p 10 = false) : ∀ (l : List Int), (widL l).takeWhile p = l.takeWhile p
  | [] => rfl
  | c :: l => by
    by_cases hc : c = 10
    · subst hc; rw [widL_ten, List.takeWhile_cons_of_neg (by simp [hp]), List.takeWhile_cons_of_neg (by simp [hp])]
    · rw [widL_cons _ _ hc, List.takeWhile_cons, List.takeWhile_cons, widL_while p hp l]
theorem widL_headL (l : List Int) : headL (widL l) = headL l := by
  cases l with
  | nil => rfl
  | cons a l =>
    by_cases ha : a = 10
    · subst ha; rw [widL_ten]; rfl
    · rw [widL_cons _ _ ha]; rfl
theorem numLen_wid (c : Int) (t : List Int) (hc : c ≠ 10) : numLen (c :: widL t) = numLen (c :: t) := by
  have h := widL_while isD (by decide) (c :: t)
  rw [widL_cons _ _ hc] at h
  rw [numLen_cons, numLen_cons, h, widL_while isD (by decide) t]

theorem NumT.ten {t : List Int} (h : NumT t) {x : Int} (hx : x ∈ t) : x ≠ 10 := by
  obtain ⟨d, _, hd, h⟩ := h
  rintro rfl
  rcases h with rfl | rfl
  · exact absurd (hd _ hx) (by decide)
  · rcases List.mem_cons.1 hx with h | h
    · exact absurd h (by decide)
    · exact absurd (hd _ h) (by decide)

def RelW (a b : List Word) : Prop := (compK true a).map core = (compK true b).map core ∧ lastE true a = lastE true b
theorem core_end {x y : Word} (h : core x = core y) : endW x = endW y := by
  have : hasW x = hasW y := by
    unfold core at h
    injection h with h1 h
    injection h with h2 h3
    unfold hasW; rw [h1, h2, h3]
  unfold endW; rw [this]
theorem RelW.snoc {a b : List Word} {x y : Word} (h : RelW a b) (hx : core x = core y) : RelW (a ++ [x]) (b ++ [y]) := by
  refine ⟨?_, by rw [lastE_snoc, lastE_snoc, core_end hx]⟩
  rw [compK_snoc, compK_snoc, List.map_append, List.map_append, h.1, h.2, core_end hx]
  congr 1
  split
  · rfl
  · simp [hx]
theorem RelW.more {a b : List Word} {y : Word} (h : RelW a b) (he : lastE true b = true) (hy : endW y = true) : RelW a (b ++ [y]) := by
  refine ⟨?_, by rw [lastE_snoc, h.2, he, hy]⟩
  rw [compK_snoc, if_pos ⟨he, hy⟩, List.append_nil]; exact h.1
def SimR (r r' : ReadR) : Prop := r.err = r'.err ∧ (r.err = 0 → RelW r.words r'.words)
theorem sim_err (a b c d e : Int) (he : e ≠ 0) : SimR (errR a b e) (errR c d e) := ⟨rfl, fun h => absurd h he⟩

theorem wide_sim : ∀ (f : Nat) (line col line' col' : Int) (rem : Bool) (L : List Int) (acc acc' : List Word) (f' : Nat), L.length < f → (widL L).length < f' → RelW acc acc' → SimR (refL f line col rem L acc) (refL f' line' col' rem (widL L) acc')
  | 0, _, _, _, _, _, _, _, _, _, h, _, _ => by omega
  | f + 1, line, col, line', col', rem, [], acc, acc', f', _, h', hr => by
    cases f' with
    | zero => simp at h'
    | succ f' => exact ⟨rfl, fun _ => hr⟩
  | f + 1, line, col, line', col', rem, c :: t, acc, acc', f', hf, hf', hr => by
    have hft : t.length < f := by simp at hf; omega
    by_cases h10 : c = 10
    · subst h10
      rw [widL_ten] at hf' ⊢
      obtain ⟨g, rfl⟩ : ∃ g, f' = g + 8 := ⟨f' - 8, by simp at hf'; omega⟩
      rw [refL_cons, if_neg (by decide), if_pos rfl]
      rw [refL_cons, if_neg (by decide), if_pos rfl]
      rw [refL_cons, if_neg (by decide), if_neg (by decide), if_pos (.inr (.inl (by decide)))]
      rw [refL_cons, if_neg (by decide), if_neg (by decide), if_pos (.inr (.inr rfl))]
      rw [refL_cons, if_neg (by decide), if_neg (by decide), if_pos (.inl (by decide))]
      rw [refL_cons, if_neg (by decide), if_neg (by decide), if_pos (.inl (by decide))]
      rw [refL_cons, if_neg (by decide), if_pos rfl]
      rw [refL_cons, if_neg (by decide), if_pos rfl]
      rw [refL_cons, if_neg (by decide), if_neg (by decide), if_pos (.inr (.inl (by decide)))]
      refine wide_sim f _ _ _ _ false t _ _ _ hft (by simp at hf'; omega) ?_
      refine RelW.more (RelW.more (hr.snoc rfl) ?_ rfl) ?_ rfl
      · rw [lastE_snoc]; rfl
      · rw [lastE_snoc]; rfl
    obtain ⟨g, rfl⟩ : ∃ g, f' = g + 1 := ⟨f' - 1, by omega⟩
    by_cases h0 : c < 0
    · rw [widL_cons _ _ h10, refL_cons, if_pos h0, refL_cons, if_pos h0]
      exact sim_err _ _ _ _ _ (by decide)
    by_cases hs : rem = true ∨ isB c = true ∨ c = 59
    · rw [widL_cons _ _ h10] at hf' ⊢
      rw [refL_cons, if_neg h0, if_neg h10, if_pos hs, refL_cons, if_neg h0, if_neg h10, if_pos hs]
      exact wide_sim f _ _ _ _ _ t _ _ _ hft (by simp at hf'; omega) hr
    obtain rfl : rem = false := by
      cases rem
      · rfl
      · exact absurd (.inl rfl) hs
    by_cases hn : 0 < numLen (c :: t)
    · obtain ⟨u, r, e, hu, hrr⟩ := numLen_split hn
      rw [e] at hf hf' ⊢
      have hlen := hu.ne
      have hu10 : ∀ x ∈ u, x ≠ 10 := fun x hx => hu.ten hx
      rw [widL_keep u r hu10] at hf' ⊢
      rw [refL_num hu hrr, refL_num hu (fun c l' e => by obtain ⟨t, ht⟩ := widL_head e; exact hrr c t ht), widL_headL]
      split
      · exact sim_err _ _ _ _ _ (by decide)
      split
      · exact sim_err _ _ _ _ _ (by decide)
      exact wide_sim f _ _ _ _ _ r _ _ _ (by rw [List.length_append] at hf; omega) (by rw [List.length_append] at hf'; omega) (hr.snoc rfl)
    by_cases hL : isL c = true
    · obtain ⟨r, e, hrr⟩ := takeWhile_split isLD (c :: t)
      obtain ⟨u, hu⟩ : ∃ u, (c :: t).takeWhile isLD = u := ⟨_, rfl⟩
      have hm : ∀ x ∈ u, isLD x = true := by rw [← hu]; exact takeWhile_mem1
      have hh : headL u = true := by rw [← hu, List.takeWhile_cons, show isLD c = true by simp [isLD, hL]]; exact hL
      rw [hu] at e
      rw [e] at hf hf' ⊢
      have hlen : 0 < u.length := by cases u <;> simp_all [headL]
      rw [widL_keep u r (fun x hx => by rintro rfl; exact absurd (hm _ hx) (by decide))] at hf' ⊢
      rw [refL_name hh hm hrr, refL_name hh hm (fun c l' e => by obtain ⟨t, ht⟩ := widL_head e; exact hrr c t ht)]
      split
      · exact sim_err _ _ _ _ _ (by decide)
      exact wide_sim f _ _ _ _ _ r _ _ _ (by rw [List.length_append] at hf; omega) (by rw [List.length_append] at hf'; omega) (hr.snoc rfl)
    · rw [widL_cons _ _ h10] at hf' ⊢
      rw [refL_cons, if_neg h0, if_neg h10, if_neg hs, if_neg hn, if_neg hL, refL_cons g, if_neg h0, if_neg h10, if_neg hs, if_neg (show ¬ 0 < numLen (c :: widL t) by rw [numLen_wid _ _ h10]; exact hn), if_neg hL]
      split
      · exact sim_err _ _ _ _ _ (by decide)
      exact wide_sim f _ _ _ _ _ t _ _ _ hft (by simp at hf'; omega) (hr.snoc rfl)
end Go.Proofs.YtppkanniefignaaGreatDoor
set_option linter.unusedSimpArgs false
set_option linter.unusedVariables false
namespace Go.Proofs.YtppkanniefignaaGreatDoor

def mkB (l : List UInt8) : ByteArray := ⟨l.toArray⟩
theorem mkB_list (l : List UInt8) : (mkB l).data.toList = l := by unfold mkB; simp
theorem mkB_self (s : ByteArray) : mkB s.data.toList = s := bytes_ext (mkB_list _)
theorem mkB_size (l : List UInt8) : (mkB l).size = l.length := by rw [size_list, mkB_list]
theorem mkB_append (a b : List UInt8) : mkB (a ++ b) = mkB a ++ mkB b := by apply bytes_ext; rw [mkB_list, ByteArray.data_append, Array.toList_append, mkB_list, mkB_list]
def widb1 (b : UInt8) : List UInt8 := if b = 10 then [10, 9, 59, 32, 226, 134, 146, 10, 10, 32] else [b]
def widB (l : List UInt8) : List UInt8 := l.flatMap widb1
theorem widB_append (a b : List UInt8) : widB (a ++ b) = widB a ++ widB b := by unfold widB; rw [List.flatMap_append]
theorem widB_cons (b : UInt8) (l : List UInt8) : widB (b :: l) = widb1 b ++ widB l := by unfold widB; rw [List.flatMap_cons]
theorem widb1_head (b : UInt8) : ∃ r, widb1 b = b :: r := by
  unfold widb1
  split
  · rename_i h; subst h; exact ⟨_, rfl⟩
  · exact ⟨_, rfl⟩
theorem widB_keep : ∀ (t : List UInt8), (∀ x ∈ t, x ≠ 10) → widB t = t
  | [], _ => rfl
  | b :: t, h => by rw [widB_cons, widB_keep t fun x hx => h x (by simp [hx])]; unfold widb1; rw [if_neg (h b (by simp))]; rfl
theorem widB_back : ∀ (t l r : List UInt8), (∀ x ∈ t, x ≠ 10) → widB l = t ++ r → ∃ r', l = t ++ r'
  | [], l, _, _, _ => ⟨l, rfl⟩
  | b :: t, [], r, _, h => by cases h
  | b :: t, a :: l, r, ht, h => by
    rw [widB_cons] at h
    have hb := ht b (by simp)
    obtain ⟨q, hq⟩ := widb1_head a
    have hab : a = b := by rw [hq] at h; injection h
    subst hab
    unfold widb1 at h
    rw [if_neg hb] at h
    obtain ⟨r', hr'⟩ := widB_back t l r (fun x hx => ht x (by simp [hx])) (by injection h)
    exact ⟨r', by rw [hr']; rfl⟩
theorem enc_ten {c : Int} (h : VR c) (hc : c ≠ 10) : ∀ x ∈ (Utf8.encode c).data.toList, x ≠ 10 := by
  obtain ⟨n, rfl⟩ : ∃ n : Nat, c = n := ⟨c.toNat, by unfold VR at h; omega⟩
  unfold VR at h
  intro x hx e
  have h10 : x.toNat = 10 := by rw [e]; rfl
  by_cases h1 : n < 128
  · rw [enc1 h1] at hx
    simp only [List.mem_cons, List.not_mem_nil, or_false] at hx
    rw [hx, ofNat_toNat (by omega)] at h10; omega
  by_cases h2 : n < 2048
  · rw [enc2 (by omega) h2] at hx
    simp only [List.mem_cons, List.not_mem_nil, or_false] at hx
    rcases hx with hx | hx <;> rw [hx, ofNat_toNat (by omega)] at h10 <;> omega
  by_cases h3 : n < 65536
  · rw [enc3 (by omega) h3 (by omega)] at hx
    simp only [List.mem_cons, List.not_mem_nil, or_false] at hx
    rcases hx with hx | hx | hx <;> rw [hx, ofNat_toNat (by omega)] at h10 <;> omega
  · rw [enc4 (c := n) (by omega) (by omega)] at hx
    simp only [List.mem_cons, List.not_mem_nil, or_false] at hx
    rcases hx with hx | hx | hx | hx <;> rw [hx, ofNat_toNat (by omega)] at h10 <;> omega
theorem enc10 : (Utf8.encode 10).data.toList = [10] := enc1 (c := 10) (by decide)
theorem mkB_enc (c : Int) : mkB (Utf8.encode c).data.toList = Utf8.encode c := mkB_self _
theorem ten_bytes : mkB [10, 9, 59, 32, 226, 134, 146, 10, 10, 32] = runesBytes [10, 9, 59, 32, 8594, 10, 10, 32] := by
  apply bytes_ext; rw [mkB_list, runesBytes_list]; decide +kernel
theorem head_wide : mkB [10, 32, 59, 10] = runesBytes [10, 32, 59, 10] := by
  apply bytes_ext; rw [mkB_list, runesBytes_list]; decide +kernel

theorem good_drop (s : ByteArray) (i : Nat) (h : i ≤ s.size) : goodAt (mkB (s.data.toList.drop i)) 0 = goodAt s i ∧ Utf8.decode (mkB (s.data.toList.drop i)) 0 = Utf8.decode s i := by
  have e : s = mkB (s.data.toList.take i) ++ mkB (s.data.toList.drop i) := by rw [← mkB_append, List.take_append_drop, mkB_self]
  have hz : (mkB (s.data.toList.take i)).size = i := by rw [mkB_size, List.length_take, ← size_list]; omega
  have h1 := good_right (mkB (s.data.toList.take i)) (mkB (s.data.toList.drop i)) 0
  have h2 := decode_right (mkB (s.data.toList.take i)) (mkB (s.data.toList.drop i)) 0
  rw [← e, hz, Nat.add_zero] at h1 h2
  exact ⟨h1.symm, h2.symm⟩

theorem items_wide (s : ByteArray) : ∀ (n i : Nat), s.size - i ≤ n → i ≤ s.size → items (mkB (widB (s.data.toList.drop i))) 0 = widL (items s i) := by
  intro n
  induction n with
  | zero =>
    intro i hn hi
    have hl : s.data.toList.drop i = [] := List.drop_eq_nil_of_le (by rw [← size_list]; omega)
    rw [hl, items_end (s := s) (pos := i) (by omega)]
    exact items_end (s := mkB (widB [])) (by decide)
  | succ n ih =>
    intro i hn hi
    by_cases hlt : i < s.size
    · cases hg : goodAt s i with
      | true =>
        have hw := Lib.decode_width_pos s i hlt
        have hV := decode_VR s i hg
        have henc := encode_decode hlt hg
        obtain ⟨c, hc⟩ : ∃ c : Int, ((Utf8.decode s i).1 : Int) = c := ⟨_, rfl⟩
        have hsp : s.data.toList.drop i = (Utf8.encode c).data.toList ++ s.data.toList.drop (i + (Utf8.decode s i).2) := by
          rw [← hc, henc, ← List.drop_drop, List.take_append_drop]
        have hle : i + (Utf8.decode s i).2 ≤ s.size := by
          have := encode_width hlt hg
          have hz := congrArg List.length henc
          rw [← size_list, this, List.length_take, List.length_drop, ← size_list] at hz
          omega
        rw [items_good hlt hg, hc, hsp, widB_append, mkB_append]
        rw [hc] at hV
        have hrec := ih (i + (Utf8.decode s i).2) (by omega) hle
        by_cases h10 : c = 10
        · subst h10
          rw [widL_ten, show widB (Utf8.encode 10).data.toList = [10, 9, 59, 32, 226, 134, 146, 10, 10, 32] by rw [enc10]; decide, ten_bytes, items_runes _ _ (by intro x hx; simp only [List.mem_cons, List.not_mem_nil, or_false] at hx; unfold VR; omega), hrec]; rfl
        · rw [widL_cons _ _ h10, widB_keep _ (enc_ten hV h10), mkB_enc, items_enc hV, hrec]
      | false =>
        rw [items_bad hlt hg, widL_cons _ _ (by decide), widL_nil]
        have hl0 : 0 < (s.data.toList.drop i).length := by rw [List.length_drop, ← size_list]; omega
        have hz : 0 < (mkB (widB (s.data.toList.drop i))).size := by
          rw [mkB_size]
          cases hd : s.data.toList.drop i with
          | nil => rw [hd] at hl0; simp at hl0
          | cons b l => obtain ⟨r, hr⟩ := widb1_head b; rw [widB_cons, hr]; simp
        refine items_bad hz ?_
        cases hg2 : goodAt (mkB (widB (s.data.toList.drop i))) 0 with
        | false => rfl
        | true =>
          exfalso
          have hV := decode_VR _ _ hg2
          have henc := encode_decode hz hg2
          rw [List.drop_zero, mkB_list] at henc
          obtain ⟨c, hc⟩ : ∃ c : Int, ((Utf8.decode (mkB (widB (s.data.toList.drop i))) 0).1 : Int) = c := ⟨_, rfl⟩
          rw [hc] at hV henc
          have hsp : widB (s.data.toList.drop i) = (Utf8.encode c).data.toList ++ (widB (s.data.toList.drop i)).drop (Utf8.decode (mkB (widB (s.data.toList.drop i))) 0).2 := by
            rw [henc, List.take_append_drop]
          have hx : ∃ r', s.data.toList.drop i = (Utf8.encode c).data.toList ++ r' := by
            by_cases h10 : c = 10
            · subst h10
              rw [enc10] at hsp ⊢
              cases hd : s.data.toList.drop i with
              | nil => rw [hd] at hl0; simp at hl0
              | cons b l =>
                rw [hd, widB_cons] at hsp
                obtain ⟨r, hr⟩ := widb1_head b
                rw [hr] at hsp
                exact ⟨l, by injection hsp with h1 _; rw [h1]; rfl⟩
            · exact widB_back _ _ _ (enc_ten hV h10) hsp
          obtain ⟨r', hr'⟩ := hx
          have h1 := (good_drop s i hi).1
          rw [hr', mkB_append, mkB_enc, (decode_enc hV _).2.1, hg] at h1
          cases h1
    · have hl : s.data.toList.drop i = [] := List.drop_eq_nil_of_le (by rw [← size_list]; omega)
      rw [hl, items_end (s := s) (pos := i) (by omega)]
      exact items_end (s := mkB (widB [])) (by decide)

/-- The text with more ends between its lines. -/
def wideT (s : ByteArray) : ByteArray := mkB ([10, 32, 59, 10] ++ widB s.data.toList)
theorem items_wideT (s : ByteArray) : items (wideT s) 0 = 10 :: 32 :: 59 :: 10 :: widL (items s 0) := by
  unfold wideT
  rw [mkB_append, head_wide, items_runes _ _ (by intro x hx; simp only [List.mem_cons, List.not_mem_nil, or_false] at hx; unfold VR; omega)]
  have := items_wide s s.size 0 (by omega) (by omega)
  rw [List.drop_zero] at this
  rw [this]; rfl
theorem ref_wide (L : List Int) (acc : List Word) (f : Nat) (hf : L.length < f) (g : Nat) (hg : (widL L).length < g) : SimR (refL f 1 1 false L []) (refL (g + 4) 1 1 false (10 :: 32 :: 59 :: 10 :: widL L) []) := by
  rw [refL_cons (g + 3), if_neg (by decide), if_pos rfl]
  rw [refL_cons (g + 2), if_neg (by decide), if_neg (by decide), if_pos (.inr (.inl (by decide)))]
  rw [refL_cons (g + 1), if_neg (by decide), if_neg (by decide), if_pos (.inr (.inr rfl))]
  rw [refL_cons g, if_neg (by decide), if_pos rfl]
  exact wide_sim f _ _ _ _ false L _ _ g hf hg ⟨by rfl, by rfl⟩
theorem read_wide (s : ByteArray) : SimR (readR s) (readR (wideT s)) := by
  have h := ref_wide (items s 0) [] ((items s 0).length + 1) (by omega) ((widL (items s 0)).length + 1) (by omega)
  have e : (items (wideT s) 0).length + 1 = (widL (items s 0)).length + 1 + 4 := by rw [items_wideT]; simp only [List.length_cons]
  rw [readR_ref, readR_ref, e, items_wideT]
  exact h

/-- Two cursors that differ in places alone. -/
def CurSim (a b : Cur) : Prop := a.ws.map core = b.ws.map core ∧ a.e = b.e
theorem drop_core {a b : List Word} (h : a.map core = b.map core) : (dropEnd a).map core = (dropEnd b).map core := by
  have hl : a.getLast?.map core = b.getLast?.map core := by rw [← List.getLast?_map, ← List.getLast?_map, h]
  unfold dropEnd
  cases ha : a.getLast? with
  | none =>
    rw [ha] at hl
    cases hb : b.getLast? with
    | none => exact h
    | some y => rw [hb] at hl; cases hl
  | some x =>
    rw [ha] at hl
    cases hb : b.getLast? with
    | none => rw [hb] at hl; cases hl
    | some y =>
      rw [hb] at hl
      simp only [Option.map_some, Option.some.injEq] at hl
      simp only [core_end hl]
      split
      · rw [List.map_dropLast, List.map_dropLast, h]
      · exact h
theorem sim_mk {a b : List Word} (h : a.map core = b.map core) : CurSim ⟨a, 0, 0, 0⟩ ⟨b, 0, 0, 0⟩ := ⟨h, rfl⟩
theorem sim_bad {e x y x' y' : Int} : CurSim ⟨[], e, x, y⟩ ⟨[], e, x', y'⟩ := ⟨rfl, rfl⟩
theorem over_sim (r r' : ReadR) (h : SimR r r') : CurSim (if r.err ≠ 0 then ⟨[], r.err, r.line, r.col⟩ else ⟨dropEnd (compK true r.words), 0, 0, 0⟩) (if r'.err ≠ 0 then ⟨[], r'.err, r'.line, r'.col⟩ else ⟨dropEnd (compK true r'.words), 0, 0, 0⟩) := by
  obtain ⟨he, hw⟩ := h
  rw [← he]
  by_cases h : r.err = 0
  · obtain ⟨h1, _⟩ := hw h
    rw [if_neg (by simp [h]), if_neg (by simp [h])]
    exact sim_mk (drop_core h1)
  · rw [if_pos h, if_pos h]
    exact sim_bad
theorem over_wide (s : ByteArray) : CurSim (overT s) (overT (wideT s)) := over_sim _ _ (read_wide s)
section
variable {a b : Cur}
theorem CurSim.more (h : CurSim a b) : moreC a = moreC b := by
  unfold moreC
  rw [h.2]
  have : a.ws.isEmpty = b.ws.isEmpty := by
    have := congrArg List.isEmpty h.1
    simpa [List.isEmpty_map] using this
  rw [this]
theorem CurSim.head (h : CurSim a b) : (headC a = none ∧ headC b = none) ∨ ∃ x y, headC a = some x ∧ headC b = some y ∧ core x = core y := by
  unfold headC
  rw [h.2]
  split
  · have hl : a.ws.head?.map core = b.ws.head?.map core := by rw [← List.head?_map, ← List.head?_map, h.1]
    cases ha : a.ws.head? with
    | none =>
      cases hb : b.ws.head? with
      | none => exact .inl ⟨rfl, rfl⟩
      | some y => rw [ha, hb] at hl; cases hl
    | some x =>
      cases hb : b.ws.head? with
      | none => rw [ha, hb] at hl; cases hl
      | some y =>
        rw [ha, hb] at hl
        exact .inr ⟨x, y, rfl, rfl, by simpa using hl⟩
  · exact .inl ⟨rfl, rfl⟩
theorem CurSim.pop (h : CurSim a b) : CurSim (popC a) (popC b) := ⟨by unfold popC; simp only; rw [List.map_tail, List.map_tail, h.1], h.2⟩
theorem failC_ws (x : Int) (s : Cur) : (failC x s).ws = s.ws := by
  unfold failC
  split
  · rfl
  · split <;> rfl
theorem failC_e (x : Int) (s : Cur) : (failC x s).e = if s.e ≠ 0 ∨ x = 0 then s.e else x := by
  unfold failC
  split
  · rfl
  · split <;> rfl
theorem CurSim.fail (h : CurSim a b) (x : Int) : CurSim (failC x a) (failC x b) := ⟨by rw [failC_ws, failC_ws]; exact h.1, by rw [failC_e, failC_e, h.2]⟩
theorem core_parts {x y : Word} (h : core x = core y) : x.kind = y.kind ∧ x.text = y.text ∧ x.n = y.n := by
  unfold core at h
  injection h with h1 h
  injection h with h2 h3
  exact ⟨h1, h2, h3⟩
theorem CurSim.is (h : CurSim a b) (v : Has) : isC v a = isC v b := by
  unfold isC
  rcases h.head with ⟨h1, h2⟩ | ⟨x, y, h1, h2, h3⟩
  · rw [h1, h2]
  · rw [h1, h2]
    obtain ⟨k1, k2, k3⟩ := core_parts h3
    have : hasW x = hasW y := by unfold hasW; rw [k1, k2, k3]
    simp only [this]
theorem CurSim.over (h : CurSim a b) (v : Bool) : CurSim (overC v a) (overC v b) := by
  unfold overC
  split
  · exact h.pop
  · exact h
theorem CurSim.name (h : CurSim a b) : (nameC a).1 = (nameC b).1 ∧ CurSim (nameC a).2 (nameC b).2 := by
  unfold nameC
  rcases h.head with ⟨h1, h2⟩ | ⟨x, y, h1, h2, h3⟩
  · rw [h1, h2]; exact ⟨rfl, h.fail 7⟩
  · rw [h1, h2]
    obtain ⟨k1, k2, k3⟩ := core_parts h3
    simp only [k1, k2]
    split
    · exact ⟨rfl, h.pop⟩
    · exact ⟨rfl, h.fail 7⟩
theorem CurSim.num (h : CurSim a b) (lo hi : Int) : (numC lo hi a).1 = (numC lo hi b).1 ∧ CurSim (numC lo hi a).2 (numC lo hi b).2 := by
  unfold numC
  rcases h.head with ⟨h1, h2⟩ | ⟨x, y, h1, h2, h3⟩
  · rw [h1, h2]; exact ⟨rfl, h.fail 7⟩
  · rw [h1, h2]
    obtain ⟨k1, k2, k3⟩ := core_parts h3
    simp only [k1, k3]
    split
    · split
      · exact ⟨rfl, h.fail 3⟩
      · exact ⟨rfl, h.pop⟩
    · exact ⟨rfl, h.fail 7⟩
theorem CurSim.mark : ∀ (l : List ByteArray) {a b : Cur}, CurSim a b → CurSim (markC l a) (markC l b)
  | [], _, _, h => h
  | t :: l, a, b, h => by
    unfold markC
    apply CurSim.mark l
    rw [h.is]
    split
    · exact h.pop
    · exact h.fail 7
theorem CurSim.end_ (h : CurSim a b) : CurSim (endC a) (endC b) := by
  unfold endC
  rcases h.head with ⟨h1, h2⟩ | ⟨x, y, h1, h2, h3⟩
  · rw [h1, h2]; exact h
  · rw [h1, h2]
    simp only [(core_parts h3).1]
    split
    · exact h.pop
    · exact h.fail 7
theorem CurSim.err (h : CurSim a b) : (errC a).2.2 = (errC b).2.2 := by
  unfold errC
  rw [h.2]
  split
  · rfl
  · have hl := congrArg List.length h.1
    rw [List.length_map, List.length_map] at hl
    cases ha : a.ws with
    | nil => cases hb : b.ws with
      | nil => rfl
      | cons y l => rw [ha, hb] at hl; simp at hl
    | cons x k => cases hb : b.ws with
      | nil => rw [ha, hb] at hl; simp at hl
      | cons y l => rfl
end
end Go.Proofs.YtppkanniefignaaGreatDoor
