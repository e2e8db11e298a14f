/- law28: plain: what is printed is read: a text with more blanks between its words, and more ends, remarks behind its lines lexes alike. law28: plain: a text with more blanks, ends, remarks, on bytes. law28: plain: what is printed is read, of a text with more blanks, ends, remarks too. law28: plain: where there is an error: no place is ahead of the first. -/
import Derived.Test.YtppkanniefignaaGreatDoorG38
import Derived.Lib.ReplaceLaws
import Derived.Test.YtppkanniefignaaGreatDoorG25
set_option linter.unusedSimpArgs false
set_option linter.unusedVariables false
namespace Go.Proofs.YtppkanniefignaaGreatDoor
def wq1 (c : Int) : List Int := if c = 10 then [32, 59, 32, 101, 110, 100, 10, 10] else if c = 32 then [32, 9, 32] else [c]
def wqL (l : List Int) : List Int := l.flatMap wq1
theorem wqL_nil : wqL [] = [] := rfl
theorem wqL_cons (c : Int) (l : List Int) (h : c ≠ 10) (h2 : c ≠ 32) : wqL (c :: l) = c :: wqL l := by unfold wqL; rw [List.flatMap_cons]; unfold wq1; rw [if_neg h, if_neg h2]; rfl
theorem wqL_ten (l : List Int) : wqL (10 :: l) = 32 :: 59 :: 32 :: 101 :: 110 :: 100 :: 10 :: 10 :: wqL l := by unfold wqL; rw [List.flatMap_cons]; rfl
theorem wqL_sp (l : List Int) : wqL (32 :: l) = 32 :: 9 :: 32 :: wqL l := by unfold wqL; rw [List.flatMap_cons]; rfl
theorem wqL_keep : ∀ (t l : List Int), (∀ x ∈ t, x ≠ 10 ∧ x ≠ 32) → wqL (t ++ l) = t ++ wqL l
  | [], l, _ => rfl
  | c :: t, l, h => by rw [List.cons_append, wqL_cons _ _ (h c (by simp)).1 (h c (by simp)).2, wqL_keep t l fun x hx => h x (by simp [hx])]; rfl
theorem wqL_head {l : List Int} {c : Int} {r : List Int} (h : wqL l = c :: r) : (∃ t, l = c :: t) ∨ c = 32 := by
  cases l with
  | nil => rw [wqL_nil] at h; cases h
  | cons a l =>
    by_cases ha : a = 10
    · subst ha; rw [wqL_ten] at h; injection h with h1 _; exact .inr h1.symm
    by_cases hb : a = 32
    · subst hb; rw [wqL_sp] at h; injection h with h1 _; exact .inr h1.symm
    · rw [wqL_cons _ _ ha hb] at h; injection h with h1 _; exact .inl ⟨l, by rw [h1]⟩
theorem wqL_while (p : Int → Bool) (hp : p 10 = false) (hq : p 32 = false) : ∀ (l : List Int), (wqL l).takeWhile p = l.takeWhile p
  | [] => rfl
  | c :: l => by
    by_cases hc : c = 10
    · subst hc; rw [wqL_ten, List.takeWhile_cons_of_neg (by simp [hq]), List.takeWhile_cons_of_neg (by simp [hp])]
    by_cases hd : c = 32
    · subst hd; rw [wqL_sp, List.takeWhile_cons_of_neg (by simp [hq]), List.takeWhile_cons_of_neg (by simp [hq])]
    · rw [wqL_cons _ _ hc hd, List.takeWhile_cons, List.takeWhile_cons, wqL_while p hp hq l]
theorem wqL_headL (l : List Int) : headL (wqL l) = headL l := by
  cases l with
  | nil => rfl
  | cons a l =>
    by_cases ha : a = 10
    · subst ha; rw [wqL_ten]; rfl
    by_cases hb : a = 32
    · subst hb; rw [wqL_sp]; rfl
    · rw [wqL_cons _ _ ha hb]; rfl
theorem numLen_wq (c : Int) (t : List Int) (hc : c ≠ 10) (hd : c ≠ 32) : numLen (c :: wqL t) = numLen (c :: t) := by
  have h := wqL_while isD (by decide) (by decide) (c :: t)
  rw [wqL_cons _ _ hc hd] at h
  rw [numLen_cons, numLen_cons, h, wqL_while isD (by decide) (by decide) t]
theorem NumT.sp {t : List Int} (h : NumT t) {x : Int} (hx : x ∈ t) : x ≠ 32 := by
  obtain ⟨d, _, hd, h⟩ := h
  rintro rfl
  rcases h with rfl | rfl
  · exact absurd (hd _ hx) (by decide)
  · rcases List.mem_cons.1 hx with h | h
    · exact absurd h (by decide)
    · exact absurd (hd _ h) (by decide)
theorem wq_sim : ∀ (f : Nat) (line col line' col' : Int) (rem : Bool) (L : List Int) (acc acc' : List Word) (f' : Nat), L.length < f → (wqL L).length < f' → RelW acc acc' → SimR (refL f line col rem L acc) (refL f' line' col' rem (wqL L) acc')
  | 0, _, _, _, _, _, _, _, _, _, h, _, _ => by omega
  | f + 1, line, col, line', col', rem, [], acc, acc', f', _, h', hr => by
    cases f' with
    | zero => simp at h'
    | succ f' => exact ⟨rfl, fun _ => hr⟩
  | f + 1, line, col, line', col', rem, c :: t, acc, acc', f', hf, hf', hr => by
    have hft : t.length < f := by simp at hf; omega
    by_cases h10 : c = 10
    · subst h10
      rw [wqL_ten] at hf' ⊢
      obtain ⟨g, rfl⟩ : ∃ g, f' = g + 8 := ⟨f' - 8, by simp at hf'; omega⟩
      rw [refL_cons, if_neg (by decide), if_pos rfl]
      rw [refL_cons, if_neg (by decide), if_neg (by decide), if_pos (.inr (.inl (by decide)))]
      rw [refL_cons, if_neg (by decide), if_neg (by decide), if_pos (.inr (.inr rfl))]
      rw [refL_cons, if_neg (by decide), if_neg (by decide), if_pos (.inl (by simp))]
      rw [refL_cons, if_neg (by decide), if_neg (by decide), if_pos (.inl (by simp))]
      rw [refL_cons, if_neg (by decide), if_neg (by decide), if_pos (.inl (by simp))]
      rw [refL_cons, if_neg (by decide), if_neg (by decide), if_pos (.inl (by simp))]
      rw [refL_cons, if_neg (by decide), if_pos rfl]
      rw [refL_cons, if_neg (by decide), if_pos rfl]
      refine wq_sim f _ _ _ _ false t _ _ _ hft (by simp at hf'; omega) ?_
      refine RelW.more (hr.snoc rfl) ?_ rfl
      rw [lastE_snoc]; rfl
    by_cases h32 : c = 32
    · subst h32
      rw [wqL_sp] at hf' ⊢
      obtain ⟨g, rfl⟩ : ∃ g, f' = g + 3 := ⟨f' - 3, by simp at hf'; omega⟩
      rw [refL_cons, if_neg (by decide), if_neg (by decide), if_pos (.inr (.inl (by decide)))]
      rw [refL_cons, if_neg (by decide), if_neg (by decide), if_pos (.inr (.inl (by decide)))]
      rw [refL_cons, if_neg (by decide), if_neg (by decide), if_pos (.inr (.inl (by decide)))]
      rw [refL_cons, if_neg (by decide), if_neg (by decide), if_pos (.inr (.inl (by decide)))]
      have e1 : (rem || (32 : Int) == 59) = rem := by simp
      have e2 : (rem || (9 : Int) == 59) = rem := by simp
      rw [e1, e2, e1]
      exact wq_sim f _ _ _ _ rem t _ _ _ hft (by simp at hf'; omega) hr
    obtain ⟨g, rfl⟩ : ∃ g, f' = g + 1 := ⟨f' - 1, by omega⟩
    by_cases h0 : c < 0
    · rw [wqL_cons _ _ h10 h32, refL_cons, if_pos h0, refL_cons, if_pos h0]
      exact sim_err _ _ _ _ _ (by decide)
    by_cases hs : rem = true ∨ isB c = true ∨ c = 59
    · rw [wqL_cons _ _ h10 h32] at hf' ⊢
      rw [refL_cons, if_neg h0, if_neg h10, if_pos hs, refL_cons, if_neg h0, if_neg h10, if_pos hs]
      exact wq_sim f _ _ _ _ _ t _ _ _ hft (by simp at hf'; omega) hr
    obtain rfl : rem = false := by
      cases rem
      · rfl
      · exact absurd (.inl rfl) hs
    by_cases hn : 0 < numLen (c :: t)
    · obtain ⟨u, r, e, hu, hrr⟩ := numLen_split hn
      rw [e] at hf hf' ⊢
      have hlen := hu.ne
      have hu10 : ∀ x ∈ u, x ≠ 10 ∧ x ≠ 32 := fun x hx => ⟨hu.ten hx, hu.sp hx⟩
      rw [wqL_keep u r hu10] at hf' ⊢
      rw [refL_num hu hrr, refL_num hu (fun c l' e => by rcases wqL_head e with ⟨t, ht⟩ | rfl; exact hrr c t ht; decide), wqL_headL]
      split
      · exact sim_err _ _ _ _ _ (by decide)
      split
      · exact sim_err _ _ _ _ _ (by decide)
      exact wq_sim f _ _ _ _ _ r _ _ _ (by rw [List.length_append] at hf; omega) (by rw [List.length_append] at hf'; omega) (hr.snoc rfl)
    by_cases hL : isL c = true
    · obtain ⟨r, e, hrr⟩ := takeWhile_split isLD (c :: t)
      obtain ⟨u, hu⟩ : ∃ u, (c :: t).takeWhile isLD = u := ⟨_, rfl⟩
      have hm : ∀ x ∈ u, isLD x = true := by rw [← hu]; exact takeWhile_mem1
      have hh : headL u = true := by rw [← hu, List.takeWhile_cons, show isLD c = true by simp [isLD, hL]]; exact hL
      rw [hu] at e
      rw [e] at hf hf' ⊢
      have hlen : 0 < u.length := by cases u <;> simp_all [headL]
      rw [wqL_keep u r (fun x hx => ⟨by rintro rfl; exact absurd (hm _ hx) (by decide), by rintro rfl; exact absurd (hm _ hx) (by decide)⟩)] at hf' ⊢
      rw [refL_name hh hm hrr, refL_name hh hm (fun c l' e => by rcases wqL_head e with ⟨t, ht⟩ | rfl; exact hrr c t ht; decide)]
      split
      · exact sim_err _ _ _ _ _ (by decide)
      exact wq_sim f _ _ _ _ _ r _ _ _ (by rw [List.length_append] at hf; omega) (by rw [List.length_append] at hf'; omega) (hr.snoc rfl)
    · rw [wqL_cons _ _ h10 h32] at hf' ⊢
      rw [refL_cons, if_neg h0, if_neg h10, if_neg hs, if_neg hn, if_neg hL, refL_cons g, if_neg h0, if_neg h10, if_neg hs, if_neg (show ¬ 0 < numLen (c :: wqL t) by rw [numLen_wq _ _ h10 h32]; exact hn), if_neg hL]
      split
      · exact sim_err _ _ _ _ _ (by decide)
      exact wq_sim f _ _ _ _ _ t _ _ _ hft (by simp at hf'; omega) (hr.snoc rfl)
end Go.Proofs.YtppkanniefignaaGreatDoor
set_option linter.unusedSimpArgs false
set_option linter.unusedVariables false
namespace Go.Proofs.YtppkanniefignaaGreatDoor
def wqb1 (b : UInt8) : List UInt8 := if b = 10 then [32, 59, 32, 101, 110, 100, 10, 10] else if b = 32 then [32, 9, 32] else [b]
def wqB (l : List UInt8) : List UInt8 := l.flatMap wqb1
theorem wqB_append (a b : List UInt8) : wqB (a ++ b) = wqB a ++ wqB b := by unfold wqB; rw [List.flatMap_append]
theorem wqB_cons (b : UInt8) (l : List UInt8) : wqB (b :: l) = wqb1 b ++ wqB l := by unfold wqB; rw [List.flatMap_cons]
theorem wqb1_head (b : UInt8) : ∃ x r, wqb1 b = x :: r ∧ (x = 32 ∨ x = b) := by
  unfold wqb1
  split
  · exact ⟨_, _, rfl, .inl rfl⟩
  · split
    · exact ⟨_, _, rfl, .inl rfl⟩
    · exact ⟨_, _, rfl, .inr rfl⟩
theorem wqB_keep : ∀ (t : List UInt8), (∀ x ∈ t, x ≠ 10 ∧ x ≠ 32) → wqB t = t
  | [], _ => rfl
  | b :: t, h => by rw [wqB_cons, wqB_keep t fun x hx => h x (by simp [hx])]; unfold wqb1; rw [if_neg (h b (by simp)).1, if_neg (h b (by simp)).2]; rfl
theorem wqB_back : ∀ (t l r : List UInt8), (∀ x ∈ t, x ≠ 10 ∧ x ≠ 32) → wqB l = t ++ r → ∃ r', l = t ++ r'
  | [], l, _, _, _ => ⟨l, rfl⟩
  | b :: t, [], r, _, h => by cases h
  | b :: t, a :: l, r, ht, h => by
    rw [wqB_cons] at h
    have hb := ht b (by simp)
    by_cases ha : a = 10
    · subst ha
      exfalso
      rw [show wqb1 10 = 32 :: [59, 32, 101, 110, 100, 10, 10] from rfl] at h
      injection h with h1 _
      exact hb.2 h1.symm
    by_cases ha2 : a = 32
    · subst ha2
      exfalso
      rw [show wqb1 32 = 32 :: [9, 32] from rfl] at h
      injection h with h1 _
      exact hb.2 h1.symm
    have hw : wqb1 a = [a] := by unfold wqb1; rw [if_neg ha, if_neg ha2]
    rw [hw] at h
    injection h with h1 h2
    subst h1
    obtain ⟨r', hr'⟩ := wqB_back t l r (fun x hx => ht x (by simp [hx])) h2
    exact ⟨r', by rw [hr']; rfl⟩
theorem enc_sp {c : Int} (h : VR c) (hc : c ≠ 32) : ∀ x ∈ (Utf8.encode c).data.toList, x ≠ 32 := by
  obtain ⟨n, rfl⟩ : ∃ n : Nat, c = n := ⟨c.toNat, by unfold VR at h; omega⟩
  unfold VR at h
  intro x hx e
  have h10 : x.toNat = 32 := by rw [e]; rfl
  by_cases h1 : n < 128
  · rw [enc1 h1] at hx
    simp only [List.mem_cons, List.not_mem_nil, or_false] at hx
    rw [hx, ofNat_toNat (by omega)] at h10; omega
  by_cases h2 : n < 2048
  · rw [enc2 (by omega) h2] at hx
    simp only [List.mem_cons, List.not_mem_nil, or_false] at hx
    rcases hx with hx | hx <;> rw [hx, ofNat_toNat (by omega)] at h10 <;> omega
  by_cases h3 : n < 65536
  · rw [enc3 (by omega) h3 (by omega)] at hx
    simp only [List.mem_cons, List.not_mem_nil, or_false] at hx
    rcases hx with hx | hx | hx <;> rw [hx, ofNat_toNat (by omega)] at h10 <;> omega
  · rw [enc4 (c := n) (by omega) (by omega)] at hx
    simp only [List.mem_cons, List.not_mem_nil, or_false] at hx
    rcases hx with hx | hx | hx | hx <;> rw [hx, ofNat_toNat (by omega)] at h10 <;> omega
theorem enc32 : (Utf8.encode 32).data.toList = [32] := enc1 (c := 32) (by decide)
theorem ten_bytesq : mkB [32, 59, 32, 101, 110, 100, 10, 10] = runesBytes [32, 59, 32, 101, 110, 100, 10, 10] := by
  apply bytes_ext; rw [mkB_list, runesBytes_list]; decide +kernel
theorem sp_bytesq : mkB [32, 9, 32] = runesBytes [32, 9, 32] := by
  apply bytes_ext; rw [mkB_list, runesBytes_list]; decide +kernel
theorem head_q : mkB [59, 32, 97, 108, 108, 10, 10, 32] = runesBytes [59, 32, 97, 108, 108, 10, 10, 32] := by
  apply bytes_ext; rw [mkB_list, runesBytes_list]; decide +kernel
theorem items_wq (s : ByteArray) : ∀ (n i : Nat), s.size - i ≤ n → i ≤ s.size → items (mkB (wqB (s.data.toList.drop i))) 0 = wqL (items s i) := by
  intro n
  induction n with
  | zero =>
    intro i hn hi
    have hl : s.data.toList.drop i = [] := List.drop_eq_nil_of_le (by rw [← size_list]; omega)
    rw [hl, items_end (s := s) (pos := i) (by omega)]
    exact items_end (s := mkB (wqB [])) (by decide)
  | succ n ih =>
    intro i hn hi
    by_cases hlt : i < s.size
    · cases hg : goodAt s i with
      | true =>
        have hw := Lib.decode_width_pos s i hlt
        have hV := decode_VR s i hg
        have henc := encode_decode hlt hg
        obtain ⟨c, hc⟩ : ∃ c : Int, ((Utf8.decode s i).1 : Int) = c := ⟨_, rfl⟩
        have hsp : s.data.toList.drop i = (Utf8.encode c).data.toList ++ s.data.toList.drop (i + (Utf8.decode s i).2) := by
          rw [← hc, henc, ← List.drop_drop, List.take_append_drop]
        have hle : i + (Utf8.decode s i).2 ≤ s.size := by
          have := encode_width hlt hg
          have hz := congrArg List.length henc
          rw [← size_list, this, List.length_take, List.length_drop, ← size_list] at hz
          omega
        rw [items_good hlt hg, hc, hsp, wqB_append, mkB_append]
        rw [hc] at hV
        have hrec := ih (i + (Utf8.decode s i).2) (by omega) hle
        by_cases h10 : c = 10
        · subst h10
          rw [wqL_ten, show wqB (Utf8.encode 10).data.toList = [32, 59, 32, 101, 110, 100, 10, 10] by rw [enc10]; decide, ten_bytesq, items_runes _ _ (by intro x hx; simp only [List.mem_cons, List.not_mem_nil, or_false] at hx; unfold VR; omega), hrec]; rfl
        by_cases h32 : c = 32
        · subst h32
          rw [wqL_sp, show wqB (Utf8.encode 32).data.toList = [32, 9, 32] by rw [enc32]; decide, sp_bytesq, items_runes _ _ (by intro x hx; simp only [List.mem_cons, List.not_mem_nil, or_false] at hx; unfold VR; omega), hrec]; rfl
        · rw [wqL_cons _ _ h10 h32, wqB_keep _ (fun x hx => ⟨enc_ten hV h10 x hx, enc_sp hV h32 x hx⟩), mkB_enc, items_enc hV, hrec]
      | false =>
        rw [items_bad hlt hg, wqL_cons _ _ (by decide) (by decide), wqL_nil]
        have hl0 : 0 < (s.data.toList.drop i).length := by rw [List.length_drop, ← size_list]; omega
        have hz : 0 < (mkB (wqB (s.data.toList.drop i))).size := by
          rw [mkB_size]
          cases hd : s.data.toList.drop i with
          | nil => rw [hd] at hl0; simp at hl0
          | cons b l => obtain ⟨x, r, hr, _⟩ := wqb1_head b; rw [wqB_cons, hr]; simp
        refine items_bad hz ?_
        cases hg2 : goodAt (mkB (wqB (s.data.toList.drop i))) 0 with
        | false => rfl
        | true =>
          exfalso
          have hV := decode_VR _ _ hg2
          have henc := encode_decode hz hg2
          rw [List.drop_zero, mkB_list] at henc
          obtain ⟨c, hc⟩ : ∃ c : Int, ((Utf8.decode (mkB (wqB (s.data.toList.drop i))) 0).1 : Int) = c := ⟨_, rfl⟩
          rw [hc] at hV henc
          have hsp : wqB (s.data.toList.drop i) = (Utf8.encode c).data.toList ++ (wqB (s.data.toList.drop i)).drop (Utf8.decode (mkB (wqB (s.data.toList.drop i))) 0).2 := by
            rw [henc, List.take_append_drop]
          have hx : ∃ c' r', VR c' ∧ s.data.toList.drop i = (Utf8.encode c').data.toList ++ r' := by
            by_cases hs : c = 10 ∨ c = 32
            · cases hd : s.data.toList.drop i with
              | nil => rw [hd] at hl0; simp at hl0
              | cons b l =>
                rw [hd, wqB_cons] at hsp
                obtain ⟨x, r, hr, hxb⟩ := wqb1_head b
                by_cases hb10 : b = 10
                · subst hb10; exact ⟨10, l, by unfold VR; omega, by rw [enc10]; rfl⟩
                by_cases hb32 : b = 32
                · subst hb32; exact ⟨32, l, by unfold VR; omega, by rw [enc32]; rfl⟩
                exfalso
                have hw : wqb1 b = [b] := by unfold wqb1; rw [if_neg hb10, if_neg hb32]
                rw [hw] at hsp
                rcases hs with rfl | rfl
                · rw [enc10] at hsp; injection hsp with h1 _; exact hb10 h1
                · rw [enc32] at hsp; injection hsp with h1 _; exact hb32 h1
            · have h10 : c ≠ 10 := fun e => hs (.inl e)
              have h32 : c ≠ 32 := fun e => hs (.inr e)
              obtain ⟨r', hr'⟩ := wqB_back _ _ _ (fun x hx => ⟨enc_ten hV h10 x hx, enc_sp hV h32 x hx⟩) hsp
              exact ⟨c, r', hV, hr'⟩
          obtain ⟨c', r', hV', hr'⟩ := hx
          have h1 := (good_drop s i hi).1
          rw [hr', mkB_append, mkB_enc, (decode_enc hV' _).2.1, hg] at h1
          cases h1
    · have hl : s.data.toList.drop i = [] := List.drop_eq_nil_of_le (by rw [← size_list]; omega)
      rw [hl, items_end (s := s) (pos := i) (by omega)]
      exact items_end (s := mkB (wqB [])) (by decide)
/-- The text with more blanks, ends, remarks. -/
def wqT (s : ByteArray) : ByteArray := mkB ([59, 32, 97, 108, 108, 10, 10, 32] ++ wqB s.data.toList)
theorem items_wqT (s : ByteArray) : items (wqT s) 0 = 59 :: 32 :: 97 :: 108 :: 108 :: 10 :: 10 :: 32 :: wqL (items s 0) := by
  unfold wqT
  rw [mkB_append, head_q, items_runes _ _ (by intro x hx; simp only [List.mem_cons, List.not_mem_nil, or_false] at hx; unfold VR; omega)]
  have := items_wq s s.size 0 (by omega) (by omega)
  rw [List.drop_zero] at this
  rw [this]; rfl
theorem ref_wq (L : List Int) (f : Nat) (hf : L.length < f) (g : Nat) (hg : (wqL L).length < g) : SimR (refL f 1 1 false L []) (refL (g + 8) 1 1 false (59 :: 32 :: 97 :: 108 :: 108 :: 10 :: 10 :: 32 :: wqL L) []) := by
  rw [refL_cons (g + 7), if_neg (by decide), if_neg (by decide), if_pos (.inr (.inr rfl))]
  rw [refL_cons (g + 6), if_neg (by decide), if_neg (by decide), if_pos (.inl (by simp))]
  rw [refL_cons (g + 5), if_neg (by decide), if_neg (by decide), if_pos (.inl (by simp))]
  rw [refL_cons (g + 4), if_neg (by decide), if_neg (by decide), if_pos (.inl (by simp))]
  rw [refL_cons (g + 3), if_neg (by decide), if_neg (by decide), if_pos (.inl (by simp))]
  rw [refL_cons (g + 2), if_neg (by decide), if_pos rfl]
  rw [refL_cons (g + 1), if_neg (by decide), if_pos rfl]
  rw [refL_cons g, if_neg (by decide), if_neg (by decide), if_pos (.inr (.inl (by decide)))]
  exact wq_sim f _ _ _ _ false L _ _ g hf hg ⟨by rfl, by rfl⟩
theorem read_wq (s : ByteArray) : SimR (readR s) (readR (wqT s)) := by
  have h := ref_wq (items s 0) ((items s 0).length + 1) (by omega) ((wqL (items s 0)).length + 1) (by omega)
  have e : (items (wqT s) 0).length + 1 = (wqL (items s 0)).length + 1 + 8 := by rw [items_wqT]; simp only [List.length_cons]
  rw [readR_ref, readR_ref, e, items_wqT]
  exact h
theorem over_wq (s : ByteArray) : CurSim (overT s) (overT (wqT s)) := over_sim _ _ (read_wq s)
theorem CurSim.symm28 {a b : Cur} (h : CurSim a b) : CurSim b a := ⟨h.1.symm, h.2.symm⟩
theorem CurSim.trans28 {a b c : Cur} (h : CurSim a b) (g : CurSim b c) : CurSim a c := ⟨h.1.trans g.1, h.2.trans g.2⟩

/-! ### strings.ReplaceAll at one byte -/
def rep1 (c : UInt8) (new : List UInt8) (b : UInt8) : List UInt8 := if b = c then new else [b]
theorem index_hd (c : UInt8) (l : List UInt8) : Lib.index (c :: l) [c] = 0 := by
  unfold Lib.index; rw [if_pos (by simp)]
theorem index_tl {b c : UInt8} (h : b ≠ c) (l : List UInt8) : Lib.index (b :: l) [c] = if Lib.index l [c] == -1 then -1 else Lib.index l [c] + 1 := by
  conv => lhs; unfold Lib.index
  rw [if_neg (by simp; exact fun e => h e.symm)]
theorem repK_tl {b c : UInt8} (h : b ≠ c) (new : List UInt8) (k : Nat) (l : List UInt8) : Lib.replaceK [c] new k (b :: l) = b :: Lib.replaceK [c] new k l := by
  cases k with
  | zero => rfl
  | succ k =>
    by_cases hm : Lib.index l [c] = -1
    · rw [Lib.replaceK, Lib.replaceK, index_tl h, hm]; rfl
    · obtain ⟨i, hi⟩ : ∃ i : Nat, Lib.index l [c] = i := ⟨(Lib.index l [c]).toNat, by have := Lib.index_ge l [c]; omega⟩
      rw [Lib.replaceK_hit _ _ _ l i hi, Lib.replaceK_hit _ _ _ (b :: l) (i + 1) (by rw [index_tl h, hi, if_neg (by simp)]; rfl)]
      show b :: _ ++ _ ++ _ = _
      rw [show ([c] : List UInt8).length = 1 from rfl, show i + 1 + 1 = (i + 1) + 1 from rfl, List.drop_succ_cons]
      simp
theorem repK_one (c : UInt8) (new : List UInt8) : ∀ (s : List UInt8) (k : Nat), Lib.count s [c] ≤ k → Lib.replaceK [c] new k s = s.flatMap (rep1 c new)
  | [], k, _ => by
    cases k with
    | zero => rfl
    | succ k => rw [Lib.replaceK]; rfl
  | b :: s, k, h => by
    by_cases hb : b = c
    · subst hb
      rw [Lib.count_cons_eq] at h
      obtain ⟨j, rfl⟩ : ∃ j, k = j + 1 := ⟨k - 1, by omega⟩
      rw [Lib.replaceK_hit _ _ _ _ 0 (index_hd b s), List.flatMap_cons]
      unfold rep1
      rw [if_pos rfl]
      have := repK_one b new s j (by omega)
      unfold rep1 at this
      rw [show (0 + ([b] : List UInt8).length) = 1 from rfl, List.drop_succ_cons, List.drop_zero, this]
      rfl
    · rw [Lib.count_cons_ne _ _ _ hb] at h
      rw [repK_tl hb, List.flatMap_cons, repK_one c new s k h]
      unfold rep1
      rw [if_neg hb]; rfl
theorem replace_one (c : UInt8) (new s : List UInt8) (hn : ([c] == new) = false) : Lib.replaceAll s [c] new = s.flatMap (rep1 c new) := by
  unfold Lib.replaceAll Lib.replace
  rw [hn]
  exact repK_one c new s _ (by unfold Lib.replaceNum; rw [if_pos (.inl (by decide))]; exact Nat.le_refl _)
theorem rep_wq (s : List UInt8) : (s.flatMap (rep1 32 [32, 9, 32])).flatMap (rep1 10 [32, 59, 32, 101, 110, 100, 10, 10]) = wqB s := by
  unfold wqB
  rw [List.flatMap_assoc]
  congr 1
  funext b
  unfold rep1 wqb1
  by_cases h10 : b = 10
  · subst h10; rfl
  · by_cases h32 : b = 32
    · subst h32; rfl
    · simp [h10, h32]
theorem replace_wq (s : ByteArray) : mkB (Lib.replaceAll (mkB (Lib.replaceAll s.data.toList [32] [32, 9, 32])).data.toList [10] [32, 59, 32, 101, 110, 100, 10, 10]) = mkB (wqB s.data.toList) := by
  rw [mkB_list, replace_one _ _ _ (by decide), replace_one _ _ _ (by decide), rep_wq]
end Go.Proofs.YtppkanniefignaaGreatDoor
set_option linter.unusedSimpArgs false
set_option linter.unusedVariables false
namespace Go.Proofs.YtppkanniefignaaGreatDoor
open Go.RowKit Go.Maps
def sumO : List Nat → Nat
  | [] => 0
  | l :: ls => l + 1 + sumO ls
theorem countC_sum : ∀ (ls : List Nat) (a : Int), 0 ≤ a → countC a ls ≤ 1500 → countC a ls = a + (sumO ls : Nat)
  | [], a, _, _ => by simp [countC, sumO]
  | l :: ls, a, h0, h => by
    by_cases hA : a ≤ 1500
    · rw [countC_step hA] at h ⊢
      rw [countC_sum ls _ (by omega) h]
      simp only [sumO]
      omega
    · rw [countC_over hA] at h; exact absurd h hA
theorem certN_sum {x : Cert} (h : certN x ≤ 1500) : sumO (x.tiles.map fun t => t.blocks.length) + sumO (x.facts.map List.length) ≤ 1500 := by
  unfold certN at h
  have h0 := countC_ge (x.tiles.map fun t => t.blocks.length) 0
  obtain ⟨a1, _⟩ := countC_le _ _ (by omega) h
  have e1 := countC_sum _ 0 (by omega) a1
  have e2 := countC_sum _ _ (by omega) h
  omega
theorem wqB_len : ∀ l : List UInt8, (wqB l).length ≤ 8 * l.length
  | [] => Nat.le_refl _
  | b :: l => by
    have ih := wqB_len l
    have h1 : (wqb1 b).length ≤ 8 := by
      unfold wqb1
      split
      · decide
      · split
        · decide
        · simp
    rw [wqB_cons, List.length_append, List.length_cons]
    omega
/-- A bound of a line's bytes, widened. -/
def wZ : List Pt → Nat
  | [] => 0
  | p :: l => 8 * (ptB p).size + 3 + wZ l
theorem wZ_app : ∀ a b : List Pt, wZ (a ++ b) = wZ a + wZ b
  | [], b => by simp [wZ]
  | p :: a, b => by show _ + wZ (a ++ b) = _; rw [wZ_app a b]; simp only [wZ]; omega
theorem tail_wq : ∀ ps : List Pt, (wqB (tailW (ps.map ptB)).data.toList).length ≤ wZ ps
  | [] => Nat.le_refl _
  | p :: ps => by
    have ih := tail_wq ps
    have h1 := wqB_len (ptB p).data.toList
    rw [← size_list] at h1
    rw [List.map_cons]
    show (wqB ((⟨#[32]⟩ ++ ptB p) ++ tailW (ps.map ptB)).data.toList).length ≤ _
    rw [ByteArray.data_append, ByteArray.data_append, Array.toList_append, Array.toList_append, wqB_append, wqB_append, List.length_append, List.length_append]
    have h2 : (wqB [32]).length = 3 := by decide
    show (wqB [32]).length + _ + _ ≤ _
    simp only [wZ]
    omega
theorem line_wq (ps : List Pt) : (wqB (lineB ps).data.toList).length ≤ wZ ps + 8 := by
  have h2 : (wqB [10]).length = 8 := by decide
  have h3 : (wqB (joinW (ps.map ptB)).data.toList).length ≤ wZ ps := by
    cases ps with
    | nil => exact Nat.le_refl _
    | cons p ps =>
      have ih := tail_wq ps
      have h1 := wqB_len (ptB p).data.toList
      rw [← size_list] at h1
      rw [List.map_cons]
      show (wqB (ptB p ++ tailW (ps.map ptB)).data.toList).length ≤ _
      rw [ByteArray.data_append, Array.toList_append, wqB_append, List.length_append]
      simp only [wZ]
      omega
  unfold lineB
  rw [ByteArray.data_append, Array.toList_append, wqB_append, List.length_append]
  show _ + (wqB [10]).length ≤ _
  omega
def linesW : List (List Pt) → Nat
  | [] => 0
  | p :: l => wZ p + 8 + linesW l
theorem linesW_app : ∀ (a b : List (List Pt)), linesW (a ++ b) = linesW a + linesW b
  | [], b => by simp [linesW]
  | p :: a, b => by show _ + linesW (a ++ b) = _; rw [linesW_app a b]; simp only [linesW]; omega
theorem lines_wq : ∀ (L : List (List Pt)) (acc : ByteArray), (wqB (linesB acc L).data.toList).length ≤ (wqB acc.data.toList).length + linesW L
  | [], acc => by simp [linesB, linesW]
  | ps :: L, acc => by
    have h1 := line_wq ps
    have h2 := lines_wq L (acc ++ lineB ps)
    rw [ByteArray.data_append, Array.toList_append, wqB_append, List.length_append] at h2
    show (wqB (linesB (acc ++ lineB ps) L).data.toList).length ≤ _
    simp only [linesW]
    omega
theorem itoa_sz4 {n : Int} (h1 : -1 ≤ n) (h2 : n < 1000) : (itoaB n).size ≤ 4 := by
  have h3 := dec_len4 (show n.natAbs < 1000 by omega)
  have h4 := dec_len4 (show n.toNat < 1000 by omega)
  unfold itoaB Lib.itoa
  rw [size_list]
  split
  · simp; omega
  · simp; omega
theorem key_sz4 {x : Nm} (h : NmOk x) : (ptB (.nm x)).size ≤ 4 := by
  rw [ptB_key h]
  have key : ∀ c n, n < 1000 → (keyB c n).size ≤ 4 := fun c n hn => by
    have := dec_len4 hn
    unfold keyB
    show (c :: Lib.decDigits n).toArray.size ≤ 4
    simp
    omega
  cases x with
  | var n =>
    unfold NmOk at h
    unfold keyN
    simp only
    split
    · exact key _ _ (by omega)
    · exact key _ _ (by omega)
  | loc l =>
    obtain ⟨s, n⟩ := l
    obtain ⟨h1, h2⟩ := h
    unfold keyN
    cases s
    · simp at h1 h2 ⊢; exact key _ _ (by omega)
    · simp at h1 h2 ⊢; exact key _ _ (by omega)
theorem ints_wz : ∀ l : List Int, (∀ x ∈ l, 0 ≤ x ∧ x < 200) → wZ (l.map .int) ≤ 35 * l.length
  | [], _ => Nat.le_refl _
  | n :: l, h => by
    have ih := ints_wz l fun x hx => h x (List.mem_cons_of_mem _ hx)
    have hn := h n (by simp)
    have h1 := itoa_sz4 (n := n) (by omega) (by omega)
    rw [List.map_cons, List.length_cons]
    simp only [wZ, ptB]
    omega
theorem tile_wz {t : Tile} (h : TileIn t) : wZ (tileP t) + 8 ≤ 140 * (t.blocks.length + 1) := by
  have a1 := h.k1; have a2 := h.k4; have a3 := h.p1; have a4 := h.p2
  have h1 := ints_wz t.blocks h.b
  have h2 := itoa_sz4 (n := t.parent) (by omega) (by omega)
  have h3 : (kindT t.kind.toNat).size ≤ 6 := by
    obtain ⟨k, hk⟩ : ∃ k, t.kind.toNat = k := ⟨_, rfl⟩
    rw [hk]
    rcases (by omega : k = 1 ∨ k = 2 ∨ k = 3 ∨ k = 4) with rfl | rfl | rfl | rfl <;> decide
  have h4 : tTile.size = 4 := by decide
  have h5 : tColon.size = 1 := by decide
  unfold tileP
  rw [wZ_app]
  simp only [wZ, ptB]
  omega
theorem facts_wz : ∀ (l : List Fact) (b : Bool), (∀ f ∈ l, FactIn f) → wZ (factsP b l) ≤ 92 * l.length
  | [], b, _ => by cases b <;> exact Nat.zero_le _
  | f :: l, b, h => by
    have ih := facts_wz l false fun g hg => h g (List.mem_cons_of_mem _ hg)
    have hf := h f (by simp)
    have h1 := key_sz4 hf.ok.1
    have h2 := key_sz4 hf.ok.2
    have h3 : tEq.size = 1 := by decide
    have h4 : tComma.size = 1 := by decide
    have h5 : wZ (factP f) ≤ 81 := by
      show 8 * (ptB (.nm (.var f.var))).size + 3 + (8 * tEq.size + 3 + (8 * (ptB (.nm (.loc f.loc))).size + 3 + 0)) ≤ 81
      omega
    rw [List.length_cons]
    cases b with
    | true => rw [show factsP true (f :: l) = factP f ++ factsP false l from rfl, wZ_app]; omega
    | false =>
      rw [show factsP false (f :: l) = .str tComma :: (factP f ++ factsP false l) from rfl]
      show 8 * tComma.size + 3 + wZ (factP f ++ factsP false l) ≤ _
      rw [wZ_app]
      omega
theorem edge_wz {l : List Fact} (h : ∀ f ∈ l, FactIn f) : wZ (edgeP l) + 8 ≤ 140 * (l.length + 1) := by
  have h1 := facts_wz l true h
  have h2 : tEdge.size = 4 := by decide
  show 8 * tEdge.size + 3 + wZ (factsP true l) + 8 ≤ _
  omega
theorem tiles_wz : ∀ tl : List Tile, (∀ t ∈ tl, TileIn t) → linesW (tl.map tileP) ≤ 140 * sumO (tl.map fun t => t.blocks.length)
  | [], _ => Nat.le_refl _
  | t :: tl, h => by
    have ih := tiles_wz tl fun x hx => h x (List.mem_cons_of_mem _ hx)
    have h1 := tile_wz (h t (by simp))
    rw [List.map_cons, List.map_cons]
    simp only [linesW, sumO]
    omega
theorem edges_wz : ∀ fl : List (List Fact), (∀ l ∈ fl, ∀ f ∈ l, FactIn f) → linesW (fl.map edgeP) ≤ 140 * sumO (fl.map List.length)
  | [], _ => Nat.le_refl _
  | l :: fl, h => by
    have ih := edges_wz fl fun x hx => h x (List.mem_cons_of_mem _ hx)
    have h1 := edge_wz (h l (by simp))
    rw [List.map_cons, List.map_cons]
    simp only [linesW, sumO]
    omega
theorem show_wq {c : Cert} (h : fitsB c = true) (hn : certN c ≤ 1500) : (wqB (showB c).data.toList).length ≤ 210000 := by
  have hf := fits_in h
  have h1 := lines_wq (linesC c) ByteArray.empty
  have e : linesB ByteArray.empty (linesC c) = showB c := by unfold linesC showB; rw [lines_app28]
  have h2 : (wqB (ByteArray.empty).data.toList).length = 0 := rfl
  have h3 := tiles_wz c.tiles fun t ht => tileOk_in (hf.ts t ht)
  have h4 := edges_wz c.facts fun l hl f hf' => factOk_in ((rowOk_in (hf.fs l hl)).1 f hf')
  have h5 := certN_sum hn
  rw [e, h2] at h1
  unfold linesC at h1
  rw [linesW_app] at h1
  omega
/-- What is printed is read, with more blanks, ends, remarks. -/
theorem parse_wq28 {c : Cert} (h : fitsB c = true) (hn : certN c ≤ 1500) : parse28 (wqT (showB c)) = (c, 0, 0, 0) := by
  have h1 := show_wq h hn
  refine parse_words28 h ?_ ((over_wq (showB c)).symm28.trans28 (over_show28 h))
  unfold wqT
  rw [mkB_size, List.length_append]
  simp only [List.length_cons, List.length_nil]
  omega
end Go.Proofs.YtppkanniefignaaGreatDoor
set_option linter.unusedSimpArgs false
set_option linter.unusedVariables false
namespace Go.Proofs.YtppkanniefignaaGreatDoor
open Go.RowKit
theorem loop_inv20 {σ : Type} {go : σ → Option σ} (P : σ → Prop) (h : ∀ x y, P x → go x = some y → P y) : ∀ (f : Nat) (x : σ), P x → P (loopC go f x)
  | 0, _, hx => hx
  | f + 1, x, hx => by
    cases hg : go x with
    | none => rw [loop_none hg]; exact hx
    | some y => rw [loop_some hg]; exact loop_inv20 P h f y (h x y hx hg)
theorem refL_pos : ∀ (f : Nat) (line col : Int) (rem : Bool) (L : List Int) (acc : List Word), 0 ≤ line → 0 ≤ col → (∀ w ∈ acc, 0 ≤ w.line ∧ 0 ≤ w.col) → 0 ≤ (refL f line col rem L acc).line ∧ 0 ≤ (refL f line col rem L acc).col ∧ ∀ w ∈ (refL f line col rem L acc).words, 0 ≤ w.line ∧ 0 ≤ w.col
  | 0, _, _, _, _, _, _, _, h => ⟨Int.le_refl _, Int.le_refl _, h⟩
  | f + 1, _, _, _, [], _, _, _, h => ⟨Int.le_refl _, Int.le_refl _, h⟩
  | f + 1, line, col, rem, c :: t, acc, h1, h2, h => by
    have ha : ∀ (k : Int) (s : ByteArray) (n : Int), ∀ w ∈ acc ++ [⟨k, s, n, line, col⟩], 0 ≤ w.line ∧ 0 ≤ w.col := fun k s n w hw => by
      rcases List.mem_append.1 hw with hw | hw
      · exact h w hw
      · rw [List.mem_singleton] at hw; subst hw; exact ⟨h1, h2⟩
    have he : ∀ (c : Int) (e : Int), 0 ≤ c → 0 ≤ (errR line c e).line ∧ 0 ≤ (errR line c e).col ∧ ∀ w ∈ (errR line c e).words, 0 ≤ w.line ∧ 0 ≤ w.col := fun c e hc => ⟨h1, hc, fun _ h => (by cases h)⟩
    rw [refL_cons]
    repeat' split
    all_goals first
      | exact he _ _ h2
      | exact he _ _ (by omega)
      | exact refL_pos f _ _ _ _ _ (by omega) (by omega) (ha _ _ _)
      | exact refL_pos f _ _ _ _ _ h1 (by omega) h
structure PosC (s : Cur) : Prop where
  w : ∀ w ∈ s.ws, 0 ≤ w.line ∧ 0 ≤ w.col
  l : 0 ≤ s.line
  c : 0 ≤ s.col
theorem dropEnd_mem (l : List Word) : ∀ w ∈ dropEnd l, w ∈ l := by
  intro w h
  unfold dropEnd at h
  split at h
  · split at h
    · exact (List.dropLast_sublist l).mem h
    · exact h
  · exact h
theorem over_pos (s : ByteArray) : PosC (overT s) := by
  have h := refL_pos ((items s 0).length + 1) 1 1 false (items s 0) [] (by omega) (by omega) (fun _ h => (by cases h))
  rw [← readR_ref] at h
  obtain ⟨h1, h2, h3⟩ := h
  unfold overT
  split
  · exact ⟨fun _ h => (by cases h), h1, h2⟩
  · exact ⟨fun w hw => h3 w (compK_mem _ _ w (dropEnd_mem _ w hw)), Int.le_refl _, Int.le_refl _⟩
section
variable {s : Cur}
theorem PosC.pop (h : PosC s) : PosC (popC s) := ⟨fun w hw => h.w w (List.mem_of_mem_tail hw), h.l, h.c⟩
theorem PosC.fail (h : PosC s) (x : Int) : PosC (failC x s) := by
  obtain ⟨ws, e, l, c⟩ := s
  unfold failC
  split
  · exact h
  · cases ws with
    | nil => exact ⟨h.w, h.l, h.c⟩
    | cons w ws => have := h.w w (List.mem_cons_self ..); exact ⟨h.w, this.1, this.2⟩
theorem PosC.unless (h : PosC s) (b : Bool) (x : Int) : PosC (unlessC b x s) := by unfold unlessC; split; exact h; exact h.fail x
theorem PosC.over (h : PosC s) (b : Bool) : PosC (overC b s) := by unfold overC; split; exact h.pop; exact h
theorem PosC.name (h : PosC s) : PosC (nameC s).2 := by
  unfold nameC
  split
  · split
    · exact h.pop
    · exact h.fail 7
  · exact h.fail 7
theorem PosC.num (h : PosC s) (lo hi : Int) : PosC (numC lo hi s).2 := by
  unfold numC
  split
  · split
    · split
      · exact h.fail 3
      · exact h.pop
    · exact h.fail 7
  · exact h.fail 7
theorem PosC.end_ (h : PosC s) : PosC (endC s) := by
  unfold endC
  split
  · split
    · exact h.pop
    · exact h.fail 7
  · exact h
theorem PosC.mark : ∀ (l : List ByteArray) {s : Cur}, PosC s → PosC (markC l s)
  | [], _, h => h
  | t :: l, s, h => by
    unfold markC
    apply PosC.mark l
    split
    · exact h.pop
    · exact h.fail 7
theorem PosC.err (h : PosC s) : 0 ≤ (errC s).1 ∧ 0 ≤ (errC s).2.1 := by
  unfold errC
  split
  · exact ⟨h.l, h.c⟩
  · split
    · exact ⟨Int.le_refl _, Int.le_refl _⟩
    · rename_i w l e; exact h.w w (by rw [e]; exact List.mem_cons_self ..)
theorem PosC.kind : ∀ (l : List ByteArray) (k : Nat) {s : Cur}, PosC s → PosC (kindC l k s).2
  | [], _, _, h => h
  | t :: l, k, s, h => by
    unfold kindC
    split
    · exact h.pop
    · exact PosC.kind l (k + 1) h
theorem PosC.tile (h : PosC s) : PosC (tileC s).2 := by
  unfold tileC
  simp only
  refine PosC.end_ ?_
  refine loop_inv20 (go := blockG) (fun x => PosC x.2) (fun x y hx hy => ?_) _ _ (PosC.mark _ (((PosC.kind _ _ h).unless _ _).num _ _))
  unfold blockG at hy
  split at hy
  · cases hy
  · injection hy with hy; subst hy; exact (hx.unless _ _).num _ _
theorem PosC.fact (h : PosC s) (l : List Fact) : PosC (factC l s).2 := by
  unfold factC
  simp only
  exact ((PosC.mark _ (((h.unless _ _).unless _ _).name)).unless _ _).name
theorem PosC.facts (h : PosC s) : PosC (factsC s).2 := by
  unfold factsC
  simp only
  refine PosC.end_ ?_
  refine loop_inv20 (go := factG) (fun x => PosC x.2) (fun x y hx hy => ?_) _ _ h
  unfold factG at hy
  split at hy
  · injection hy with hy; subst hy; exact (hx.fact _).over _
  · cases hy
theorem PosC.cert (h : PosC s) : PosC (certC s).2 := by
  have h1 : PosC (tilesC ([], s)).2 := by
    refine loop_inv20 (go := tilesG) (fun x => PosC x.2) (fun x y hx hy => ?_) _ _ h
    unfold tilesG at hy
    split at hy
    · injection hy with hy; subst hy; exact (hx.pop.unless _ _).tile
    · cases hy
  refine loop_inv20 (go := edgesG) (fun x => PosC x.2) (fun x y hx hy => ?_) _ _ h1
  unfold edgesG at hy
  split at hy
  · injection hy with hy; subst hy; exact (hx.pop.unless _ _).facts
  · cases hy
end
/-- WHAT IS NOT READ: no tiles, no facts, and a place that is none ahead of the first. -/
theorem parse_bad28 {s : ByteArray} {c : Cert} {l k e : Int} (h : parse28 s = (c, l, k, e)) (he : e ≠ 0) : c = ⟨[], []⟩ ∧ 0 ≤ l ∧ 0 ≤ k := by
  unfold parse28 at h
  split at h
  · injection h with h1 h2
    injection h2 with h2 h3
    injection h3 with h3 h4
    subst h1 h2 h3
    exact ⟨rfl, Int.le_refl _, Int.le_refl _⟩
  · have hp := (over_pos s).cert.err
    split at h
    · injection h with h1 h2
      have e1 := congrArg (fun x => x.1) h2
      have e2 := congrArg (fun x => x.2.1) h2
      simp only at e1 e2
      rw [e1, e2] at hp
      exact ⟨h1.symm, hp⟩
    · injection h with h1 h2
      injection h2 with h2 h3
      injection h3 with h3 h4
      exact absurd h4.symm he
end Go.Proofs.YtppkanniefignaaGreatDoor
