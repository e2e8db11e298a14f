/- law01: same, awake, IsName; the program's and the document's. -/
import Derived.Test.YtmlopggainkoiaaDoorRF5
set_option linter.unusedSimpArgs false
set_option linter.unusedVariables false
namespace Go.Proofs.YtmlopggainkoiaaDoor
open Go.RowKit

/-! ### names -/
def isNameR : Nat → List Int → Bool
  | n, [] => decide (1 ≤ n) && decide (n ≤ 16)
  | n, c :: l => if isL c = false ∧ (n = 0 ∨ isD c = false) then false else isNameR (n + 1) l
theorem isNameR_cons (n : Nat) (c : Int) (l : List Int) : isNameR n (c :: l) = if isL c = false ∧ (n = 0 ∨ isD c = false) then false else isNameR (n + 1) l := rfl
theorem isNameR_bad (n : Nat) (c : Int) (l : List Int) (h : isLD c = false) : isNameR n (c :: l) = false := by
  rw [isNameR_cons, if_pos]
  have h1 := h
  unfold isLD at h1
  simp only [Bool.or_eq_false_iff] at h1
  exact ⟨h1.1, .inr h1.2⟩
set_option maxRecDepth 100000 in
set_option maxHeartbeats 4000000 in
theorem isName_any (s : ByteArray) (w : World) (hs : s.size ≤ 17179869184) : Calls Tryd.prog 17 #[.string s] w (RetX (.bool (isNameR 0 (items s 0))) w) := by
  obtain ⟨B0, hB0⟩ : ∃ B0, isNameR 0 (items s 0) = B0 := ⟨_, rfl⟩
  rw [hB0]
  have HB0 := hide hB0; clear hB0
  go_enter Tryd.func17, Tryd.ntmps17
  go_wp2_with fail
  go_loopw [3] (fun a wr => ∃ (pos n : Nat), a = .int .i64 n ∧ wr.heap[w.heap.size]? = some (.stringIter s pos) ∧ Below w.heap.size w wr ∧ isNameR n (items s pos) = B0 ∧ n ≤ pos ∧ pos ≤ s.size) (fun _ wr => s.size - wr.iterPos w.heap.size)
  case atStart =>
    refine ⟨0, 0, rfl, ?_, (Below.refl _ w).alloc (Nat.le_refl _) _, HB0.out, Nat.le_refl _, Nat.zero_le _⟩
    have := World.iter_heap w s 0
    simpa using this
  case round =>
    obtain ⟨pos, n, rfl, hit, hbw, hn, hnp, hps⟩ := hrel
    have HB := hide hbw; have HN := hide hn
    have hsz : w.heap.size < wr.heap.size := (Array.getElem?_eq_some_iff.1 hit).1
    clear hbw hn
    by_cases hp : pos < s.size
    · have hnx : ∀ ty, (Instr.next (.pointer (some ⟨w.heap.size, 0, none⟩)) true ty).run Tryd.prog wr = _ := fun ty => Lib.run_next_any_at wr w.heap.size s pos ty hit hp
      obtain ⟨W1, hW1⟩ : ∃ W1, wr.iterAt w.heap.size s (pos + (Utf8.decode s pos).2) = W1 := ⟨_, rfl⟩
      have HI1 := hide (show W1.heap[w.heap.size]? = some (.stringIter s (pos + (Utf8.decode s pos).2)) by rw [← hW1]; exact Lib.iterAt_heap wr w.heap.size s pos _ hit)
      have HB1 := hide (show Below w.heap.size w W1 by rw [← hW1]; exact Lib.below_iterAt HB.out (k := w.heap.size) (by omega) s _)
      have HWD := hide (Lib.decode_width_pos s pos hp)
      have HWL := hide (width_le hp)
      have HG1 := hide (items_good hp); have HG0 := hide (items_bad hp)
      have HGN := hide (@good_not s pos)
      rw [hW1] at hnx
      clear hW1
      generalize hr : (Utf8.decode s pos).1 = r at hnx HG1 HGN
      generalize hwd : (Utf8.decode s pos).2 = wd at HI1 HWD HWL HG1
      clear hr hwd
      -- what the document's runes say
      have hstep : ∀ b : Bool, (isNameR n ((r : Int) :: items s (pos + wd)) = b) → (goodAt s pos = true ∨ (isL r = false ∧ isD r = false ∧ b = false)) → B0 = b := fun b hb hc => by
        rw [← HN.out]
        cases hg : goodAt s pos with
        | true => rw [HG1.out hg]; exact hb
        | false =>
          rcases hc with h | h
          · rw [hg] at h; cases h
          · rw [HG0.out hg, isNameR_bad n (-1) _ (by decide), h.2.2]
      have hgood : isL r = true ∨ isD r = true → goodAt s pos = true := fun h => HGN.out (by rintro rfl; rcases h with h | h <;> exact absurd h (by decide))
      have HST := hide hstep; have HGD := hide hgood; clear hstep hgood
      cases hL : isL r
      · cases hD : isD r
        · have HF := hide (HST.out false (isNameR_bad _ _ _ (by simp [isLD, hL, hD])) (.inr ⟨hL, hD, rfl⟩))
          cases hn0 : ((n : Int) == 0)
          · go_wp2_with (first | (go_at_call 22; (with_reducible refine (letter_any _ _).mono ?_); rintro e w' ⟨rfl, rfl⟩) | (go_at_call 53; (with_reducible refine (digit_any _ _).mono ?_); rintro e w' ⟨rfl, rfl⟩))
            go_ret
            rw [HF.out]
            exact ⟨rfl, HB1.out.to_ext⟩
          · go_wp2_with (first | (go_at_call 22; (with_reducible refine (letter_any _ _).mono ?_); rintro e w' ⟨rfl, rfl⟩) | (go_at_call 53; (with_reducible refine (digit_any _ _).mono ?_); rintro e w' ⟨rfl, rfl⟩))
            go_ret
            rw [HF.out]
            exact ⟨rfl, HB1.out.to_ext⟩
        · have HG := hide (HGD.out (.inr hD))
          cases hn0 : ((n : Int) == 0)
          · have HN0 := hide (show ¬ n = 0 by simp at hn0; omega)
            have HI := hide (HG1.out HG.out)
            go_wp2_with (first | (go_at_call 22; (with_reducible refine (letter_any _ _).mono ?_); rintro e w' ⟨rfl, rfl⟩) | (go_at_call 53; (with_reducible refine (digit_any _ _).mono ?_); rintro e w' ⟨rfl, rfl⟩))
            go_roundw
            case rel => exact ⟨pos + wd, n + 1, by go_num, HI1.out, HB1.out, by rw [← HN.out, HI.out, isNameR_cons, if_neg (by simp [hD]; intro _; exact HN0.out)], by have := HWD.out; omega, HWL.out⟩
            case measure => simp only [World.iterPos, HI1.out, hit]; have := HWD.out; omega
          · have HN0 := hide (show n = 0 by simp at hn0; omega)
            have HF := hide (HST.out false (by rw [isNameR_cons, if_pos ⟨hL, .inl HN0.out⟩]) (.inl HG.out))
            go_wp2_with (first | (go_at_call 22; (with_reducible refine (letter_any _ _).mono ?_); rintro e w' ⟨rfl, rfl⟩) | (go_at_call 53; (with_reducible refine (digit_any _ _).mono ?_); rintro e w' ⟨rfl, rfl⟩))
            go_ret
            rw [HF.out]
            exact ⟨rfl, HB1.out.to_ext⟩
      · have HG := hide (HGD.out (.inl hL))
        have HI := hide (HG1.out HG.out)
        go_wp2_with (first | (go_at_call 22; (with_reducible refine (letter_any _ _).mono ?_); rintro e w' ⟨rfl, rfl⟩) | (go_at_call 53; (with_reducible refine (digit_any _ _).mono ?_); rintro e w' ⟨rfl, rfl⟩))
        go_roundw
        case rel => exact ⟨pos + wd, n + 1, by go_num, HI1.out, HB1.out, by rw [← HN.out, HI.out, isNameR_cons, if_neg (by simp [hL])], by have := HWD.out; omega, HWL.out⟩
        case measure => simp only [World.iterPos, HI1.out, hit]; have := HWD.out; omega
    · have hnx : ∀ ty, (Instr.next (.pointer (some ⟨w.heap.size, 0, none⟩)) true ty).run Tryd.prog wr = _ := fun ty => Lib.run_next_end_at wr w.heap.size s pos ty hit hp
      have HEND := hide (show B0 = (decide (1 ≤ n) && decide (n ≤ 16)) by rw [← HN.out, items_end hp]; rfl)
      by_cases h1 : 1 ≤ n
      · by_cases h16 : n ≤ 16
        · have HF := hide (show B0 = true by rw [HEND.out]; simp [h1, h16])
          go_wp2_with fail
          go_ret
          rw [HF.out]
          exact RetX.b (by simp; omega) HB.out
        · have HF := hide (show B0 = false by rw [HEND.out]; simp [h16])
          go_wp2_with fail
          go_ret
          rw [HF.out]
          exact RetX.b (by simp; omega) HB.out
      · have HF := hide (show B0 = false by rw [HEND.out]; simp [h1])
        go_wp2_with fail
        go_ret
        rw [HF.out]
        exact ⟨rfl, HB.out.to_ext⟩
end Go.Proofs.YtmlopggainkoiaaDoor
