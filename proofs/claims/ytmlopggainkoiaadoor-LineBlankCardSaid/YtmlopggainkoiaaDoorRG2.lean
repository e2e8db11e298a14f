/- law01: the document's IsName; same, awake. -/
import Derived.Test.YtmlopggainkoiaaDoorRG1
set_option linter.unusedSimpArgs false
set_option linter.unusedVariables false
namespace Go.Proofs.YtmlopggainkoiaaDoor
open Go.RowKit

set_option maxRecDepth 100000 in
set_option maxHeartbeats 4000000 in
theorem isName1_any (s : ByteArray) (w : World) (hs : s.size ≤ 17179869184) : Calls Tryd.prog 18 #[.string s] w (Ret (.bool (isNameR 0 (items s 0))) w) := by
  obtain ⟨B0, hB0⟩ : ∃ B0, isNameR 0 (items s 0) = B0 := ⟨_, rfl⟩
  rw [hB0]
  have HB0 := hide hB0; clear hB0
  go_enter Tryd.func18, Tryd.ntmps18
  go_wp2_with fail
  go_loop [3, 4] (fun a b => ∃ (pos n : Nat), a = .int .i64 n ∧ b = .int .i64 pos ∧ isNameR n (items s pos) = B0 ∧ n ≤ pos ∧ pos ≤ s.size) (fun _ b => s.size - (intOf b).toNat)
  case atStart => exact ⟨0, 0, rfl, rfl, HB0.out, Nat.le_refl _, Nat.zero_le _⟩
  case round =>
    obtain ⟨pos, n, rfl, rfl, hn, hnp, hps⟩ := hrel
    have HN := hide hn
    clear hn
    by_cases hp : pos < s.size
    · have HAT := hide (at_any s pos w (by omega) (by omega))
      cases hg : goodAt s pos
      · have hb := atR_bad hg
        rw [hb] at HAT
        have HF := hide (show B0 = false by rw [← HN.out, items_bad hp hg]; exact isNameR_bad n (-1) _ (by decide))
        clear hb hg
        go_wp2_with (first | (go_at_call 48; refine HAT.out.mono ?_; rintro e w' ⟨rfl, rfl⟩) | (go_at_call 54; (with_reducible refine (digit1_any _ _).mono ?_); rintro e w' ⟨rfl, rfl⟩) | (go_at_call 23; (with_reducible refine (letter1_any _ _).mono ?_); rintro e w' ⟨rfl, rfl⟩))
        go_ret
        exact Ret.b HF.out.symm
      · have hb := atR_good hp hg
        rw [hb] at HAT
        have HI := hide (items_good hp hg)
        have HW := hide (Lib.decode_width_pos s pos hp); have HWL := hide (width_le hp)
        clear hb hg
        generalize hr : (Utf8.decode s pos).1 = r at HAT HI
        generalize hwd : (Utf8.decode s pos).2 = wd at HAT HI HW HWL
        have HAT' := hide (show Calls Tryd.prog 48 #[.string s, .int .i64 pos] w (RetAt (r, wd) w) by rw [← hr, ← hwd]; exact HAT.out)
        clear hr hwd HAT
        have hw1 := HW.out; have hw2 := HWL.out
        have hwz : ((wd : Int) == 0) = false := by simp; omega
        cases hL : isL r
        · cases hD : isD r
          · have HF := hide (show B0 = false by rw [← HN.out, HI.out]; exact isNameR_bad _ _ _ (by simp [isLD, hL, hD]))
            cases hn0 : ((n : Int) == 0)
            · go_wp2_with (first | (go_at_call 48; refine HAT'.out.mono ?_; rintro e w' ⟨rfl, rfl⟩) | (go_at_call 54; (with_reducible refine (digit1_any _ _).mono ?_); rintro e w' ⟨rfl, rfl⟩) | (go_at_call 23; (with_reducible refine (letter1_any _ _).mono ?_); rintro e w' ⟨rfl, rfl⟩))
              go_ret
              exact Ret.b HF.out.symm
            · go_wp2_with (first | (go_at_call 48; refine HAT'.out.mono ?_; rintro e w' ⟨rfl, rfl⟩) | (go_at_call 54; (with_reducible refine (digit1_any _ _).mono ?_); rintro e w' ⟨rfl, rfl⟩) | (go_at_call 23; (with_reducible refine (letter1_any _ _).mono ?_); rintro e w' ⟨rfl, rfl⟩))
              go_ret
              exact Ret.b HF.out.symm
          · cases hn0 : ((n : Int) == 0)
            · have HN0 := hide (show ¬ n = 0 by simp at hn0; omega)
              go_wp2_with (first | (go_at_call 48; refine HAT'.out.mono ?_; rintro e w' ⟨rfl, rfl⟩) | (go_at_call 54; (with_reducible refine (digit1_any _ _).mono ?_); rintro e w' ⟨rfl, rfl⟩) | (go_at_call 23; (with_reducible refine (letter1_any _ _).mono ?_); rintro e w' ⟨rfl, rfl⟩))
              go_round
              case rel => exact ⟨pos + wd, n + 1, by go_num, by go_num, by rw [← HN.out, HI.out, isNameR_cons, if_neg (by simp [hD]; intro _; exact HN0.out)], by omega, hw2⟩
              case measure => simp [intOf]; omega
            · have HN0 := hide (show n = 0 by simp at hn0; omega)
              have HF := hide (show B0 = false by rw [← HN.out, HI.out, isNameR_cons, if_pos ⟨hL, .inl HN0.out⟩])
              go_wp2_with (first | (go_at_call 48; refine HAT'.out.mono ?_; rintro e w' ⟨rfl, rfl⟩) | (go_at_call 54; (with_reducible refine (digit1_any _ _).mono ?_); rintro e w' ⟨rfl, rfl⟩) | (go_at_call 23; (with_reducible refine (letter1_any _ _).mono ?_); rintro e w' ⟨rfl, rfl⟩))
              go_ret
              exact Ret.b HF.out.symm
        · go_wp2_with (first | (go_at_call 48; refine HAT'.out.mono ?_; rintro e w' ⟨rfl, rfl⟩) | (go_at_call 54; (with_reducible refine (digit1_any _ _).mono ?_); rintro e w' ⟨rfl, rfl⟩) | (go_at_call 23; (with_reducible refine (letter1_any _ _).mono ?_); rintro e w' ⟨rfl, rfl⟩))
          go_round
          case rel => exact ⟨pos + wd, n + 1, by go_num, by go_num, by rw [← HN.out, HI.out, isNameR_cons, if_neg (by simp [hL])], by omega, hw2⟩
          case measure => simp [intOf]; omega
    · have HEND := hide (show B0 = (decide (1 ≤ n) && decide (n ≤ 16)) by rw [← HN.out, items_end hp]; rfl)
      by_cases h1 : 1 ≤ n
      · by_cases h16 : n ≤ 16
        · have HF := hide (show B0 = true by rw [HEND.out]; simp [h1, h16])
          go_wp2_with fail
          go_ret
          exact Ret.b (by rw [HF.out]; simp; omega)
        · have HF := hide (show B0 = false by rw [HEND.out]; simp [h16])
          go_wp2_with fail
          go_ret
          exact Ret.b (by rw [HF.out]; simp; omega)
      · have HF := hide (show B0 = false by rw [HEND.out]; simp [h1])
        go_wp2_with fail
        go_ret
        exact Ret.b HF.out.symm

set_option maxRecDepth 100000 in
set_option maxHeartbeats 8000000 in
/-- Two slices that read as the same words are the same. -/
theorem same_eq (w : World) (S S' : Nat → Prop) (A A' : Option Addr) (n c n' c' : Nat) (xs : List Word) (h : Sl w S A n c xs) (h' : Sl w S' A' n' c' xs) : Calls Tryd.prog 16 #[.slice A n c, .slice A' n' c'] w (RetX (.bool true) w) := by
  have hnn : n' = n := by rw [← h'.len, h.len]
  subst hnn
  have hn := h.nle
  have HS := hide h; have HS' := hide h'
  clear h h'
  go_enter Tryd.func16, Tryd.ntmps16
  go_wp2_with fail
  go_loopw [5] (fun i wr => ∃ k : Nat, k ≤ n' ∧ i = .int .i64 k ∧ ∃ u : Ext, wr = w.ext u) (fun i _ => n' - (intOf i).toNat)
  case atStart => exact ⟨0, Nat.zero_le _, rfl, ext_refl w⟩
  case round =>
    obtain ⟨k, hk, rfl, u0, rfl⟩ := hrel
    by_cases hlt : k < n'
    · obtain ⟨b, off, x, rfl, hb, hx, _, _, _, _, _, c0, c1, c2, c3, c4⟩ := at_Word HS.out hlt
      obtain ⟨b', off', x', rfl, hb', hx', _, _, _, _, _, d0, d1, d2, d3, d4⟩ := at_Word HS'.out hlt
      obtain rfl : x = x' := by rw [hx] at hx'; exact Option.some.inj hx'
      clear hx hx'
      go_wp2_with fail
      refine wp_region_ext (by kernel_rfl) (by kernel_rfl) ?_
      repeat (any_goals (first | go_big_quiet_step ((fail)) | quiet_step ((fail))))
      refine wpQuiet_nil ?_
      rintro _ ⟨uq, rfl⟩
      go_wp2_with fail
      go_roundw
      case rel => exact ⟨k + 1, by omega, by go_num, by obtain ⟨y, hy⟩ := ext_ext w u0 uq; exact ⟨y, hy⟩⟩
      case measure => simp [intOf]; omega
    · go_wp2_with fail
      go_ret
      exact ⟨rfl, u0, rfl⟩

def R1 : ReadR := resS (runS (items ⟨#[120, 49, 32, 61, 32, 45, 53, 32, 59, 32, 102, 105, 118, 101]⟩ 0) st0)
def R2 : ReadR := resS (runS (items ⟨#[97, 98, 226, 134, 146, 99]⟩ 0) st0)
theorem aw1 : R1.err = 0 ∧ R1.words.length = 3 ∧ (R1.words[2]?).map (fun x => (x.n, x.kind)) = some (-5, 2) := by decide +kernel
theorem aw2 : R2.err = 0 ∧ R2.words.length = 3 ∧ (R2.words[1]?).map (fun x => x.col) = some 3 ∧ (R2.words[2]?).map (fun x => x.col) = some 4 := by decide +kernel
end Go.Proofs.YtmlopggainkoiaaDoor
