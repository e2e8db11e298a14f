/- Runes: what is a letter, a digit, a sign; the program's and the document's. -/
import Derived.Test.YtmlopggainkoiaaDoorRD
set_option linter.unusedSimpArgs false
set_option linter.unusedVariables false
namespace Go.Proofs.YtmlopggainkoiaaDoor
open Go.RowKit

set_option maxHeartbeats 4000000 in
theorem letter_any (r : Int) (w : World) : Calls Tryd.prog 22 #[.int .i32 r] w (Ret (.bool (isL r)) w) := by
  by_cases h1 : r = 95
  · subst h1
    go_enter Tryd.func22, Tryd.ntmps22
    go_wp2
    go_ret
    exact ⟨rfl, rfl⟩
  · by_cases h2 : 97 ≤ r <;> by_cases h3 : r ≤ 122 <;> by_cases h4 : 945 ≤ r <;> by_cases h5 : r ≤ 969
    all_goals (try (exfalso; omega))
    all_goals go_enter Tryd.func22, Tryd.ntmps22
    all_goals go_wp2
    all_goals go_ret
    all_goals first | exact Ret.b (Eq.symm (isL_iff.2 (by omega))) | exact Ret.b (Eq.symm (isL_off (by omega)))
theorem digit_any (r : Int) (w : World) : Calls Tryd.prog 53 #[.int .i32 r] w (Ret (.bool (isD r)) w) := by
  by_cases h2 : 48 ≤ r <;> by_cases h3 : r ≤ 57
  all_goals (try (exfalso; omega))
  all_goals go_enter Tryd.func53, Tryd.ntmps53
  all_goals go_wp2
  all_goals go_ret
  all_goals first | exact Ret.b (Eq.symm (isD_iff.2 (by omega))) | exact Ret.b (Eq.symm (isD_off (by omega)))
theorem isS_off {r : Int} (h : ¬ (r = 61 ∨ r = 44 ∨ r = 58 ∨ r = 40 ∨ r = 41 ∨ r = 91 ∨ r = 93 ∨ r = 43 ∨ r = 8594 ∨ r = 8592 ∨ r = 183)) : isS r = false := by
  rw [← Bool.not_eq_true, isS_iff]; exact h
theorem sign_any (r : Int) (w : World) : Calls Tryd.prog 24 #[.int .i32 r] w (Ret (.bool (isS r)) w) := by
  by_cases h : r = 61 ∨ r = 44 ∨ r = 58 ∨ r = 40 ∨ r = 41 ∨ r = 91 ∨ r = 93 ∨ r = 43 ∨ r = 8594 ∨ r = 8592 ∨ r = 183
  · rcases h with rfl | rfl | rfl | rfl | rfl | rfl | rfl | rfl | rfl | rfl | rfl
    all_goals go_enter Tryd.func24, Tryd.ntmps24
    all_goals go_wp2
    all_goals go_ret
    all_goals exact ⟨rfl, rfl⟩
  · have HS := hide (isS_off h)
    have n61 : (r == 61) = false := by simp only [beq_eq_false_iff_ne]; omega
    have n44 : (r == 44) = false := by simp only [beq_eq_false_iff_ne]; omega
    have n58 : (r == 58) = false := by simp only [beq_eq_false_iff_ne]; omega
    have n40 : (r == 40) = false := by simp only [beq_eq_false_iff_ne]; omega
    have n41 : (r == 41) = false := by simp only [beq_eq_false_iff_ne]; omega
    have n91 : (r == 91) = false := by simp only [beq_eq_false_iff_ne]; omega
    have n93 : (r == 93) = false := by simp only [beq_eq_false_iff_ne]; omega
    have n43 : (r == 43) = false := by simp only [beq_eq_false_iff_ne]; omega
    have n8594 : (r == 8594) = false := by simp only [beq_eq_false_iff_ne]; omega
    have n8592 : (r == 8592) = false := by simp only [beq_eq_false_iff_ne]; omega
    have n183 : (r == 183) = false := by simp only [beq_eq_false_iff_ne]; omega
    clear h
    go_enter Tryd.func24, Tryd.ntmps24
    go_wp2
    go_ret
    exact Ret.b HS.out.symm
theorem within_any (r lo hi : Int) (w : World) : Calls Tryd.prog 60 #[.int .i32 r, .int .i32 lo, .int .i32 hi] w (Ret (.bool (decide (lo ≤ r) && decide (r ≤ hi))) w) := by
  by_cases h1 : lo ≤ r <;> by_cases h2 : r ≤ hi
  all_goals go_enter Tryd.func60, Tryd.ntmps60
  all_goals go_wp2
  all_goals go_ret
  all_goals exact Ret.b (by simp [h1, h2])
theorem letter1_any (r : Int) (w : World) : Calls Tryd.prog 23 #[.int .i32 r] w (Ret (.bool (isL r)) w) := by
  by_cases h1 : (decide (97 ≤ r) && decide (r ≤ 122)) = true
  · have HS := hide h1
    go_enter Tryd.func23, Tryd.ntmps23
    go_wp2_with (go_at_call 60; (with_reducible refine (within_any _ _ _ _).mono ?_); rintro e w' ⟨rfl, rfl⟩)
    go_ret
    exact Ret.b (by have := HS.out; simp [isL, this])
  · by_cases h2 : (decide (945 ≤ r) && decide (r ≤ 969)) = true
    · have HS := hide h2
      simp only [Bool.not_eq_true] at h1
      go_enter Tryd.func23, Tryd.ntmps23
      go_wp2_with (go_at_call 60; (with_reducible refine (within_any _ _ _ _).mono ?_); rintro e w' ⟨rfl, rfl⟩)
      go_ret
      exact Ret.b (by have := HS.out; simp [isL, this])
    · simp only [Bool.not_eq_true] at h1 h2
      have HS := hide h1; have HS2 := hide h2
      by_cases h3 : (r == 95) = true
      · go_enter Tryd.func23, Tryd.ntmps23
        go_wp2_with (go_at_call 60; (with_reducible refine (within_any _ _ _ _).mono ?_); rintro e w' ⟨rfl, rfl⟩)
        go_ret
        exact Ret.b (by simp [isL, h3])
      · simp only [Bool.not_eq_true] at h3
        go_enter Tryd.func23, Tryd.ntmps23
        go_wp2_with (go_at_call 60; (with_reducible refine (within_any _ _ _ _).mono ?_); rintro e w' ⟨rfl, rfl⟩)
        go_ret
        exact Ret.b (by simp only [isL, HS.out, HS2.out, h3]; rfl)
theorem digit1_any (r : Int) (w : World) : Calls Tryd.prog 54 #[.int .i32 r] w (Ret (.bool (isD r)) w) := by
  go_enter Tryd.func54, Tryd.ntmps54
  go_wp2_with (go_at_call 60; (with_reducible refine (within_any _ _ _ _).mono ?_); rintro e w' ⟨rfl, rfl⟩)
  go_ret
  exact Ret.b (by simp [isD])
theorem sign1_any (r : Int) (w : World) : Calls Tryd.prog 25 #[.int .i32 r] w (Ret (.bool (isS r)) w) := by
  by_cases h : r = 61 ∨ r = 44 ∨ r = 58 ∨ r = 40 ∨ r = 41 ∨ r = 91 ∨ r = 93 ∨ r = 43 ∨ r = 8594 ∨ r = 8592 ∨ r = 183
  · rcases h with rfl | rfl | rfl | rfl | rfl | rfl | rfl | rfl | rfl | rfl | rfl
    all_goals go_enter Tryd.func25, Tryd.ntmps25
    all_goals go_wp2
    all_goals go_ret
    all_goals exact ⟨rfl, rfl⟩
  · have HS := hide (isS_off h)
    have n61 : (r == 61) = false := by simp only [beq_eq_false_iff_ne]; omega
    have n44 : (r == 44) = false := by simp only [beq_eq_false_iff_ne]; omega
    have n58 : (r == 58) = false := by simp only [beq_eq_false_iff_ne]; omega
    have n40 : (r == 40) = false := by simp only [beq_eq_false_iff_ne]; omega
    have n41 : (r == 41) = false := by simp only [beq_eq_false_iff_ne]; omega
    have n91 : (r == 91) = false := by simp only [beq_eq_false_iff_ne]; omega
    have n93 : (r == 93) = false := by simp only [beq_eq_false_iff_ne]; omega
    have n43 : (r == 43) = false := by simp only [beq_eq_false_iff_ne]; omega
    have n8594 : (r == 8594) = false := by simp only [beq_eq_false_iff_ne]; omega
    have n8592 : (r == 8592) = false := by simp only [beq_eq_false_iff_ne]; omega
    have n183 : (r == 183) = false := by simp only [beq_eq_false_iff_ne]; omega
    clear h
    go_enter Tryd.func25, Tryd.ntmps25
    go_wp2
    go_ret
    exact Ret.b HS.out.symm
theorem blank1_any (r : Int) (w : World) : Calls Tryd.prog 49 #[.int .i32 r] w (Ret (.bool (isB r)) w) := by
  cases h1 : (r == 32) <;> cases h2 : (r == 9)
  all_goals have H1 := hide h1
  all_goals have H2 := hide h2
  all_goals go_enter Tryd.func49, Tryd.ntmps49
  all_goals go_wp2
  all_goals go_ret
  all_goals exact Ret.b (by simp only [isB, H1.out, H2.out]; rfl)
end Go.Proofs.YtmlopggainkoiaaDoor
