/- Walks: small functions, second part. -/
import Derived.Test.YtahblhiolkdnnaaS06
set_option linter.unusedSimpArgs false
set_option linter.unusedVariables false
namespace Go.Proofs.Ytahblhiolkdnnaa
open Go.RowKit

theorem inserted_any (o : Int) (w : World) : Calls Try.prog 28 #[.int .i64 o] w (Ret (.bool (insertedB o)) w) := by
  by_cases h1 : o = 15
  · subst h1; go_enter Try.func28, Try.ntmps28
    go_wp2; go_ret; exact Ret.b rfl
  by_cases h2 : o = 16
  · subst h2; go_enter Try.func28, Try.ntmps28
    go_wp2; go_ret; exact Ret.b rfl
  by_cases h3 : o = 17
  · subst h3; go_enter Try.func28, Try.ntmps28
    go_wp2; go_ret; exact Ret.b rfl
  have e1 : (o == 15) = false := by simpa using h1
  have e2 : (o == 16) = false := by simpa using h2
  have e3 : (o == 17) = false := by simpa using h3
  have key : insertedB o = false := by simp [insertedB, e1, e2, e3]
  have K := hide key; clear key h1 h2 h3
  go_enter Try.func28, Try.ntmps28
  go_wp2; go_ret; exact Ret.b K.out.symm
theorem inserted6_any (o : Int) (w : World) : Calls Try.prog 29 #[.int .i64 o] w (Ret (.bool (insertedB o)) w) := by
  by_cases h1 : o = 15
  · subst h1; go_enter Try.func29, Try.ntmps29
    go_wp2; go_ret; exact Ret.b rfl
  by_cases h2 : o = 16
  · subst h2; go_enter Try.func29, Try.ntmps29
    go_wp2; go_ret; exact Ret.b rfl
  have e1 : (o == 15) = false := by simpa using h1
  have e2 : (o == 16) = false := by simpa using h2
  have key : insertedB o = (o == 17) := by simp [insertedB, e1, e2]
  have K := hide key; clear key h1 h2
  go_enter Try.func29, Try.ntmps29
  go_wp2; go_ret; exact Ret.b K.out.symm
theorem pick_any (x n : Int) (w : World) (hx : InI x) (hn : InI n) : Calls Try.prog 13 #[.int .i64 x, .int .i64 n] w (Ret (.int .i64 (pickI x n)) w) := by
  obtain ⟨x1, x2⟩ := hx
  obtain ⟨n1, n2⟩ := hn
  by_cases h1 : n < 1
  · have key : pickI x n = 0 := by simp [pickI, h1]
    have K := hide key; clear key
    go_enter Try.func13, Try.ntmps13
    go_wp2; go_ret; exact Ret.i K.out.symm
  have b1 : x.tmod n < n := Int.tmod_lt_of_pos _ (by omega)
  have b2 : -n < x.tmod n := by
    have := Int.tmod_lt_of_pos (-x) (show 0 < n by omega)
    rw [Int.neg_tmod] at this
    omega
  have b3 : (n == 0) = false := by rw [beq_eq_false_iff_ne]; omega
  by_cases h2 : x.tmod n < 0
  · have key : pickI x n = x.tmod n + n := by simp [pickI, h1, h2]
    have K := hide key; clear key
    go_enter Try.func13, Try.ntmps13
    go_wp2; go_ret; exact Ret.i K.out.symm
  · have key : pickI x n = x.tmod n := by simp [pickI, h1, h2]
    have K := hide key; clear key
    go_enter Try.func13, Try.ntmps13
    go_wp2; go_ret; exact Ret.i K.out.symm
theorem mark_any (k i : Int) (w : World) (hk : 0 ≤ k ∧ k ≤ 100000000) (hi : 0 ≤ i ∧ i ≤ 100000000) : Calls Try.prog 40 #[.int .i64 k, .int .i64 i] w (Ret (.int .i64 (markI k i)) w) := by
  obtain ⟨k1, k2⟩ := hk
  obtain ⟨i1, i2⟩ := hi
  go_enter Try.func40, Try.ntmps40
  go_wp2; go_ret; exact Ret.i rfl
theorem has6_any (o : Int) (w : World) : Calls Try.prog 50 #[.int .i64 o] w (Ret (.string (hasL o)) w) := by
  have key : ∀ s, hasL o = s → Hd (hasL o = s) := fun s h => ⟨h⟩
  by_cases h1 : o = 1
  · subst h1; go_enter Try.func50, Try.ntmps50
    go_wp2; go_ret; exact ⟨rfl, rfl⟩
  have e1 : (o == 1) = false := by simpa using h1
  by_cases h2 : 2 ≤ o
  · by_cases h3 : o ≤ 10
    · have K := key _ (by unfold hasL; rw [if_neg h1, if_pos ⟨h2, h3⟩]); clear key
      go_enter Try.func50, Try.ntmps50
      go_wp2; go_ret; exact ⟨by rw [K.out]; rfl, rfl⟩
    · by_cases h4 : o = 11
      · subst h4; go_enter Try.func50, Try.ntmps50
        go_wp2; go_ret; exact ⟨rfl, rfl⟩
      by_cases h5 : o = 12
      · subst h5; go_enter Try.func50, Try.ntmps50
        go_wp2; go_ret; exact ⟨rfl, rfl⟩
      by_cases h6 : o = 13
      · subst h6; go_enter Try.func50, Try.ntmps50
        go_wp2; go_ret; exact ⟨rfl, rfl⟩
      by_cases h7 : o = 15
      · subst h7; go_enter Try.func50, Try.ntmps50
        go_wp2; go_ret; exact ⟨rfl, rfl⟩
      by_cases h8 : o = 16
      · subst h8; go_enter Try.func50, Try.ntmps50
        go_wp2; go_ret; exact ⟨rfl, rfl⟩
      by_cases h9 : o = 17
      · subst h9; go_enter Try.func50, Try.ntmps50
        go_wp2; go_ret; exact ⟨rfl, rfl⟩
      have e4 : (o == 11) = false := by simpa using h4
      have e5 : (o == 12) = false := by simpa using h5
      have e6 : (o == 13) = false := by simpa using h6
      have e7 : (o == 15) = false := by simpa using h7
      have e8 : (o == 16) = false := by simpa using h8
      have e9 : (o == 17) = false := by simpa using h9
      have K := key _ (by unfold hasL; rw [if_neg h1, if_neg (by omega), if_neg h4, if_neg h5, if_neg h6, if_neg h7, if_neg h8, if_neg h9]); clear key
      go_enter Try.func50, Try.ntmps50
      go_wp2; go_ret; exact ⟨by rw [K.out]; rfl, rfl⟩
  · have h3 : decide (2 ≤ o) = false := by simpa using h2
    have e4 : (o == 11) = false := by rw [beq_eq_false_iff_ne]; omega
    have e5 : (o == 12) = false := by rw [beq_eq_false_iff_ne]; omega
    have e6 : (o == 13) = false := by rw [beq_eq_false_iff_ne]; omega
    have e7 : (o == 15) = false := by rw [beq_eq_false_iff_ne]; omega
    have e8 : (o == 16) = false := by rw [beq_eq_false_iff_ne]; omega
    have e9 : (o == 17) = false := by rw [beq_eq_false_iff_ne]; omega
    have K := key _ (by unfold hasL; rw [if_neg h1, if_neg (by omega), if_neg (by omega), if_neg (by omega), if_neg (by omega), if_neg (by omega), if_neg (by omega), if_neg (by omega)]); clear key
    go_enter Try.func50, Try.ntmps50
    go_wp2; go_ret; exact ⟨by rw [K.out]; rfl, rfl⟩
theorem machineOf_any (w : World) (S : Nat → Prop) (m : Machine) (A1 A2 : Option Addr) (n1 c1 n2 c2 : Nat) (h1 : Sl w S A1 n1 c1 m.args) (h2 : Sl w S A2 n2 c2 m.saved)
    (hb : n1 ≤ 1048576 ∧ n2 ≤ 1048576) :
    Calls Try.prog 10 #[.agg #[.int .i64 m.regs, .slice A1 n1 c1, .int .i64 m.ret, .slice A2 n2 c2]] w (RetX (.int .i64 ((n1 : Int) + n2)) w) := by
  obtain ⟨b1, b2⟩ := hb
  go_enter Try.func10, Try.ntmps10
  go_wp2; go_ret; exact RetX.i rfl (by repeat (first | exact Below.refl _ _ | assumption | refine Below.alloc ?_ (by simp [size_ext]; try omega) _ | refine Below.ext ?_ (by simp [size_ext]; try omega) _ | refine Below.drew ?_ | refine Below.setCell ?_ (by simp [size_ext]; try omega) _))
end Go.Proofs.Ytahblhiolkdnnaa
